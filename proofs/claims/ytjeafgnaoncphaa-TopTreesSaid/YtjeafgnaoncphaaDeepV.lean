/- What the visit of a deep walk does: the walk. Conditions: in each statement. -/
import Derived.Test.YtjeafgnaoncphaaFrom
import Derived.Test.YtjeafgnaoncphaaFlex
import Derived.Test.YtjeafgnaoncphaaPlainA
namespace Go.Proofs.Ytjeafgnaoncphaa
open Go.RowKit Go.Shelf Gr
attribute [local go_sem] Oper.semAt_some

/-- where the variables of a deep walk lie -/
structure DEnv where
  bm : Nat
  bl : Nat
  bf : Nat
  gs : Nat
  caps : Nat
  bb : Nat
  gm : Nat
  gl : Nat
  gf : Nat
  bn : Nat
  bs : Nat
  bv : Nat

structure DEnv.Ok (E : DEnv) : Prop where
  a : E.bm < E.bl
  b : E.bl < E.bf
  c : E.bf < E.gs
  d : E.gs < E.bb
  e1 : E.bb < E.gm
  e2 : E.bb < E.gl
  e3 : E.bb < E.gf
  f1 : E.gm ≠ E.gl
  f2 : E.gm ≠ E.gf
  f3 : E.gl ≠ E.gf
  g1 : E.gm < E.bn
  g2 : E.gl < E.bn
  g3 : E.gf < E.bn
  h : E.bn < E.bs
  i : E.bs < E.bv

/-- the blocks that a visit writes -/
def DEnv.hot (E : DEnv) (b : Nat) : Prop := b = E.bs ∨ b = E.bn ∨ b = E.gm ∨ b = E.gf ∨ b = E.gl

structure DMem (E : DEnv) (n : Nat) (O : List Nat) (s : DSt) (W : World) : Prop where
  seen : Boxed W E.bs 65 (.int .u64 (s.seen : Int))
  now : Boxed W E.bn 3 (.int .i64 (s.now : Int))
  met : Boxed W E.bm 28 (.slice (some ⟨E.gm, 0, none⟩) n n)
  left : Boxed W E.bl 28 (.slice (some ⟨E.gl, 0, none⟩) n n)
  frm : Boxed W E.bf 28 (.slice (some ⟨E.gf, 0, none⟩) n n)
  bes : Boxed W E.bb 62 (.slice (some ⟨E.gs, 0, none⟩) n E.caps)
  vis : Boxed W E.bv 83 (.func (.func 59) #[] #[.pointer (some ⟨E.bs, 0, none⟩), .pointer (some ⟨E.bn, 0, none⟩), .pointer (some ⟨E.bm, 0, none⟩), .pointer (some ⟨E.bf, 0, none⟩), .pointer (some ⟨E.bb, 0, none⟩), .pointer (some ⟨E.bv, 0, none⟩), .pointer (some ⟨E.bl, 0, none⟩)])
  om : W.ownsRow E.bb 3 1 (.slice (some ⟨E.gm, 0, none⟩) n n) n (ints s.met)
  ol : W.ownsRow E.bb 3 1 (.slice (some ⟨E.gl, 0, none⟩) n n) n (ints s.left)
  ofr : W.ownsRow E.bb 3 1 (.slice (some ⟨E.gf, 0, none⟩) n n) n (ints s.frm)
  os : W.ownsRow E.bf 65 1 (.slice (some ⟨E.gs, 0, none⟩) n E.caps) n (setsOf O)

/-- none but the hot blocks has turned -/
structure Hot (E : DEnv) (W W' : World) : Prop where
  os : W'.os = W.os
  tape : W'.tape = W.tape
  output : W'.output = W.output
  size : W.heap.size ≤ W'.heap.size
  block : ∀ b, b < W.heap.size → ¬ E.hot b → W'.heap[b]? = W.heap[b]?

theorem Hot.refl (E : DEnv) (W : World) : Hot E W W := ⟨rfl, rfl, rfl, Nat.le_refl _, fun _ _ _ => rfl⟩
theorem Hot.trans {E : DEnv} {a b c : World} (h : Hot E a b) (k : Hot E b c) : Hot E a c :=
  ⟨k.os.trans h.os, k.tape.trans h.tape, k.output.trans h.output, Nat.le_trans h.size k.size, fun i hi hn => (k.block i (Nat.lt_of_lt_of_le hi h.size) hn).trans (h.block i hi hn)⟩
theorem Hot.later {E : DEnv} {a b c : World} (h : Hot E a b) (k : Below b.heap.size b c) : Hot E a c :=
  h.trans ⟨k.os, k.tape, k.output, k.size, fun i hi _ => k.block i hi⟩
theorem Hot.grown {E : DEnv} {a b c : World} {r : Nat} (h : Hot E a b) (k : b.grownBy c (some r)) (hr : E.hot r ∨ a.heap.size ≤ r) : Hot E a c :=
  ⟨k.os.trans h.os, k.tape.trans h.tape, k.output.trans h.output, Nat.le_trans h.size k.size, fun i hi hn => (k.block i (Nat.lt_of_lt_of_le hi h.size) (fun e => by
    cases e
    rcases hr with h1 | h1
    · exact hn h1
    · omega)).trans (h.block i hi hn)⟩
theorem Hot.boxed {E : DEnv} {W W' : World} {B : Nat} {t : TypeId} {v : Value} (h : Hot E W W') (hb : Boxed W B t v) (hn : ¬ E.hot B) : Boxed W' B t v := (h.block B hb.lt hn).trans hb
theorem Hot.below {E : DEnv} {B : Nat} {a b c : World} (h : Hot E b c) (k : Below B a b) (hB : B ≤ b.heap.size) (hh : ∀ r, E.hot r → B ≤ r) : Below B a c :=
  ⟨h.os.trans k.os, h.tape.trans k.tape, h.output.trans k.output, Nat.le_trans k.size h.size, fun i hi => (h.block i (by omega) (fun e => by have := hh i e; omega)).trans (k.block i hi)⟩

theorem row_cells {W : World} {base g : Nat} {e : TypeId} {n c : Nat} {xs : List Value} (h : W.ownsRow base e 1 (.slice (some ⟨g, 0, none⟩) n c) n xs) : ∃ o : Obj, W.heap[g]? = some o ∧ o.isCells = true := by
  rcases h.2 with ⟨h1, _⟩ | ⟨g', cap, cur, h1, _, h2, _⟩
  · cases h1
  · cases h1; exact ⟨_, h2, rfl⟩

theorem DMem.hotCells {E : DEnv} {n : Nat} {O : List Nat} {s : DSt} {W : World} (h : DMem E n O s W) (b : Nat) (hb : E.hot b) : ∃ o : Obj, W.heap[b]? = some o ∧ o.isCells = true := by
  rcases hb with rfl | rfl | rfl | rfl | rfl
  · exact ⟨_, h.seen, rfl⟩
  · exact ⟨_, h.now, rfl⟩
  · exact row_cells h.om
  · exact row_cells h.ofr
  · exact row_cells h.ol
theorem Hot.keeps {E : DEnv} {n : Nat} {O : List Nat} {s : DSt} {W W' : World} (h : Hot E W W') (k : DMem E n O s W) : KeepsOthers W W' :=
  ⟨h.size, fun b o hb ho => (h.block b (Array.getElem?_eq_some_iff.1 hb).1 (fun e => by
    obtain ⟨o', h1, h2⟩ := k.hotCells b e
    rw [hb] at h1; cases h1; rw [ho] at h2; cases h2)).trans hb⟩

theorem DMem.later {E : DEnv} {n : Nat} {O : List Nat} {s : DSt} {W W' : World} (h : DMem E n O s W) (hb : Below W.heap.size W W') : DMem E n O s W' :=
  ⟨boxed_later h.seen hb, boxed_later h.now hb, boxed_later h.met hb, boxed_later h.left hb, boxed_later h.frm hb, boxed_later h.bes hb, boxed_later h.vis hb, owns_later h.om hb, owns_later h.ol hb, owns_later h.ofr hb, owns_later h.os hb⟩
theorem DMem.k {E : DEnv} {n : Nat} {O : List Nat} {s : DSt} {A A' : World} {row : Option Nat} (h : DMem E n O s A) (hg : A.grownBy A' row) (hr : ∀ r, row = some r → ∃ o : Obj, A.heap[r]? = some o ∧ o.isCells = false) : DMem E n O s A' :=
  ⟨boxed_k h.seen hg hr, boxed_k h.now hg hr, boxed_k h.met hg hr, boxed_k h.left hg hr, boxed_k h.frm hg hr, boxed_k h.bes hg hr, boxed_k h.vis hg hr, owns_k h.om hg hr, owns_k h.ol hg hr, owns_k h.ofr hg hr, owns_k h.os hg hr⟩

theorem DEnv.Ok.ne {E : DEnv} (hE : E.Ok) : E.bs ≠ E.gm ∧ E.bs ≠ E.gf ∧ E.bs ≠ E.gl ∧ E.bs ≠ E.bn ∧ E.bn ≠ E.gm ∧ E.bn ≠ E.gf ∧ E.bn ≠ E.gl ∧ E.gm ≠ E.gf ∧ E.gm ≠ E.gl ∧ E.gf ≠ E.gl ∧
    ¬ E.hot E.bm ∧ ¬ E.hot E.bl ∧ ¬ E.hot E.bf ∧ ¬ E.hot E.bb ∧ ¬ E.hot E.bv ∧ ¬ E.hot E.gs := by
  obtain ⟨a, b, c, d, e1, e2, e3, f1, f2, f3, g1, g2, g3, h, i⟩ := hE
  unfold DEnv.hot
  refine ⟨?_, ?_, ?_, ?_, ?_, ?_, ?_, ?_, ?_, ?_, ?_, ?_, ?_, ?_, ?_, ?_⟩ <;> omega

/-- a store into a row or a box that is hot: what else stays -/
theorem DMem.cold {E : DEnv} {n : Nat} {O : List Nat} {s : DSt} {W W' : World} (hE : E.Ok) (h : DMem E n O s W) {r : Nat} (hr : E.hot r) (hg : W.grownBy W' (some r)) :
    (r ≠ E.bs → Boxed W' E.bs 65 (.int .u64 (s.seen : Int))) ∧ (r ≠ E.bn → Boxed W' E.bn 3 (.int .i64 (s.now : Int))) ∧
    Boxed W' E.bm 28 (.slice (some ⟨E.gm, 0, none⟩) n n) ∧ Boxed W' E.bl 28 (.slice (some ⟨E.gl, 0, none⟩) n n) ∧ Boxed W' E.bf 28 (.slice (some ⟨E.gf, 0, none⟩) n n) ∧
    Boxed W' E.bb 62 (.slice (some ⟨E.gs, 0, none⟩) n E.caps) ∧ Boxed W' E.bv 83 (.func (.func 59) #[] #[.pointer (some ⟨E.bs, 0, none⟩), .pointer (some ⟨E.bn, 0, none⟩), .pointer (some ⟨E.bm, 0, none⟩), .pointer (some ⟨E.bf, 0, none⟩), .pointer (some ⟨E.bb, 0, none⟩), .pointer (some ⟨E.bv, 0, none⟩), .pointer (some ⟨E.bl, 0, none⟩)]) ∧
    (r ≠ E.gm → W'.ownsRow E.bb 3 1 (.slice (some ⟨E.gm, 0, none⟩) n n) n (ints s.met)) ∧ (r ≠ E.gl → W'.ownsRow E.bb 3 1 (.slice (some ⟨E.gl, 0, none⟩) n n) n (ints s.left)) ∧
    (r ≠ E.gf → W'.ownsRow E.bb 3 1 (.slice (some ⟨E.gf, 0, none⟩) n n) n (ints s.frm)) ∧ W'.ownsRow E.bf 65 1 (.slice (some ⟨E.gs, 0, none⟩) n E.caps) n (setsOf O) := by
  have hne := hE.ne
  have nr : ∀ b, ¬ E.hot b → some b ≠ some r := fun b hb e => by cases e; exact hb hr
  have nq : ∀ b, r ≠ b → some b ≠ some r := fun b hb e => by cases e; exact hb rfl
  refine ⟨fun e => h.seen.kept hg (nq _ e), fun e => h.now.kept hg (nq _ e), h.met.kept hg (nr _ (by simp [hne])), h.left.kept hg (nr _ (by simp [hne])), h.frm.kept hg (nr _ (by simp [hne])), h.bes.kept hg (nr _ (by simp [hne])), h.vis.kept hg (nr _ (by simp [hne])),
    fun e => h.om.kept hg (.inr (nq _ e)), fun e => h.ol.kept hg (.inr (nq _ e)), fun e => h.ofr.kept hg (.inr (nq _ e)), h.os.kept hg (.inr (nr _ (by simp [hne])))⟩

theorem DMem.seen' {E : DEnv} {n : Nat} {O : List Nat} {s : DSt} {W : World} (hE : E.Ok) (h : DMem E n O s W) (t : Nat) : DMem E n O { s with seen := t } (W.setCell ⟨E.bs, 0, none⟩ (.int .u64 (t : Int))) := by
  have hne := hE.ne
  obtain ⟨_, c2, c3, c4, c5, c6, c7, c8, c9, c10, c11⟩ := h.cold hE (.inl rfl) (grownBy_setCell_at W E.bs 0 (.int .u64 (t : Int)))
  exact ⟨h.seen.set _, c2 (by simp [hne]), c3, c4, c5, c6, c7, c8 (by simp [hne]), c9 (by simp [hne]), c10 (by simp [hne]), c11⟩
theorem DMem.now' {E : DEnv} {n : Nat} {O : List Nat} {s : DSt} {W : World} (hE : E.Ok) (h : DMem E n O s W) (t : Nat) : DMem E n O { s with now := t } (W.setCell ⟨E.bn, 0, none⟩ (.int .i64 (t : Int))) := by
  have hne := hE.ne
  obtain ⟨c1, _, c3, c4, c5, c6, c7, c8, c9, c10, c11⟩ := h.cold hE (.inr (.inl rfl)) (grownBy_setCell_at W E.bn 0 (.int .i64 (t : Int)))
  exact ⟨c1 (Ne.symm hne.2.2.2.1), h.now.set _, c3, c4, c5, c6, c7, c8 (by simp [hne]), c9 (by simp [hne]), c10 (by simp [hne]), c11⟩
theorem DMem.met' {E : DEnv} {n : Nat} {O : List Nat} {s : DSt} {W : World} (hE : E.Ok) (h : DMem E n O s W) (i : Nat) (x : Int) : DMem E n O { s with met := s.met.set i x } (W.setCell ⟨E.gm, i, none⟩ (.int .i64 x)) := by
  have hne := hE.ne
  obtain ⟨c1, c2, c3, c4, c5, c6, c7, _, c9, c10, c11⟩ := h.cold hE (.inr (.inr (.inl rfl))) (grownBy_setCell_at W E.gm i (.int .i64 x))
  refine ⟨c1 (Ne.symm hne.1), c2 (Ne.symm hne.2.2.2.2.1), c3, c4, c5, c6, c7, ?_, c9 (by simp [hne]), c10 (by simp [hne]), c11⟩
  have := (h.om.stored i (.int .i64 x)).1
  rwa [ints_set] at this
theorem DMem.frm' {E : DEnv} {n : Nat} {O : List Nat} {s : DSt} {W : World} (hE : E.Ok) (h : DMem E n O s W) (i : Nat) (x : Int) : DMem E n O { s with frm := s.frm.set i x } (W.setCell ⟨E.gf, i, none⟩ (.int .i64 x)) := by
  have hne := hE.ne
  obtain ⟨c1, c2, c3, c4, c5, c6, c7, c8, c9, _, c11⟩ := h.cold hE (.inr (.inr (.inr (.inl rfl)))) (grownBy_setCell_at W E.gf i (.int .i64 x))
  refine ⟨c1 (Ne.symm hne.2.1), c2 (Ne.symm hne.2.2.2.2.2.1), c3, c4, c5, c6, c7, c8 (by simp [Ne.symm hne.2.2.2.2.2.2.2.1]), c9 (by simp [hne]), ?_, c11⟩
  have := (h.ofr.stored i (.int .i64 x)).1
  rwa [ints_set] at this
theorem DMem.left' {E : DEnv} {n : Nat} {O : List Nat} {s : DSt} {W : World} (hE : E.Ok) (h : DMem E n O s W) (i : Nat) (x : Int) : DMem E n O { s with left := s.left.set i x } (W.setCell ⟨E.gl, i, none⟩ (.int .i64 x)) := by
  have hne := hE.ne
  obtain ⟨c1, c2, c3, c4, c5, c6, c7, c8, _, c10, c11⟩ := h.cold hE (.inr (.inr (.inr (.inr rfl)))) (grownBy_setCell_at W E.gl i (.int .i64 x))
  refine ⟨c1 (Ne.symm hne.2.2.1), c2 (Ne.symm hne.2.2.2.2.2.2.1), c3, c4, c5, c6, c7, c8 (Ne.symm hne.2.2.2.2.2.2.2.2.1), ?_, c10 (Ne.symm hne.2.2.2.2.2.2.2.2.2.1), c11⟩
  have := (h.ol.stored i (.int .i64 x)).1
  rwa [ints_set] at this
theorem Hot.set {E : DEnv} {W0 W : World} (h : Hot E W0 W) (r i : Nat) (v : Value) (hr : E.hot r) : Hot E W0 (W.setCell ⟨r, i, none⟩ v) := h.grown (grownBy_setCell_at W r i v) (.inl hr)
theorem DMem.drew {E : DEnv} {n : Nat} {O : List Nat} {s : DSt} {W : World} (h : DMem E n O s W) : DMem E n O s W.drew := h.later ((Below.refl _ _).drew)

end Go.Proofs.Ytjeafgnaoncphaa
