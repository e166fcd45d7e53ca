/- What deep.Walk returns: the walk. Conditions: in each statement. -/
import Derived.Test.YtjeafgnaoncphaaDeep
import Derived.Test.YtjeafgnaoncphaaInv
namespace Go.Proofs.Ytjeafgnaoncphaa
open Go.RowKit Go.Shelf Gr

/-- the frame of deep.Walk behind its region of three lists -/
abbrev dwFrame (n : Nat) (v : Value) (b4 b5 b6 b9 : Nat) (vs y23 y24 y25 y26 y27 y28 : Value) : Act :=
  { tmps := #[.int .i64 (n : Int), v, undef, undef, .pointer (some ⟨b4, 0, none⟩), .pointer (some ⟨b5, 0, none⟩), .pointer (some ⟨b6, 0, none⟩), .nilIface, .nilIface, .pointer (some ⟨b9, 0, none⟩), undef, undef, undef, undef, .int .i64 (n : Int), v, .nilIface, .nilIface, .bool false, undef, .int .i64 (n : Int), v, vs, y23, y24, y25, y26, y27, y28, undef, undef, undef, undef, undef, undef, undef, undef, undef, undef, undef, undef, undef, undef, undef, undef], defers := [] }

/-- one of the three lists, once it is made -/
def MadeRow (W : World) (B n g : Nat) : Prop := W.ownsRow B 3 1 (.slice (some ⟨g, 0, none⟩) n n) n (ints (List.replicate n 0))

structure MakeI (n : Nat) (v : Value) (b4 b5 b6 b9 B : Nat) (vs : Value) (W0 : World) (L : Array Bool) (a : Act) (W : World) (y23 y24 y25 y26 y27 y28 v4 v5 v6 : Value) (g1 g2 g3 : Nat) : Prop where
  fr : a = dwFrame n v b4 b5 b6 b9 vs y23 y24 y25 y26 y27 y28
  m1 : L.getD 0 false = true → y23 = .int .i64 (n : Int)
  m2 : L.getD 2 false = true → y25 = .int .i64 (n : Int)
  m3 : L.getD 4 false = true → y27 = .int .i64 (n : Int)
  r1 : L.getD 1 false = true → y24 = .slice (some ⟨g1, 0, none⟩) n n ∧ MadeRow W B n g1
  r2 : L.getD 3 false = true → y26 = .slice (some ⟨g2, 0, none⟩) n n ∧ MadeRow W B n g2
  r3 : L.getD 5 false = true → y28 = .slice (some ⟨g3, 0, none⟩) n n ∧ MadeRow W B n g3
  n12 : L.getD 1 false = true → L.getD 3 false = true → g1 ≠ g2
  n13 : L.getD 1 false = true → L.getD 5 false = true → g1 ≠ g3
  n23 : L.getD 3 false = true → L.getD 5 false = true → g2 ≠ g3
  x4 : Boxed W b4 28 v4
  x5 : Boxed W b5 28 v5
  x6 : Boxed W b6 28 v6
  s4 : L.getD 6 false = true → v4 = .slice (some ⟨g1, 0, none⟩) n n
  s5 : L.getD 7 false = true → v5 = .slice (some ⟨g2, 0, none⟩) n n
  s6 : L.getD 8 false = true → v6 = .slice (some ⟨g3, 0, none⟩) n n
  c4 : L.getD 6 false = true → L.getD 1 false = true
  c5 : L.getD 7 false = true → L.getD 3 false = true
  c6 : L.getD 8 false = true → L.getD 5 false = true
  os : W.os = W0.os
  tape : W.tape = W0.tape
  output : W.output = W0.output
  size : B ≤ W.heap.size
  block : ∀ b, b < B → b ≠ b4 → b ≠ b5 → b ≠ b6 → W.heap[b]? = W0.heap[b]?

theorem run_made (P : Program) (w : World) (n : Nat) (hn : n ≤ 8) (hu : P.underlying 28 = some (.slice 3)) (hi : (P.info? 3).map (fun i => (i.zero, i.size, i.bytes)) = some (some (.int .i64 0), 1, 8)) (B : Nat) (hB : B ≤ w.heap.size) :
    ∃ w', (Instr.makeSlice 28 (.int .i64 (n : Int)) (.int .i64 (n : Int))).run P w = .ok (.slice (some ⟨w.heap.size, 0, none⟩) n n) w' ∧ MadeRow w' B n w.heap.size ∧ Below w.heap.size w w' := by
  obtain ⟨i0, hi, hz0, hz1, hz2⟩ := info_parts hi
  obtain ⟨w', h1, h2, h3⟩ := run_make_full (P := P) (w := w) B 28 3 i0 (.int .i64 0) 1 hu hi hz0 hz1 .i64 .i64 n (by rw [hz2]; omega) (by unfold maxLen; omega) hB
  refine ⟨w', h1, ?_, below_iff_grown.2 h3⟩
  have ez : (madeCells (Value.int .i64 0).cells (n * 1)).toList = ints (List.replicate n 0) := by
    rw [Nat.mul_one]; show (madeCells #[Value.int .i64 0] n).toList = _; rw [toList_madeCells_one]; simp
  unfold MadeRow
  rw [ez] at h2
  exact h2

theorem MadeRow.later {W W' : World} {B n g : Nat} (h : MadeRow W B n g) (hb : Below W.heap.size W W') : MadeRow W' B n g := owns_later h hb
theorem MadeRow.set {W : World} {B n g b : Nat} (h : MadeRow W B n g) (v : Value) (hne : b ≠ g) : MadeRow (W.setCell ⟨b, 0, none⟩ v) B n g :=
  World.ownsRow.kept h (grownBy_setCell_at W b 0 v) (.inr (by simp [Value.ownBlock]; exact fun e => hne e.symm))
theorem MadeRow.lt {W : World} {B n g : Nat} (h : MadeRow W B n g) : B ≤ g ∧ g < W.heap.size := World.ownsRow.lt h g rfl

theorem made_drop {b4 b5 b6 B : Nat} {W0 W W' : World} (b : Nat) (hb : b = b4 ∨ b = b5 ∨ b = b6) (hg : W.grownBy W' (some b)) (h : ∀ k, k < B → k ≠ b4 → k ≠ b5 → k ≠ b6 → W.heap[k]? = W0.heap[k]?) (hB : B ≤ W.heap.size) :
    ∀ k, k < B → k ≠ b4 → k ≠ b5 → k ≠ b6 → W'.heap[k]? = W0.heap[k]? := fun k h1 h2 h3 h4 => by
  rw [hg.block k (by omega) (by intro e; cases e; rcases hb with rfl | rfl | rfl <;> contradiction)]; exact h k h1 h2 h3 h4

theorem wp_move {P : Program} {o : Oper} {a : Act} {w : World} {K : Act → World → Prop} {Q : Exit → Act → World → Prop} {x : Operand} (ho : o.op = .move x) (h : K (a.put o.dst (a.eval x)) w) : o.wp P a w K Q := by
  unfold Oper.wp execOp
  simp only [ho, Sem.run_pure]
  exact h
theorem wp_make {P : Program} {o : Oper} {a : Act} {w w' : World} {K : Act → World → Prop} {Q : Exit → Act → World → Prop} {t : TypeId} {x y : Operand} {u v z : Value} (ho : o.op = .makeSlice t x y) (hx : a.eval x = u) (hy : a.eval y = v)
    (hr : (Instr.makeSlice t u v).run P w = .ok z w') (h : K (a.put o.dst z) w') : o.wp P a w K Q := by
  unfold Oper.wp execOp
  simp only [ho, hx, hy, Sem.run_bind, hr, Result.andThen_ok, Sem.run_pure]
  exact h

theorem setCell_same {W : World} {B : Nat} {t : TypeId} {v : Value} (h : Boxed W B t v) : W.setCell ⟨B, 0, none⟩ v = W := by
  obtain ⟨hlt, hk⟩ := Array.getElem?_eq_some_iff.1 h
  have e : ∀ f : Obj → Obj, f W.heap[B] = W.heap[B] → W.heap.modify B f = W.heap := fun f hf => by
    refine Array.ext (by simp) fun i h1 h2 => ?_
    rw [Array.getElem_modify]
    split
    · subst_vars; exact hf
    · rfl
  unfold World.setCell
  simp only
  rw [e _ (by rw [hk]; rfl)]

theorem results_c3t {fn : Func} {p q r u : Tmp} {ty : TypeId} (h : fn.results = #[.cell p ty, .cell q ty, .cell r ty, .tmp u]) (tmps : Array Value) (P : Program) {w : World} {v1 v2 v3 : Value} {a1 a2 a3 : Addr}
    (h1 : (asAddr (tmps.getD p undef)).run P w = .ok a1 w) (g1 : (loadVar ty a1).run P w = .ok v1 w) (h2 : (asAddr (tmps.getD q undef)).run P w = .ok a2 w) (g2 : (loadVar ty a2).run P w = .ok v2 w)
    (h3 : (asAddr (tmps.getD r undef)).run P w = .ok a3 w) (g3 : (loadVar ty a3).run P w = .ok v3 w) : (results fn tmps).run P w = .ok (.tuple #[v1, v2, v3, tmps.getD u undef]) w := by
  simp only [Array.getD_eq_getD_getElem?] at h1 h2 h3
  simp only [results, h]
  simp [Sem.run_bind, Result.andThen, h1, h2, h3, g1, g2, g3]

theorem fx_yc {P : Program} {V : Nat → World} {Q : Act → Prop} {o : Oper} {rest : List Oper} {ks : List (Bool × Nat)} {a : Act} {m : Nat} (W0 : World) (hV : ∀ j, V j = W0)
    (hK : ∀ K : Act → Prop, (∀ a, fxRun P V Q rest ks a → K a) → o.still P a W0 K) : fxRun P V Q (o :: rest) ((true, m) :: ks) a := by
  obtain ⟨v, h1, h2⟩ := still_gives (hK _ fun a h => h)
  refine ⟨_, fun j _ => ⟨v, ?_, rfl⟩, h2⟩
  rw [hV]; exact h1

set_option maxRecDepth 100000 in
set_option maxHeartbeats 2000000 in
theorem deep_ok (n : Nat) (v : Value) (ls : List Ln) (w : World) (hr : LinesRd w v ls) (hg : GoodG n ls) :
    Calls Try.prog 32 #[.int .i64 n, v] w fun e w' => ∃ a1 c1 a2 c2 a3 c3, e = .returned (.tuple #[.slice a1 n c1, .slice a2 n c2, .slice a3 n c3, .nilIface]) ∧
      Rd w' (.slice a1 n c1) n (ints (deepWalk (beside n ls) n).met) ∧ Rd w' (.slice a2 n c2) n (ints (deepWalk (beside n ls) n).left) ∧ Rd w' (.slice a3 n c3) n (ints (deepWalk (beside n ls) n).frm) ∧ Below w.heap.size w w' := by
  have HG := Lib.hid hg
  have HC : Hid (errOf (chk n ls) = .nilIface) := by show _ = _; rw [chk_good hg]; rfl
  have hn8 : n ≤ 8 := hg.2.1
  have hlen : (beside n ls).length = n := beside_length n ls
  have hb3 : Below w.heap.size w (((w.alloc (.cells #[.slice none 0 0] 28)).alloc (.cells #[.slice none 0 0] 28)).alloc (.cells #[.slice none 0 0] 28)) := below_c (below_2 _ _ _) (below_alloc' _ _)
  go_enter Try.func32, Try.ntmps32
  go_wp2_with fail
  refine (graphCheck_any n v ls _ (hr.later hb3)).mono ?_
  rintro e w1 ⟨rfl, hB1⟩
  rw [HC.out]
  go_wp2_with fail
  refine (coreBeside_any n v ls _ ((hr.later hb3).later hB1) hg).mono ?_
  rintro e w2 ⟨gs, caps, rfl, ho2, hB2, hs2⟩
  go_wp2_with fail
  have hB12 := below_c hB1 hB2
  have x40 : Boxed (((w.alloc (.cells #[.slice none 0 0] 28)).alloc (.cells #[.slice none 0 0] 28)).alloc (.cells #[.slice none 0 0] 28)) w.heap.size 28 (.slice none 0 0) := ((Boxed.new w 28 (.slice none 0 0)).alloc _).alloc _
  have x50 : Boxed (((w.alloc (.cells #[.slice none 0 0] 28)).alloc (.cells #[.slice none 0 0] 28)).alloc (.cells #[.slice none 0 0] 28)) (w.heap.size + 1) 28 (.slice none 0 0) := by
    have h := (Boxed.new (w.alloc (.cells #[.slice none 0 0] 28)) 28 (.slice none 0 0)).alloc (.cells #[.slice none 0 0] 28)
    rwa [World.size_alloc] at h
  have x60 : Boxed (((w.alloc (.cells #[.slice none 0 0] 28)).alloc (.cells #[.slice none 0 0] 28)).alloc (.cells #[.slice none 0 0] 28)) (w.heap.size + 1 + 1) 28 (.slice none 0 0) := by
    have h := (Boxed.new ((w.alloc (.cells #[.slice none 0 0] 28)).alloc (.cells #[.slice none 0 0] 28)) 28 (.slice none 0 0))
    rwa [World.size_alloc, World.size_alloc] at h
  have hszA : (((w.alloc (.cells #[.slice none 0 0] 28)).alloc (.cells #[.slice none 0 0] 28)).alloc (.cells #[.slice none 0 0] 28)).heap.size = w.heap.size + 3 := by simp
  have hB3 := below_c hB12 (below_alloc' w2 (.cells #[.slice (some ⟨gs, 0, none⟩) n caps] 62))
  have x4 := boxed_later x40 hB3
  have x5 := boxed_later x50 hB3
  have x6 := boxed_later x60 hB3
  have x9 := Boxed.new w2 62 (.slice (some ⟨gs, 0, none⟩) n caps)
  have ho3 := owns_later ho2 (below_alloc' w2 (.cells #[.slice (some ⟨gs, 0, none⟩) n caps] 62))
  have hBw3 := hb3.trans (hB3.mono (by rw [hszA]; omega))
  have hw1 := hB1.size
  have hgs1 := ho2.lt gs rfl
  have hw2 := hB2.size
  rw [hszA] at hw1
  generalize hW3 : w2.alloc (.cells #[.slice (some ⟨gs, 0, none⟩) n caps] 62) = W3 at *
  have hsz3 : W3.heap.size = w2.heap.size + 1 := by rw [← hW3]; simp
  clear hW3 hB3 hB12 x40 x50 x60 hb3 hszA
  refine region_inv (fun L a W => ∃ y23 y24 y25 y26 y27 y28 v4 v5 v6 g1 g2 g3, MakeI n v w.heap.size (w.heap.size + 1) (w.heap.size + 1 + 1) w2.heap.size W3.heap.size (.slice (some ⟨gs, 0, none⟩) n caps) W3 L a W y23 y24 y25 y26 y27 y28 v4 v5 v6 g1 g2 g3) (by kernel_rfl) (by kernel_rfl) ?h0 ?hstep ?hend
  case h0 =>
    exact ⟨undef, undef, undef, undef, undef, undef, _, _, _, 0, 0, 0, rfl, by simp, by simp, by simp, by simp, by simp, by simp, by simp, by simp, by simp, x4, x5, x6, by simp, by simp, by simp, by simp, by simp, by simp, rfl, rfl, rfl, Nat.le_refl _, fun _ _ _ _ _ => rfl⟩
  case hstep =>
    rintro L a W i o hL ⟨y23, y24, y25, y26, y27, y28, v4, v5, v6, g1, g2, g3, h⟩ ho hni hpre
    have hi9 : i < 9 := (List.getElem?_eq_some_iff.1 ho).1
    have hfr := h.fr
    subst hfr
    have hL9 : L.size = 9 := hL
    rcases (show i = 0 ∨ i = 1 ∨ i = 2 ∨ i = 3 ∨ i = 4 ∨ i = 5 ∨ i = 6 ∨ i = 7 ∨ i = 8 from by omega) with rfl | rfl | rfl | rfl | rfl | rfl | rfl | rfl | rfl
    · obtain rfl := Option.some.inj ho
      have e : ∀ j, (L.setIfInBounds 0 true).getD j false = (decide (j = 0) || L.getD j false) := getD_set (by rw [hL]; decide)
      exact wp_move rfl ⟨_, y24, y25, y26, y27, y28, v4, v5, v6, g1, g2, g3, { fr := rfl, m1 := fun _ => rfl, m2 := fun hh => h.m2 (by simpa [e] using hh), m3 := fun hh => h.m3 (by simpa [e] using hh), r1 := fun hh => h.r1 (by simpa [e] using hh), r2 := fun hh => h.r2 (by simpa [e] using hh), r3 := fun hh => h.r3 (by simpa [e] using hh), n12 := fun h1 h2 => h.n12 (by simpa [e] using h1) (by simpa [e] using h2), n13 := fun h1 h2 => h.n13 (by simpa [e] using h1) (by simpa [e] using h2), n23 := fun h1 h2 => h.n23 (by simpa [e] using h1) (by simpa [e] using h2), x4 := h.x4, x5 := h.x5, x6 := h.x6, s4 := fun hh => h.s4 (by simpa [e] using hh), s5 := fun hh => h.s5 (by simpa [e] using hh), s6 := fun hh => h.s6 (by simpa [e] using hh), c4 := fun hh => by rw [e, h.c4 (by simpa [e] using hh)]; simp, c5 := fun hh => by rw [e, h.c5 (by simpa [e] using hh)]; simp, c6 := fun hh => by rw [e, h.c6 (by simpa [e] using hh)]; simp, os := h.os, tape := h.tape, output := h.output, size := h.size, block := h.block }⟩
    · obtain rfl := Option.some.inj ho
      have e : ∀ j, (L.setIfInBounds 1 true).getD j false = (decide (j = 1) || L.getD j false) := getD_set (by rw [hL]; decide)
      have p0 : L.getD 0 false = true := hpre ⟨0, .data⟩ (by simp) rfl
      obtain ⟨W', hrun, hmade, hBm⟩ := run_made Try.prog W n hn8 Try.underlying28 info_int W3.heap.size h.size
      exact wp_make rfl (h.m1 p0) (h.m1 p0) hrun ⟨y23, _, y25, y26, y27, y28, v4, v5, v6, W.heap.size, g2, g3, { fr := rfl, m1 := fun hh => h.m1 (by simpa [e] using hh), m2 := fun hh => h.m2 (by simpa [e] using hh), m3 := fun hh => h.m3 (by simpa [e] using hh), r1 := fun _ => ⟨rfl, hmade⟩, r2 := fun hh => ⟨(h.r2 (by simpa [e] using hh)).1, (h.r2 (by simpa [e] using hh)).2.later hBm⟩, r3 := fun hh => ⟨(h.r3 (by simpa [e] using hh)).1, (h.r3 (by simpa [e] using hh)).2.later hBm⟩, n12 := fun _ h2 => by have := (h.r2 (by simpa [e] using h2)).2.lt; omega, n13 := fun _ h2 => by have := (h.r3 (by simpa [e] using h2)).2.lt; omega, n23 := fun h1 h2 => h.n23 (by simpa [e] using h1) (by simpa [e] using h2), x4 := boxed_later h.x4 hBm, x5 := boxed_later h.x5 hBm, x6 := boxed_later h.x6 hBm, s4 := fun hh => absurd (h.c4 (by simpa [e] using hh)) (by rw [hni]; simp), s5 := fun hh => h.s5 (by simpa [e] using hh), s6 := fun hh => h.s6 (by simpa [e] using hh), c4 := fun _ => by rw [e]; simp, c5 := fun hh => by rw [e, h.c5 (by simpa [e] using hh)]; simp, c6 := fun hh => by rw [e, h.c6 (by simpa [e] using hh)]; simp, os := hBm.os.trans h.os, tape := hBm.tape.trans h.tape, output := hBm.output.trans h.output, size := Nat.le_trans h.size hBm.size, block := fun b h1 h2 h3 h4 => (hBm.block b (Nat.lt_of_lt_of_le h1 h.size)).trans (h.block b h1 h2 h3 h4) }⟩
    · obtain rfl := Option.some.inj ho
      have e : ∀ j, (L.setIfInBounds 2 true).getD j false = (decide (j = 2) || L.getD j false) := getD_set (by rw [hL]; decide)
      exact wp_move rfl ⟨y23, y24, _, y26, y27, y28, v4, v5, v6, g1, g2, g3, { fr := rfl, m1 := fun hh => h.m1 (by simpa [e] using hh), m2 := fun _ => rfl, m3 := fun hh => h.m3 (by simpa [e] using hh), r1 := fun hh => h.r1 (by simpa [e] using hh), r2 := fun hh => h.r2 (by simpa [e] using hh), r3 := fun hh => h.r3 (by simpa [e] using hh), n12 := fun h1 h2 => h.n12 (by simpa [e] using h1) (by simpa [e] using h2), n13 := fun h1 h2 => h.n13 (by simpa [e] using h1) (by simpa [e] using h2), n23 := fun h1 h2 => h.n23 (by simpa [e] using h1) (by simpa [e] using h2), x4 := h.x4, x5 := h.x5, x6 := h.x6, s4 := fun hh => h.s4 (by simpa [e] using hh), s5 := fun hh => h.s5 (by simpa [e] using hh), s6 := fun hh => h.s6 (by simpa [e] using hh), c4 := fun hh => by rw [e, h.c4 (by simpa [e] using hh)]; simp, c5 := fun hh => by rw [e, h.c5 (by simpa [e] using hh)]; simp, c6 := fun hh => by rw [e, h.c6 (by simpa [e] using hh)]; simp, os := h.os, tape := h.tape, output := h.output, size := h.size, block := h.block }⟩
    · obtain rfl := Option.some.inj ho
      have e : ∀ j, (L.setIfInBounds 3 true).getD j false = (decide (j = 3) || L.getD j false) := getD_set (by rw [hL]; decide)
      have p2 : L.getD 2 false = true := hpre ⟨2, .data⟩ (by simp) rfl
      obtain ⟨W', hrun, hmade, hBm⟩ := run_made Try.prog W n hn8 Try.underlying28 info_int W3.heap.size h.size
      exact wp_make rfl (h.m2 p2) (h.m2 p2) hrun ⟨y23, y24, y25, _, y27, y28, v4, v5, v6, g1, W.heap.size, g3, { fr := rfl, m1 := fun hh => h.m1 (by simpa [e] using hh), m2 := fun hh => h.m2 (by simpa [e] using hh), m3 := fun hh => h.m3 (by simpa [e] using hh), r1 := fun hh => ⟨(h.r1 (by simpa [e] using hh)).1, (h.r1 (by simpa [e] using hh)).2.later hBm⟩, r2 := fun _ => ⟨rfl, hmade⟩, r3 := fun hh => ⟨(h.r3 (by simpa [e] using hh)).1, (h.r3 (by simpa [e] using hh)).2.later hBm⟩, n12 := fun h1 _ => by have := (h.r1 (by simpa [e] using h1)).2.lt; omega, n13 := fun h1 h2 => h.n13 (by simpa [e] using h1) (by simpa [e] using h2), n23 := fun _ h2 => by have := (h.r3 (by simpa [e] using h2)).2.lt; omega, x4 := boxed_later h.x4 hBm, x5 := boxed_later h.x5 hBm, x6 := boxed_later h.x6 hBm, s4 := fun hh => h.s4 (by simpa [e] using hh), s5 := fun hh => absurd (h.c5 (by simpa [e] using hh)) (by rw [hni]; simp), s6 := fun hh => h.s6 (by simpa [e] using hh), c4 := fun hh => by rw [e, h.c4 (by simpa [e] using hh)]; simp, c5 := fun _ => by rw [e]; simp, c6 := fun hh => by rw [e, h.c6 (by simpa [e] using hh)]; simp, os := hBm.os.trans h.os, tape := hBm.tape.trans h.tape, output := hBm.output.trans h.output, size := Nat.le_trans h.size hBm.size, block := fun b h1 h2 h3 h4 => (hBm.block b (Nat.lt_of_lt_of_le h1 h.size)).trans (h.block b h1 h2 h3 h4) }⟩
    · obtain rfl := Option.some.inj ho
      have e : ∀ j, (L.setIfInBounds 4 true).getD j false = (decide (j = 4) || L.getD j false) := getD_set (by rw [hL]; decide)
      exact wp_move rfl ⟨y23, y24, y25, y26, _, y28, v4, v5, v6, g1, g2, g3, { fr := rfl, m1 := fun hh => h.m1 (by simpa [e] using hh), m2 := fun hh => h.m2 (by simpa [e] using hh), m3 := fun _ => rfl, r1 := fun hh => h.r1 (by simpa [e] using hh), r2 := fun hh => h.r2 (by simpa [e] using hh), r3 := fun hh => h.r3 (by simpa [e] using hh), n12 := fun h1 h2 => h.n12 (by simpa [e] using h1) (by simpa [e] using h2), n13 := fun h1 h2 => h.n13 (by simpa [e] using h1) (by simpa [e] using h2), n23 := fun h1 h2 => h.n23 (by simpa [e] using h1) (by simpa [e] using h2), x4 := h.x4, x5 := h.x5, x6 := h.x6, s4 := fun hh => h.s4 (by simpa [e] using hh), s5 := fun hh => h.s5 (by simpa [e] using hh), s6 := fun hh => h.s6 (by simpa [e] using hh), c4 := fun hh => by rw [e, h.c4 (by simpa [e] using hh)]; simp, c5 := fun hh => by rw [e, h.c5 (by simpa [e] using hh)]; simp, c6 := fun hh => by rw [e, h.c6 (by simpa [e] using hh)]; simp, os := h.os, tape := h.tape, output := h.output, size := h.size, block := h.block }⟩
    · obtain rfl := Option.some.inj ho
      have e : ∀ j, (L.setIfInBounds 5 true).getD j false = (decide (j = 5) || L.getD j false) := getD_set (by rw [hL]; decide)
      have p4 : L.getD 4 false = true := hpre ⟨4, .data⟩ (by simp) rfl
      obtain ⟨W', hrun, hmade, hBm⟩ := run_made Try.prog W n hn8 Try.underlying28 info_int W3.heap.size h.size
      exact wp_make rfl (h.m3 p4) (h.m3 p4) hrun ⟨y23, y24, y25, y26, y27, _, v4, v5, v6, g1, g2, W.heap.size, { fr := rfl, m1 := fun hh => h.m1 (by simpa [e] using hh), m2 := fun hh => h.m2 (by simpa [e] using hh), m3 := fun hh => h.m3 (by simpa [e] using hh), r1 := fun hh => ⟨(h.r1 (by simpa [e] using hh)).1, (h.r1 (by simpa [e] using hh)).2.later hBm⟩, r2 := fun hh => ⟨(h.r2 (by simpa [e] using hh)).1, (h.r2 (by simpa [e] using hh)).2.later hBm⟩, r3 := fun _ => ⟨rfl, hmade⟩, n12 := fun h1 h2 => h.n12 (by simpa [e] using h1) (by simpa [e] using h2), n13 := fun h1 _ => by have := (h.r1 (by simpa [e] using h1)).2.lt; omega, n23 := fun h1 _ => by have := (h.r2 (by simpa [e] using h1)).2.lt; omega, x4 := boxed_later h.x4 hBm, x5 := boxed_later h.x5 hBm, x6 := boxed_later h.x6 hBm, s4 := fun hh => h.s4 (by simpa [e] using hh), s5 := fun hh => h.s5 (by simpa [e] using hh), s6 := fun hh => absurd (h.c6 (by simpa [e] using hh)) (by rw [hni]; simp), c4 := fun hh => by rw [e, h.c4 (by simpa [e] using hh)]; simp, c5 := fun hh => by rw [e, h.c5 (by simpa [e] using hh)]; simp, c6 := fun _ => by rw [e]; simp, os := hBm.os.trans h.os, tape := hBm.tape.trans h.tape, output := hBm.output.trans h.output, size := Nat.le_trans h.size hBm.size, block := fun b h1 h2 h3 h4 => (hBm.block b (Nat.lt_of_lt_of_le h1 h.size)).trans (h.block b h1 h2 h3 h4) }⟩
    · obtain rfl := Option.some.inj ho
      have e : ∀ j, (L.setIfInBounds 6 true).getD j false = (decide (j = 6) || L.getD j false) := getD_set (by rw [hL]; decide)
      have p1 : L.getD 1 false = true := hpre ⟨1, .data⟩ (by simp) rfl
      have hgr := grownBy_setCell_at W w.heap.size 0 y24
      have hxc := h.x4.cell
      have hxf := h.x4.frozen
      have hre : MakeI n v w.heap.size (w.heap.size + 1) (w.heap.size + 1 + 1) w2.heap.size W3.heap.size (.slice (some ⟨gs, 0, none⟩) n caps) W3 (L.setIfInBounds 6 true) (dwFrame n v w.heap.size (w.heap.size + 1) (w.heap.size + 1 + 1) w2.heap.size (.slice (some ⟨gs, 0, none⟩) n caps) y23 y24 y25 y26 y27 y28) (W.setCell ⟨w.heap.size, 0, none⟩ y24) y23 y24 y25 y26 y27 y28 y24 v5 v6 g1 g2 g3 := { fr := rfl, m1 := fun hh => h.m1 (by simpa [e] using hh), m2 := fun hh => h.m2 (by simpa [e] using hh), m3 := fun hh => h.m3 (by simpa [e] using hh), r1 := fun hh => ⟨(h.r1 (by simpa [e] using hh)).1, (h.r1 (by simpa [e] using hh)).2.set _ (by have := (h.r1 (by simpa [e] using hh)).2.lt; omega)⟩, r2 := fun hh => ⟨(h.r2 (by simpa [e] using hh)).1, (h.r2 (by simpa [e] using hh)).2.set _ (by have := (h.r2 (by simpa [e] using hh)).2.lt; omega)⟩, r3 := fun hh => ⟨(h.r3 (by simpa [e] using hh)).1, (h.r3 (by simpa [e] using hh)).2.set _ (by have := (h.r3 (by simpa [e] using hh)).2.lt; omega)⟩, n12 := fun h1 h2 => h.n12 (by simpa [e] using h1) (by simpa [e] using h2), n13 := fun h1 h2 => h.n13 (by simpa [e] using h1) (by simpa [e] using h2), n23 := fun h1 h2 => h.n23 (by simpa [e] using h1) (by simpa [e] using h2), x4 := h.x4.set _, x5 := h.x5.kept hgr (by simp <;> omega), x6 := h.x6.kept hgr (by simp <;> omega), s4 := fun _ => (h.r1 p1).1, s5 := fun hh => h.s5 (by simpa [e] using hh), s6 := fun hh => h.s6 (by simpa [e] using hh), c4 := fun _ => by rw [e, p1]; simp, c5 := fun hh => by rw [e, h.c5 (by simpa [e] using hh)]; simp, c6 := fun hh => by rw [e, h.c6 (by simpa [e] using hh)]; simp, os := hgr.os.trans h.os, tape := hgr.tape.trans h.tape, output := hgr.output.trans h.output, size := Nat.le_trans h.size hgr.size, block := made_drop w.heap.size (by simp) hgr h.block h.size }
      have hyv := (h.r1 p1).1
      have HRE := Lib.hid hre
      clear hre h hpre hgr e ho2 hs2 hr hsz3
      unfold Oper.wp
      subst hyv
      go_simp
      exact ⟨_, _, _, _, _, _, _, _, _, g1, g2, g3, HRE.out⟩
    · obtain rfl := Option.some.inj ho
      have e : ∀ j, (L.setIfInBounds 7 true).getD j false = (decide (j = 7) || L.getD j false) := getD_set (by rw [hL]; decide)
      have p3 : L.getD 3 false = true := hpre ⟨3, .data⟩ (by simp) rfl
      have p6 : L.getD 6 false = true := hpre ⟨6, .chain⟩ (by simp) rfl
      have hgr := grownBy_setCell_at W (w.heap.size + 1) 0 y26
      have hxc := h.x5.cell
      have hxf := h.x5.frozen
      have hre : MakeI n v w.heap.size (w.heap.size + 1) (w.heap.size + 1 + 1) w2.heap.size W3.heap.size (.slice (some ⟨gs, 0, none⟩) n caps) W3 (L.setIfInBounds 7 true) (dwFrame n v w.heap.size (w.heap.size + 1) (w.heap.size + 1 + 1) w2.heap.size (.slice (some ⟨gs, 0, none⟩) n caps) y23 y24 y25 y26 y27 y28) (W.setCell ⟨(w.heap.size + 1), 0, none⟩ y26) y23 y24 y25 y26 y27 y28 v4 y26 v6 g1 g2 g3 := { fr := rfl, m1 := fun hh => h.m1 (by simpa [e] using hh), m2 := fun hh => h.m2 (by simpa [e] using hh), m3 := fun hh => h.m3 (by simpa [e] using hh), r1 := fun hh => ⟨(h.r1 (by simpa [e] using hh)).1, (h.r1 (by simpa [e] using hh)).2.set _ (by have := (h.r1 (by simpa [e] using hh)).2.lt; omega)⟩, r2 := fun hh => ⟨(h.r2 (by simpa [e] using hh)).1, (h.r2 (by simpa [e] using hh)).2.set _ (by have := (h.r2 (by simpa [e] using hh)).2.lt; omega)⟩, r3 := fun hh => ⟨(h.r3 (by simpa [e] using hh)).1, (h.r3 (by simpa [e] using hh)).2.set _ (by have := (h.r3 (by simpa [e] using hh)).2.lt; omega)⟩, n12 := fun h1 h2 => h.n12 (by simpa [e] using h1) (by simpa [e] using h2), n13 := fun h1 h2 => h.n13 (by simpa [e] using h1) (by simpa [e] using h2), n23 := fun h1 h2 => h.n23 (by simpa [e] using h1) (by simpa [e] using h2), x4 := h.x4.kept hgr (by simp <;> omega), x5 := h.x5.set _, x6 := h.x6.kept hgr (by simp <;> omega), s4 := fun hh => h.s4 (by simpa [e] using hh), s5 := fun _ => (h.r2 p3).1, s6 := fun hh => h.s6 (by simpa [e] using hh), c4 := fun hh => by rw [e, h.c4 (by simpa [e] using hh)]; simp, c5 := fun _ => by rw [e, p3]; simp, c6 := fun hh => by rw [e, h.c6 (by simpa [e] using hh)]; simp, os := hgr.os.trans h.os, tape := hgr.tape.trans h.tape, output := hgr.output.trans h.output, size := Nat.le_trans h.size hgr.size, block := made_drop (w.heap.size + 1) (by simp) hgr h.block h.size }
      have hyv := (h.r2 p3).1
      have HRE := Lib.hid hre
      clear hre h hpre hgr e ho2 hs2 hr hsz3
      unfold Oper.wp
      subst hyv
      go_simp
      exact ⟨_, _, _, _, _, _, _, _, _, g1, g2, g3, HRE.out⟩
    · obtain rfl := Option.some.inj ho
      have e : ∀ j, (L.setIfInBounds 8 true).getD j false = (decide (j = 8) || L.getD j false) := getD_set (by rw [hL]; decide)
      have p5 : L.getD 5 false = true := hpre ⟨5, .data⟩ (by simp) rfl
      have p7 : L.getD 7 false = true := hpre ⟨7, .chain⟩ (by simp) rfl
      have hgr := grownBy_setCell_at W (w.heap.size + 1 + 1) 0 y28
      have hxc := h.x6.cell
      have hxf := h.x6.frozen
      have hre : MakeI n v w.heap.size (w.heap.size + 1) (w.heap.size + 1 + 1) w2.heap.size W3.heap.size (.slice (some ⟨gs, 0, none⟩) n caps) W3 (L.setIfInBounds 8 true) (dwFrame n v w.heap.size (w.heap.size + 1) (w.heap.size + 1 + 1) w2.heap.size (.slice (some ⟨gs, 0, none⟩) n caps) y23 y24 y25 y26 y27 y28) (W.setCell ⟨(w.heap.size + 1 + 1), 0, none⟩ y28) y23 y24 y25 y26 y27 y28 v4 v5 y28 g1 g2 g3 := { fr := rfl, m1 := fun hh => h.m1 (by simpa [e] using hh), m2 := fun hh => h.m2 (by simpa [e] using hh), m3 := fun hh => h.m3 (by simpa [e] using hh), r1 := fun hh => ⟨(h.r1 (by simpa [e] using hh)).1, (h.r1 (by simpa [e] using hh)).2.set _ (by have := (h.r1 (by simpa [e] using hh)).2.lt; omega)⟩, r2 := fun hh => ⟨(h.r2 (by simpa [e] using hh)).1, (h.r2 (by simpa [e] using hh)).2.set _ (by have := (h.r2 (by simpa [e] using hh)).2.lt; omega)⟩, r3 := fun hh => ⟨(h.r3 (by simpa [e] using hh)).1, (h.r3 (by simpa [e] using hh)).2.set _ (by have := (h.r3 (by simpa [e] using hh)).2.lt; omega)⟩, n12 := fun h1 h2 => h.n12 (by simpa [e] using h1) (by simpa [e] using h2), n13 := fun h1 h2 => h.n13 (by simpa [e] using h1) (by simpa [e] using h2), n23 := fun h1 h2 => h.n23 (by simpa [e] using h1) (by simpa [e] using h2), x4 := h.x4.kept hgr (by simp <;> omega), x5 := h.x5.kept hgr (by simp <;> omega), x6 := h.x6.set _, s4 := fun hh => h.s4 (by simpa [e] using hh), s5 := fun hh => h.s5 (by simpa [e] using hh), s6 := fun _ => (h.r3 p5).1, c4 := fun hh => by rw [e, h.c4 (by simpa [e] using hh)]; simp, c5 := fun hh => by rw [e, h.c5 (by simpa [e] using hh)]; simp, c6 := fun _ => by rw [e, p5]; simp, os := hgr.os.trans h.os, tape := hgr.tape.trans h.tape, output := hgr.output.trans h.output, size := Nat.le_trans h.size hgr.size, block := made_drop (w.heap.size + 1 + 1) (by simp) hgr h.block h.size }
      have hyv := (h.r3 p5).1
      have HRE := Lib.hid hre
      clear hre h hpre hgr e ho2 hs2 hr hsz3
      unfold Oper.wp
      subst hyv
      go_simp
      exact ⟨_, _, _, _, _, _, _, _, _, g1, g2, g3, HRE.out⟩
  case hend =>
    rintro L a W hall ⟨y23, y24, y25, y26, y27, y28, v4, v5, v6, g1, g2, g3, h⟩
    have k4 := h.s4 (hall 6 (by decide))
    have k5 := h.s5 (hall 7 (by decide))
    have k6 := h.s6 (hall 8 (by decide))
    have j1 := h.r1 (hall 1 (by decide))
    have j2 := h.r2 (hall 3 (by decide))
    have j3 := h.r3 (hall 5 (by decide))
    have l1 := h.m1 (hall 0 (by decide))
    have l2 := h.m2 (hall 2 (by decide))
    have l3 := h.m3 (hall 4 (by decide))
    have n12 := h.n12 (hall 1 (by decide)) (hall 3 (by decide))
    have n13 := h.n13 (hall 1 (by decide)) (hall 5 (by decide))
    have n23 := h.n23 (hall 3 (by decide)) (hall 5 (by decide))
    obtain ⟨rfl, _, _, _, _, _, _, _, _, _, q4, q5, q6, _, _, _, _, _, _, hos, htp, hou, hszW, hbl⟩ := h
    subst k4 k5 k6 l1 l2 l3
    obtain ⟨rfl, j1⟩ := j1
    obtain ⟨rfl, j2⟩ := j2
    obtain ⟨rfl, j3⟩ := j3
    have hBwW : Below w.heap.size w W := ⟨hos.trans hBw3.os, htp.trans hBw3.tape, hou.trans hBw3.output, Nat.le_trans hBw3.size hszW, fun b hb => (hbl b (by omega) (by omega) (by omega) (by omega)).trans (hBw3.block b hb)⟩
    have q9 : Boxed W w2.heap.size 62 (.slice (some ⟨gs, 0, none⟩) n caps) := (hbl _ (by omega) (by omega) (by omega) (by omega)).trans x9
    have hoW : W.ownsRow (w.heap.size + 1 + 1) 65 1 (.slice (some ⟨gs, 0, none⟩) n caps) n (setsOf (beside n ls)) := by
      refine owns_mono ⟨ho3.1, ?_⟩ (show w.heap.size + 1 + 1 ≤ w1.heap.size by omega)
      rcases ho3.2 with ⟨e1, _⟩ | ⟨g, cap, cur, e1, e2, e3, e4⟩
      · cases e1
      · cases e1
        exact .inr ⟨gs, caps, cur, rfl, e2, (hbl _ (by omega) (by omega) (by omega) (by omega)).trans e3, e4⟩
    have lt1 := j1.lt
    have lt2 := j2.lt
    have lt3 := j3.lt
    clear x4 x5 x6 x9 ho3 hos htp hou hbl hall ho2 hr
    -- 'now', 'seen', 'visit'
    have hBv := below_c (below_c (below_alloc' W (.cells #[.int .i64 0] 3)) (below_alloc' _ (.cells #[.int .u64 0] 65))) (below_alloc' _ (.cells #[(.func (.func 59) #[] #[.pointer (some ⟨W.heap.size + 1, 0, none⟩), .pointer (some ⟨W.heap.size, 0, none⟩), .pointer (some ⟨w.heap.size, 0, none⟩), .pointer (some ⟨w.heap.size + 1 + 1, 0, none⟩), .pointer (some ⟨w2.heap.size, 0, none⟩), .pointer (some ⟨W.heap.size + 1 + 1, 0, none⟩), .pointer (some ⟨w.heap.size + 1, 0, none⟩)])] 83))
    have xn := ((Boxed.new W 3 (.int .i64 0)).alloc (.cells #[.int .u64 0] 65)).alloc (.cells #[(.func (.func 59) #[] #[.pointer (some ⟨W.heap.size + 1, 0, none⟩), .pointer (some ⟨W.heap.size, 0, none⟩), .pointer (some ⟨w.heap.size, 0, none⟩), .pointer (some ⟨w.heap.size + 1 + 1, 0, none⟩), .pointer (some ⟨w2.heap.size, 0, none⟩), .pointer (some ⟨W.heap.size + 1 + 1, 0, none⟩), .pointer (some ⟨w.heap.size + 1, 0, none⟩)])] 83)
    have xs : Boxed (((W.alloc (.cells #[.int .i64 0] 3)).alloc (.cells #[.int .u64 0] 65)).alloc (.cells #[(.func (.func 59) #[] #[.pointer (some ⟨W.heap.size + 1, 0, none⟩), .pointer (some ⟨W.heap.size, 0, none⟩), .pointer (some ⟨w.heap.size, 0, none⟩), .pointer (some ⟨w.heap.size + 1 + 1, 0, none⟩), .pointer (some ⟨w2.heap.size, 0, none⟩), .pointer (some ⟨W.heap.size + 1 + 1, 0, none⟩), .pointer (some ⟨w.heap.size + 1, 0, none⟩)])] 83)) (W.heap.size + 1) 65 (.int .u64 0) := by
      have h := (Boxed.new (W.alloc (.cells #[.int .i64 0] 3)) 65 (.int .u64 0)).alloc (.cells #[(.func (.func 59) #[] #[.pointer (some ⟨W.heap.size + 1, 0, none⟩), .pointer (some ⟨W.heap.size, 0, none⟩), .pointer (some ⟨w.heap.size, 0, none⟩), .pointer (some ⟨w.heap.size + 1 + 1, 0, none⟩), .pointer (some ⟨w2.heap.size, 0, none⟩), .pointer (some ⟨W.heap.size + 1 + 1, 0, none⟩), .pointer (some ⟨w.heap.size + 1, 0, none⟩)])] 83)
      rwa [World.size_alloc] at h
    have xv : Boxed (((W.alloc (.cells #[.int .i64 0] 3)).alloc (.cells #[.int .u64 0] 65)).alloc (.cells #[(.func (.func 59) #[] #[.pointer (some ⟨W.heap.size + 1, 0, none⟩), .pointer (some ⟨W.heap.size, 0, none⟩), .pointer (some ⟨w.heap.size, 0, none⟩), .pointer (some ⟨w.heap.size + 1 + 1, 0, none⟩), .pointer (some ⟨w2.heap.size, 0, none⟩), .pointer (some ⟨W.heap.size + 1 + 1, 0, none⟩), .pointer (some ⟨w.heap.size + 1, 0, none⟩)])] 83)) (W.heap.size + 1 + 1) 83 (.func (.func 59) #[] #[.pointer (some ⟨W.heap.size + 1, 0, none⟩), .pointer (some ⟨W.heap.size, 0, none⟩), .pointer (some ⟨w.heap.size, 0, none⟩), .pointer (some ⟨w.heap.size + 1 + 1, 0, none⟩), .pointer (some ⟨w2.heap.size, 0, none⟩), .pointer (some ⟨W.heap.size + 1 + 1, 0, none⟩), .pointer (some ⟨w.heap.size + 1, 0, none⟩)]) := by
      have h := Boxed.new ((W.alloc (.cells #[.int .i64 0] 3)).alloc (.cells #[.int .u64 0] 65)) 83 (.func (.func 59) #[] #[.pointer (some ⟨W.heap.size + 1, 0, none⟩), .pointer (some ⟨W.heap.size, 0, none⟩), .pointer (some ⟨w.heap.size, 0, none⟩), .pointer (some ⟨w.heap.size + 1 + 1, 0, none⟩), .pointer (some ⟨w2.heap.size, 0, none⟩), .pointer (some ⟨W.heap.size + 1 + 1, 0, none⟩), .pointer (some ⟨w.heap.size + 1, 0, none⟩)])
      rwa [World.size_alloc, World.size_alloc] at h
    obtain ⟨E, hEe⟩ : ∃ E : DEnv, E = ⟨w.heap.size, w.heap.size + 1, w.heap.size + 1 + 1, gs, caps, w2.heap.size, g1, g2, g3, W.heap.size, W.heap.size + 1, W.heap.size + 1 + 1⟩ := ⟨_, rfl⟩
    have hE : E.Ok := by
      subst hEe
      constructor <;> simp only <;> first | exact n12 | exact n13 | exact n23 | omega
    have hmem : DMem E n (beside n ls) (deep0 n) (((W.alloc (.cells #[.int .i64 0] 3)).alloc (.cells #[.int .u64 0] 65)).alloc (.cells #[(.func (.func 59) #[] #[.pointer (some ⟨W.heap.size + 1, 0, none⟩), .pointer (some ⟨W.heap.size, 0, none⟩), .pointer (some ⟨w.heap.size, 0, none⟩), .pointer (some ⟨w.heap.size + 1 + 1, 0, none⟩), .pointer (some ⟨w2.heap.size, 0, none⟩), .pointer (some ⟨W.heap.size + 1 + 1, 0, none⟩), .pointer (some ⟨w.heap.size + 1, 0, none⟩)])] 83)) := by
      subst hEe
      exact ⟨xs, xn, boxed_later q4 hBv, boxed_later q5 hBv, boxed_later q6 hBv, boxed_later q9 hBv, xv, owns_mono (owns_later j1 hBv) (show w2.heap.size ≤ W3.heap.size by omega), owns_mono (owns_later j2 hBv) (show w2.heap.size ≤ W3.heap.size by omega),
        owns_mono (owns_later j3 hBv) (show w2.heap.size ≤ W3.heap.size by omega), owns_later hoW hBv⟩
    have hBe : Below w.heap.size w (((W.alloc (.cells #[.int .i64 0] 3)).alloc (.cells #[.int .u64 0] 65)).alloc (.cells #[(.func (.func 59) #[] #[.pointer (some ⟨W.heap.size + 1, 0, none⟩), .pointer (some ⟨W.heap.size, 0, none⟩), .pointer (some ⟨w.heap.size, 0, none⟩), .pointer (some ⟨w.heap.size + 1 + 1, 0, none⟩), .pointer (some ⟨w2.heap.size, 0, none⟩), .pointer (some ⟨W.heap.size + 1 + 1, 0, none⟩), .pointer (some ⟨w.heap.size + 1, 0, none⟩)])] 83)) := hBwW.trans (hBv.mono (by omega))
    have eb1 : E.bs = W.heap.size + 1 := by rw [hEe]
    have eb2 : E.bn = W.heap.size := by rw [hEe]
    have eb3 : E.bm = w.heap.size := by rw [hEe]
    have eb4 : E.bf = w.heap.size + 1 + 1 := by rw [hEe]
    have eb5 : E.bb = w2.heap.size := by rw [hEe]
    have eb6 : E.bv = W.heap.size + 1 + 1 := by rw [hEe]
    have eb7 : E.bl = w.heap.size + 1 := by rw [hEe]
    have eg1 : E.gm = g1 := by rw [hEe]
    have eg2 : E.gl = g2 := by rw [hEe]
    have eg3 : E.gf = g3 := by rw [hEe]
    have hhot : ∀ r, E.hot r → w.heap.size ≤ r := by intro r hr; unfold DEnv.hot at hr; rw [eb1, eb2, eg1, eg2, eg3] at hr; omega
    have HME := Lib.hid hmem
    have HBE := Lib.hid hBe
    clear hmem hBe hEe xs xn xv hBv q4 q5 q6 q9 j1 j2 j3 hoW hBwW
    have hsf := fun (a : Addr) (c : Array Value) (w : World) => run_store Try.prog w a (.func (.func 59) #[] c) .plain rfl
    go_wp2_with fail
    clear hsf
    go_loopw [31] (fun i wr => ∃ k : Nat, k ≤ n ∧ i = .int .i64 k ∧ DMem E n (beside n ls) (deepUp (beside n ls) n k) wr ∧ Below w.heap.size w wr) (fun i _ => n - (intOf i).toNat)
    case atStart => exact ⟨0, by omega, rfl, HME.out, HBE.out⟩
    case round =>
      obtain ⟨k, hk, rfl, hm, hbr⟩ := hrel
      have hO := adj_bounded hg
      have hS : Symm (beside n ls) := fun _ _ h => adj_symm hg h
      obtain ⟨hok, _, _⟩ := deepUp_eff hn8 hO hS k hk
      obtain ⟨hnow, hseen⟩ := hok.few hn8
      have HOK := Lib.hid hok
      have hcs := hm.seen.cell
      have hcv := hm.vis.cell
      rw [eb1] at hcs
      rw [eb6] at hcv
      by_cases hlt : k < n
      · have hkn : (k : Int) < (n : Int) := by omega
        have hup : deepUp (beside n ls) n (k + 1) = rootStep (beside n ls) n (deepUp (beside n ls) n k) k := by unfold deepUp; rw [List.range_succ, List.foldl_append]; rfl
        have HUP := Lib.hid hup
        clear hup hok
        cases hb : (deepUp (beside n ls) n k).seen.testBit k with
        | true =>
          have HB := Lib.hid hb
          clear hb
          go_wp2_with fail
          refine (has_any (deepUp (beside n ls) n k).seen k _ (by omega) (by omega)).mono ?_
          rintro e w' ⟨rfl, rfl⟩
          rw [HB.out]
          go_wp2
          go_roundw
          case rel => exact ⟨k + 1, by omega, by go_num, by rw [HUP.out, rootStep, if_pos HB.out]; exact hm, hbr⟩
          case measure => simp [intOf]; omega
        | false =>
          have HB := Lib.hid hb
          have hv := visit_any hn8 hO hS hlen hs2 E hE n k (-1) _ 0 wr hm HOK.out hlt hb (by omega)
          rw [eb1, eb2, eb3, eb4, eb5, eb6, eb7] at hv
          clear hb
          go_wp2_with fail
          refine (has_any (deepUp (beside n ls) n k).seen k _ (by omega) (by omega)).mono ?_
          rintro e w' ⟨rfl, rfl⟩
          rw [HB.out]
          go_wp2_with fail
          refine hv.mono ?_
          rintro e w' ⟨⟨v, rfl⟩, hm', hot⟩
          go_wp2
          go_roundw
          case rel => exact ⟨k + 1, by omega, by go_num, by rw [HUP.out, rootStep, if_neg (by rw [HB.out]; simp)]; exact hm', hot.below hbr hbr.size hhot⟩
          case measure => simp [intOf]; omega
      · have e : k = n := by omega
        subst e
        have hq4 := hm.met
        have hq5 := hm.left
        have hq6 := hm.frm
        have r1 := rd_of_owns hm.om.drew
        have r2 := rd_of_owns hm.ol.drew
        have r3 := rd_of_owns hm.ofr.drew
        rw [eb3, eg1] at hq4
        rw [eb7, eg2] at hq5
        rw [eb4, eg3] at hq6
        rw [eg1] at r1
        rw [eg2] at r2
        rw [eg3] at r3
        have hBd := hbr.drew
        have d4 : Boxed wr.drew w.heap.size 28 (.slice (some ⟨g1, 0, none⟩) k k) := hq4
        have d5 : Boxed wr.drew (w.heap.size + 1) 28 (.slice (some ⟨g2, 0, none⟩) k k) := hq5
        have d6 : Boxed wr.drew (w.heap.size + 1 + 1) 28 (.slice (some ⟨g3, 0, none⟩) k k) := hq6
        clear hq4 hq5 hq6 hm hbr hcs hcv HOK hok hnow hseen
        go_wp2_with fail
        have s4 := setCell_same d4
        have s5 := setCell_same d5
        have s6 := setCell_same d6
        have hdr : { wr with drawn := wr.drawn + 1 } = wr.drew := rfl
        refine region_flex (V := fun _ => wr.drew) [(true, 0), (true, 1), (true, 2), (false, 0), (false, 1), (false, 2), (true, 3)] 3 wr.drew (by kernel_rfl) rfl (by kernel_rfl) (by kernel_rfl) (by kernel_rfl) (by kernel_rfl) rfl rfl ?_
        clear hdr
        generalize wr.drew = wd at *
        have c4 := d4.cell
        have c5 := d5.cell
        have c6 := d6.cell
        have f4 := d4.frozen
        have f5 := d5.frozen
        have f6 := d6.frozen
        repeat (refine fx_yc wd (fun _ => rfl) (fun K hK => ?_); go_simp; refine hK _ ?_; clear hK K)
        refine fx_s wd wd rfl rfl rfl (fun K hK => ?_) ?_
        · go_simp
          first | exact hK | (rw [s4]; exact hK)
        refine fx_s wd wd rfl rfl rfl (fun K hK => ?_) ?_
        · go_simp
          first | exact hK | (rw [s5]; exact hK)
        refine fx_s wd wd rfl rfl rfl (fun K hK => ?_) ?_
        · go_simp
          first | exact hK | (rw [s6]; exact hK)
        refine fx_yc wd (fun _ => rfl) (fun K hK => ?_); go_simp; refine hK _ ?_; clear hK K
        simp only [fxRun]
        go_wp2
        refine bodyPost_ret (results_c3t rfl _ _ (w := wd) (v1 := .slice (some ⟨g1, 0, none⟩) k k) (v2 := .slice (some ⟨g2, 0, none⟩) k k) (v3 := .slice (some ⟨g3, 0, none⟩) k k) (a1 := ⟨w.heap.size, 0, none⟩) (a2 := ⟨w.heap.size + 1, 0, none⟩) (a3 := ⟨w.heap.size + 1 + 1, 0, none⟩) rfl ?_ rfl ?_ rfl ?_) rfl ?_
        · go_simp
        · go_simp
        · go_simp
        exact ⟨_, _, _, _, _, _, rfl, r1, r2, r3, hBd⟩

end Go.Proofs.Ytjeafgnaoncphaa
