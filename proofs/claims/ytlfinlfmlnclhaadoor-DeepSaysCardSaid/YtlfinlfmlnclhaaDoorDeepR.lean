/- The document's deep walk and its earliest times: the walks, and what they reckon. Conditions: in each statement. -/
import Derived.Test.YtlfinlfmlnclhaaDoorLowestP
import Derived.Test.YtlfinlfmlnclhaaDoorLowest
import Derived.Test.YtlfinlfmlnclhaaDoorBesideR
import Derived.Test.YtlfinlfmlnclhaaDoorRefElias

namespace Go.Proofs.YtlfinlfmlnclhaaDoor.Gr

theorem IsLow.unique {O : List Nat} {n : Nat} {m l c : List Int} {i : Nat} {v v' : Int} (h : IsLow O n m l c i v) (k : IsLow O n m l c i v') : v = v' := by
  have h1 : v' ≤ v := by
    rcases h.some with e | ⟨a, b, a1, a2, a3, a4, e⟩
    · rw [e]; exact k.own
    · rw [e]; exact k.all a b a1 a2 a3 a4
  have h2 : v ≤ v' := by
    rcases k.some with e | ⟨a, b, a1, a2, a3, a4, e⟩
    · rw [e]; exact h.own
    · rw [e]; exact h.all a b a1 a2 a3 a4
  omega

/-- one point j, seen from i -/
def rlowStep (O : List Nat) (low : Nat → Int) (m c : List Int) (i : Nat) (acc : Int) (j : Nat) : Int :=
  if (O[i]?.getD 0).testBit j = true then (if at1 c j = (i : Int) then min acc (low j) else if at1 c i ≠ (j : Int) then min acc (at1 m j) else acc) else acc

theorem rlow_fold (O : List Nat) (low : Nat → Int) (m c : List Int) (i : Nat) : ∀ (js : List Nat) (acc : Int), js.foldl (rlowStep O low m c i) acc ≤ acc ∧
    (∀ j ∈ js, adjS O i j → at1 c j = (i : Int) → js.foldl (rlowStep O low m c i) acc ≤ low j) ∧ (∀ j ∈ js, adjS O i j → at1 c j ≠ (i : Int) → at1 c i ≠ (j : Int) → js.foldl (rlowStep O low m c i) acc ≤ at1 m j) ∧
    (js.foldl (rlowStep O low m c i) acc = acc ∨ ∃ j ∈ js, adjS O i j ∧ ((at1 c j = (i : Int) ∧ js.foldl (rlowStep O low m c i) acc = low j) ∨ (at1 c j ≠ (i : Int) ∧ at1 c i ≠ (j : Int) ∧ js.foldl (rlowStep O low m c i) acc = at1 m j))) := by
  intro js
  induction js with
  | nil => intro acc; exact ⟨Int.le_refl _, fun k hk => (List.not_mem_nil hk).elim, fun k hk => (List.not_mem_nil hk).elim, .inl rfl⟩
  | cons x r ih =>
    intro acc
    obtain ⟨h1, h2, h3, h4⟩ := ih (rlowStep O low m c i acc x)
    rw [List.foldl_cons]
    generalize hr : r.foldl (rlowStep O low m c i) (rlowStep O low m c i acc x) = res at *
    have key : rlowStep O low m c i acc x ≤ acc ∧ (adjS O i x → at1 c x = (i : Int) → rlowStep O low m c i acc x ≤ low x) ∧ (adjS O i x → at1 c x ≠ (i : Int) → at1 c i ≠ (x : Int) → rlowStep O low m c i acc x ≤ at1 m x) ∧
        (rlowStep O low m c i acc x = acc ∨ (adjS O i x ∧ ((at1 c x = (i : Int) ∧ rlowStep O low m c i acc x = low x) ∨ (at1 c x ≠ (i : Int) ∧ at1 c i ≠ (x : Int) ∧ rlowStep O low m c i acc x = at1 m x)))) := by
      unfold rlowStep
      by_cases ha : (O[i]?.getD 0).testBit x = true
      · have ha' : adjS O i x := ha
        rw [if_pos ha]
        by_cases hc : at1 c x = (i : Int)
        · rw [if_pos hc]
          refine ⟨Int.min_le_left _ _, fun _ _ => Int.min_le_right _ _, fun _ h => absurd hc h, ?_⟩
          rcases Int.le_total acc (low x) with h | h
          · exact .inl (Int.min_eq_left h)
          · exact .inr ⟨ha', .inl ⟨hc, Int.min_eq_right h⟩⟩
        · rw [if_neg hc]
          by_cases hd : at1 c i ≠ (x : Int)
          · rw [if_pos hd]
            refine ⟨Int.min_le_left _ _, fun _ h => absurd h hc, fun _ _ _ => Int.min_le_right _ _, ?_⟩
            rcases Int.le_total acc (at1 m x) with h | h
            · exact .inl (Int.min_eq_left h)
            · exact .inr ⟨ha', .inr ⟨hc, hd, Int.min_eq_right h⟩⟩
          · rw [if_neg hd]
            exact ⟨Int.le_refl _, fun _ h => absurd h hc, fun _ _ h => absurd h hd, .inl rfl⟩
      · rw [if_neg ha]
        exact ⟨Int.le_refl _, fun h => absurd h ha, fun h => absurd h ha, .inl rfl⟩
    obtain ⟨k1, k2, k3, k4⟩ := key
    generalize rlowStep O low m c i acc x = a1 at *
    refine ⟨Int.le_trans h1 k1, fun j hj ha hc => ?_, fun j hj ha hc hd => ?_, ?_⟩
    · rcases List.mem_cons.1 hj with rfl | hj
      · exact Int.le_trans h1 (k2 ha hc)
      · exact h2 j hj ha hc
    · rcases List.mem_cons.1 hj with rfl | hj
      · exact Int.le_trans h1 (k3 ha hc hd)
      · exact h3 j hj ha hc hd
    · rcases h4 with e | ⟨j, hj, ha, h⟩
      · rcases k4 with e' | ⟨ha, h⟩
        · exact .inl (e.trans e')
        · refine .inr ⟨x, List.mem_cons_self, ha, ?_⟩
          rw [e]; exact h
      · exact .inr ⟨j, List.mem_cons_of_mem _ hj, ha, h⟩

theorem rlow_is {O : List Nat} {n : Nat} {m l c : List Int} {low : Nat → Int} (h : IsDeep O n m l c) (hO : Bounded n O) {i : Nat} (hi : i < n) (hl : ∀ j, j < n → at1 c j = (i : Int) → IsLow O n m l c j (low j)) :
    IsLow O n m l c i ((List.range n).foldl (rlowStep O low m c i) (at1 m i)) := by
  obtain ⟨h1, h2, h3, h4⟩ := rlow_fold O low m c i (List.range n) (at1 m i)
  generalize (List.range n).foldl (rlowStep O low m c i) (at1 m i) = r at *
  refine ⟨h1, fun j k hj hs hjk hck => ?_, ?_⟩
  · have hkn := (hO j k hjk).2
    rcases hs with rfl | hw
    · by_cases hc : at1 c k = (j : Int)
      · exact Int.le_trans (h2 k (List.mem_range.2 hkn) hjk hc) (hl k hkn hc).own
      · exact h3 k (List.mem_range.2 hkn) hjk hc hck
    · obtain ⟨d, d1, d2, d3, d4⟩ := child_above h hi _ j hj (Nat.le_refl _) hw
      obtain ⟨_, _, ha⟩ := child_in h d1 d2
      exact Int.le_trans (h2 d (List.mem_range.2 d1) ha d2) ((hl d d1 d2).all j k hj d4 hjk hck)
  · rcases h4 with e | ⟨j, hj, ha, h5⟩
    · exact .inl e
    · have hjn := List.mem_range.1 hj
      rcases h5 with ⟨hc, e⟩ | ⟨hc, hd, e⟩
      · obtain ⟨_, hw, _⟩ := child_in h hjn hc
        rcases (hl j hjn hc).some with e2 | ⟨a, b, a1, a2, a3, a4, e2⟩
        · have := hw.1; omega
        · refine .inr ⟨a, b, a1, ?_, a3, a4, e.trans e2⟩
          rcases a2 with rfl | a2
          · exact .inr hw
          · exact .inr (hw.trans a2)
      · exact .inr ⟨i, j, hi, .inl rfl, ha, hd, e⟩

end Go.Proofs.YtlfinlfmlnclhaaDoor.Gr

namespace Go.Proofs.YtlfinlfmlnclhaaDoor
open Go.RowKit Go.Shelf Gr

theorem owns_some {w : World} {base : Nat} {e : TypeId} {size : Nat} {v : Value} {n : Nat} {xs : List Value} (h : w.ownsRow base e size v n xs) (hn : 0 < n) : ∃ g cap, v = .slice (some ⟨g, 0, none⟩) n cap := by
  rcases h.2 with ⟨rfl, rfl, _⟩ | ⟨g, cap, cur, rfl, _⟩
  · omega
  · exact ⟨g, cap, rfl⟩

set_option maxRecDepth 100000 in
set_option maxHeartbeats 1000000 in
theorem refSet_any (v : Value) (xs : List Int) (i : Nat) (x : Int) (w : World) (hr : Rd w v xs.length (ints xs)) (hi : i < xs.length) (hl : xs.length ≤ 100000) :
    Calls Tryd.prog 75 #[v, .int .i64 (i : Int), .int .i64 x] w (RetRow w (xs.set i x)) := by
  obtain ⟨i0, hin, hz0, hz1, hz2⟩ := info_parts info_int
  have hp : 0 < xs.length := by omega
  have hr' := hr
  obtain ⟨a, c, rfl, hnc, hcm, _, _⟩ := hr'
  have hii : (i : Int) < (xs.length : Int) := by omega
  go_enter Tryd.func75, Tryd.ntmps75
  go_wp2_with (at_builtin; refine wpl_appL _ _ _ (AppTo.refl (World.ownsRow_nil w w.heap.size 3 1)) hr (by simp [ints]) hp rfl rfl Tryd.underlying36 hin hz0 hz1 hz2 rfl (by decide) rfl rfl (ints_one _) (by decide) (by omega) (Nat.le_refl _) ?_; intro v1 w1 hA1 hne1 hst1; have ho := hA1.own; rw [Nat.zero_add, List.nil_append] at ho; obtain ⟨g, cap, rfl⟩ := owns_some ho hp; have hcx := owns_at ho (ints_get (k := i) hi); have hfx := ho.frozenAt i; have HO := Lib.hid (ho.stored i (.int .i64 x)).1; have HB := Lib.hid (hA1.of_nil.setCell (p := ⟨g, i, none⟩) (ho.lt g rfl).1 (.int .i64 x)); clear ho hA1 hr)
  go_ret
  have h := HO.out
  rw [ints_set] at h
  exact RetRow.mk rfl h (by simp) HB.out

/-- a block of four cells -/
def Box4 (W : World) (B : Nat) (t : TypeId) (a b c d : Value) : Prop := W.heap[B]? = some (.cells #[a, b, c, d] t (0, 0))
theorem Box4.lt {W : World} {B : Nat} {t : TypeId} {a b c d : Value} (h : Box4 W B t a b c d) : B < W.heap.size := (Array.getElem?_eq_some_iff.1 h).1
theorem Box4.new (W : World) (t : TypeId) (a b c d : Value) : Box4 (W.alloc (.cells #[a, b, c, d] t)) W.heap.size t a b c d := World.alloc_heap_new W _
theorem Box4.later {W W' : World} {B : Nat} {t : TypeId} {a b c d : Value} (h : Box4 W B t a b c d) (hb : Below W.heap.size W W') : Box4 W' B t a b c d := (hb.block B h.lt).trans h
theorem Box4.c0 {W : World} {B : Nat} {t : TypeId} {a b c d : Value} (h : Box4 W B t a b c d) : W.cell? ⟨B, 0, none⟩ = some a := by simp [World.cell?, show W.heap[B]? = _ from h]
theorem Box4.c1 {W : World} {B : Nat} {t : TypeId} {a b c d : Value} (h : Box4 W B t a b c d) : W.cell? ⟨B, 1, none⟩ = some b := by simp [World.cell?, show W.heap[B]? = _ from h]
theorem Box4.c2 {W : World} {B : Nat} {t : TypeId} {a b c d : Value} (h : Box4 W B t a b c d) : W.cell? ⟨B, 2, none⟩ = some c := by simp [World.cell?, show W.heap[B]? = _ from h]
theorem Box4.c3 {W : World} {B : Nat} {t : TypeId} {a b c d : Value} (h : Box4 W B t a b c d) : W.cell? ⟨B, 3, none⟩ = some d := by simp [World.cell?, show W.heap[B]? = _ from h]
theorem Box4.fz {W : World} {B : Nat} {t : TypeId} {a b c d : Value} (h : Box4 W B t a b c d) (o : Nat) : W.frozen? ⟨B, o, none⟩ = false := by simp [World.frozen?, show W.heap[B]? = _ from h]
theorem Box4.kept {W W' : World} {row : Option Nat} {B : Nat} {t : TypeId} {a b c d : Value} (h : Box4 W B t a b c d) (hg : W.grownBy W' row) (hne : some B ≠ row) : Box4 W' B t a b c d := (hg.block B h.lt hne).trans h
theorem Box4.s0 {W : World} {B : Nat} {t : TypeId} {a b c d : Value} (v : Value) (h : Box4 W B t a b c d) : Box4 (W.setCell ⟨B, 0, none⟩ v) B t v b c d := heap_setCell_same W B 0 #[a, b, c, d] t v h
theorem Box4.s1 {W : World} {B : Nat} {t : TypeId} {a b c d : Value} (v : Value) (h : Box4 W B t a b c d) : Box4 (W.setCell ⟨B, 1, none⟩ v) B t a v c d := heap_setCell_same W B 1 #[a, b, c, d] t v h
theorem Box4.s2 {W : World} {B : Nat} {t : TypeId} {a b c d : Value} (v : Value) (h : Box4 W B t a b c d) : Box4 (W.setCell ⟨B, 2, none⟩ v) B t a b v d := heap_setCell_same W B 2 #[a, b, c, d] t v h
theorem Box4.s3 {W : World} {B : Nat} {t : TypeId} {a b c d : Value} (v : Value) (h : Box4 W B t a b c d) : Box4 (W.setCell ⟨B, 3, none⟩ v) B t a b c v := heap_setCell_same W B 3 #[a, b, c, d] t v h

/-- a slice that lies neither in block B nor in the next one -/
def RdN (B : Nat) (w : World) (v : Value) (n : Nat) (cs : List Value) : Prop :=
  ∃ a c, v = .slice a n c ∧ n ≤ c ∧ c ≤ maxLen ∧ (n = 0 → cs = []) ∧
    (0 < n → ∃ b off, a = some ⟨b, off, none⟩ ∧ (b < B ∨ B + 2 ≤ b) ∧ b < w.heap.size ∧ ∀ j u, cs[j]? = some u → w.cell? ⟨b, off + j, none⟩ = some u)
theorem RdN.rd {B : Nat} {w : World} {v : Value} {n : Nat} {cs : List Value} (h : RdN B w v n cs) : Rd w v n cs := by
  obtain ⟨a, c, h1, h2, h3, h4, h5⟩ := h
  exact ⟨a, c, h1, h2, h3, h4, fun hn => by obtain ⟨b, off, e, _, hb, hc⟩ := h5 hn; exact ⟨b, off, e, hb, hc⟩⟩
theorem RdN.kept {B : Nat} {w w' : World} {v : Value} {n : Nat} {cs : List Value} {row : Option Nat} (h : RdN B w v n cs) (hg : w.grownBy w' row) (hr : row = none ∨ row = some B ∨ row = some (B + 1)) : RdN B w' v n cs := by
  obtain ⟨a, c, h1, h2, h3, h4, h5⟩ := h
  refine ⟨a, c, h1, h2, h3, h4, fun hn => ?_⟩
  obtain ⟨b, off, e, hN, hb, hc⟩ := h5 hn
  refine ⟨b, off, e, hN, Nat.lt_of_lt_of_le hb hg.size, fun j u hu => ?_⟩
  rw [← hc j u hu]
  have := hg.block b hb (by rcases hr with rfl | rfl | rfl <;> simp <;> omega)
  simp [World.cell?, this]
theorem RdN.later {B : Nat} {w w' : World} {v : Value} {n : Nat} {cs : List Value} (h : RdN B w v n cs) (hb : Below w.heap.size w w') : RdN B w' v n cs := h.kept (below_iff_grown.1 hb) (.inl rfl)
theorem RdN.of_rd {w w' : World} {v : Value} {n : Nat} {cs : List Value} (h : Rd w v n cs) (hb : Below w.heap.size w w') : RdN w.heap.size w' v n cs := by
  obtain ⟨a, c, h1, h2, h3, h4, h5⟩ := h
  have : RdN w.heap.size w v n cs := ⟨a, c, h1, h2, h3, h4, fun hn => by obtain ⟨b, off, e, hb, hc⟩ := h5 hn; exact ⟨b, off, e, .inl hb, hb, hc⟩⟩
  exact this.later hb
theorem RdN.of_owns {B base : Nat} {w : World} {v : Value} {n : Nat} {cs : List Value} {e : TypeId} (h : w.ownsRow base e 1 v n cs) (hB : B + 2 ≤ base) : RdN B w v n cs := by
  have hl := h.lt
  obtain ⟨a, c, h1, h2, h3, h4, h5⟩ := rd_of_owns h
  subst h1
  refine ⟨a, c, rfl, h2, h3, h4, fun hn => ?_⟩
  obtain ⟨b, off, e, hb, hc⟩ := h5 hn
  subst e
  have := hl b rfl
  exact ⟨b, off, rfl, .inr (by omega), hb, hc⟩

theorem own_kept {B : Nat} {w w' : World} {v : Value} {n : Nat} {cs : List Value} {e : TypeId} {row : Option Nat} (h : w.ownsRow (B + 2) e 1 v n cs) (hg : w.grownBy w' row) (hr : row = none ∨ row = some B ∨ row = some (B + 1)) : w'.ownsRow (B + 2) e 1 v n cs := by
  refine World.ownsRow.kept h hg ?_
  rcases hr with rfl | rfl | rfl
  · cases v.ownBlock <;> simp
  · refine .inr fun e => ?_
    have := (h.lt B e).1; omega
  · refine .inr fun e => ?_
    have := (h.lt (B + 1) e).1; omega

theorem own_at1 {w : World} {base : Nat} {e : TypeId} {g n cap j : Nat} {xs : List Int} (h : w.ownsRow base e 1 (.slice (some ⟨g, 0, none⟩) n cap) n (ints xs)) (hl : xs.length = n) (hj : j < n) : w.cell? ⟨g, j, none⟩ = some (.int .i64 (at1 xs j)) :=
  owns_at h (by rw [List.getElem?_map, at1_lt (by omega)]; rfl)

theorem neg_eff {O : List Nat} {R : Nat → Int → Prop} {n : Nat} {s s' : DSt} (h : Eff O R s s') (k : ∀ j, j < n → (at1 s.met j < 0 ↔ s.seen.testBit j = false)) : ∀ j, j < n → (at1 s'.met j < 0 ↔ s'.seen.testBit j = false) := by
  intro j hj
  by_cases hN : New s s' j
  · have := h.times j hN
    rw [hN.1]
    constructor
    · intro h1; omega
    · intro h1; cases h1
  · rw [(h.same j hN).1, k j hj]
    cases h1 : s.seen.testBit j with
    | true => simp [h.mono j h1]
    | false =>
      cases h2 : s'.seen.testBit j with
      | true => exact absurd ⟨h2, h1⟩ hN
      | false => simp
theorem neg_enter {n i k : Nat} {b : Int} {s : DSt} (h : DOk n s k) (hi : i < n) (g : ∀ j, j < n → (at1 s.met j < 0 ↔ s.seen.testBit j = false)) : ∀ j, j < n → (at1 (s.enter i b).met j < 0 ↔ (s.enter i b).seen.testBit j = false) := by
  intro j hj
  show at1 (s.met.set i s.now) j < 0 ↔ (s.seen ||| 2 ^ i).testBit j = false
  rw [at1_set (by rw [h.lm]; exact hi)]
  by_cases e : j = i
  · subst e
    rw [if_pos rfl]
    have : (s.seen ||| 2 ^ j).testBit j = true := bit_with.2 (.inr rfl)
    rw [this]
    constructor
    · intro h1; omega
    · intro h1; cases h1
  · rw [if_neg e, g j hj]
    have : (s.seen ||| 2 ^ i).testBit j = s.seen.testBit j := by
      rw [Bool.eq_iff_iff, bit_with]
      exact ⟨fun h => h.resolve_right e, .inl⟩
    rw [this]

theorem grown4 (W : World) (B : Nat) (a b c d : Value) : W.grownBy ((((W.setCell ⟨B, 0, none⟩ a).setCell ⟨B, 1, none⟩ b).setCell ⟨B, 2, none⟩ c).setCell ⟨B, 3, none⟩ d) (some B) :=
  ⟨rfl, rfl, rfl, by simp [World.setCell], fun k _ hne => by
    have hk : k ≠ B := fun e => hne (by rw [e])
    rw [heap_setCell_other _ ⟨B, 3, none⟩ k d hk, heap_setCell_other _ ⟨B, 2, none⟩ k c hk, heap_setCell_other _ ⟨B, 1, none⟩ k b hk, heap_setCell_other _ ⟨B, 0, none⟩ k a hk]⟩

/-- what holds of the state of the walk between two points beside i -/
def VOk (n : Nat) (s : DSt) (k f : Nat) : Prop := DOk n s k ∧ (∀ j, j < n → (at1 s.met j < 0 ↔ s.seen.testBit j = false)) ∧ n ≤ cnt s.seen + f
theorem VOk.visit {O : List Nat} {n : Nat} (hn : n ≤ 8) (hO : Bounded n O) (hs : Symm O) {f j k : Nat} {i : Int} {s : DSt} (h : VOk n s k f) (hj : j < n) (hu : s.seen.testBit j = false) : VOk n (visit O f j i s) k f := by
  obtain ⟨h1, h2, h3⟩ := h
  obtain ⟨g1, g2, g3⟩ := visit_eff hn hO hs f j i s k (fun _ _ => True) h1 hj hu h3 trivial
  exact ⟨g1, neg_eff g2 h2, by have := cnt_mono g2.mono; omega⟩

/-- where the document's deep walk stands, read in a world -/
structure VRd (B n : Nat) (W : World) (s : DSt) (vm vl vf : Value) : Prop where
  m : RdN B W vm n (ints s.met)
  l : RdN B W vl n (ints s.left)
  f : RdN B W vf n (ints s.frm)
theorem VRd.later {B n : Nat} {W W' : World} {s : DSt} {vm vl vf : Value} (h : VRd B n W s vm vl vf) (hb : Below W.heap.size W W') : VRd B n W' s vm vl vf := ⟨h.m.later hb, h.l.later hb, h.f.later hb⟩
theorem VRd.kept {B n : Nat} {W W' : World} {s : DSt} {vm vl vf : Value} {row : Option Nat} (h : VRd B n W s vm vl vf) (hg : W.grownBy W' row) (hr : row = none ∨ row = some B ∨ row = some (B + 1)) : VRd B n W' s vm vl vf := ⟨h.m.kept hg hr, h.l.kept hg hr, h.f.kept hg hr⟩

set_option maxRecDepth 100000 in
set_option maxHeartbeats 4000000 in
theorem refVisit_ok (n : Nat) (v : Value) (ls : List Ln) (hg : GoodG n ls) : ∀ (f i : Nat) (b : Int) (s : DSt) (k : Nat) (w : World) (vm vl vf : Value), LinesRd w v ls → DOk n s k → i < n → s.seen.testBit i = false → n ≤ cnt s.seen + f → (∀ j, j < n → (at1 s.met j < 0 ↔ s.seen.testBit j = false)) →
    Rd w vm n (ints s.met) → Rd w vl n (ints s.left) → Rd w vf n (ints s.frm) →
    Calls Tryd.prog 52 #[.int .i64 (n : Int), v, .agg #[vm, vl, vf, .int .i64 (s.now : Int)], .int .i64 (i : Int), .int .i64 b] w fun e w' => ∃ vm' vl' vf', e = .returned (.agg #[vm', vl', vf', .int .i64 ((visit (beside n ls) f i b s).now : Int)]) ∧
      w'.ownsRow w.heap.size 3 1 vm' n (ints (visit (beside n ls) f i b s).met) ∧ w'.ownsRow w.heap.size 3 1 vl' n (ints (visit (beside n ls) f i b s).left) ∧ w'.ownsRow w.heap.size 3 1 vf' n (ints (visit (beside n ls) f i b s).frm) ∧ Below w.heap.size w w' := by
  intro f
  induction f with
  | zero => intro i b s k w vm vl vf hr h hi hu hf; have := h.room hg.2.1 hi hu; omega
  | succ f ih =>
    intro i b s k w vm vl vf hr h hi hu hf hneg r1 r2 r3
    have hn8 := hg.2.1
    have hin : (i : Int) < (n : Int) := by omega
    obtain ⟨a1, c1, rfl, _⟩ := id r1
    obtain ⟨a2, c2, rfl, _⟩ := id r2
    obtain ⟨a3, c3, rfl, _⟩ := id r3
    go_enter Tryd.func52, Tryd.ntmps52
    go_wp2_with fail
    have hnow := (h.few hn8).1
    have hb2 := below_2 w (.cells #[.slice a1 n c1, .slice a2 n c2, .slice a3 n c3, .int .i64 (s.now : Int)] 38) (.cells #[.slice none 0 0, .slice none 0 0, .slice none 0 0, .int .i64 0] 38)
    have x0 := (Box4.new w 38 (.slice a1 n c1) (.slice a2 n c2) (.slice a3 n c3) (.int .i64 (s.now : Int))).later (below_alloc' _ (.cells #[.slice none 0 0, .slice none 0 0, .slice none 0 0, .int .i64 0] 38))
    have x1 := Box4.new (w.alloc (.cells #[.slice a1 n c1, .slice a2 n c2, .slice a3 n c3, .int .i64 (s.now : Int)] 38)) 38 (.slice none 0 0) (.slice none 0 0) (.slice none 0 0) (.int .i64 0)
    rw [World.size_alloc] at x1
    generalize hW1 : (w.alloc (.cells #[.slice a1 n c1, .slice a2 n c2, .slice a3 n c3, .int .i64 (s.now : Int)] 38)).alloc (.cells #[.slice none 0 0, .slice none 0 0, .slice none 0 0, .int .i64 0] 38) = W1 at *
    have hsz1 : W1.heap.size = w.heap.size + 2 := by rw [← hW1]; simp
    clear hW1
    have hlm := h.lm
    have hlf := h.lf
    have K1 := refSet_any (.slice a1 n c1) s.met i (s.now : Int) W1 (by rw [hlm]; exact r1.later hb2) (by omega) (by omega)
    have q2 := RdN.of_rd r2 hb2
    have q3 := RdN.of_rd r3 hb2
    have hl1 := x1.lt
    refine K1.mono ?_
    rintro e w2 ⟨am, cm, rfl, om, hB2⟩
    rw [List.length_set, hlm] at om
    have x0 := x0.later hB2
    have x1 := x1.later hB2
    have hBw2 := below_c hb2 hB2
    have q2 := q2.later hB2
    have q3 := q3.later hB2
    have q1 : w2.ownsRow (w.heap.size + 2) 3 1 (.slice am n cm) n (ints (s.met.set i s.now)) := owns_mono om (by omega)
    clear r1 r2 r3 hb2 hB2 om K1
    rw [List.length_set, hlm]
    have y2 := x0.c2
    have y0 := x0.c0
    have fz0 := x0.fz 0
    go_wp2_with fail
    have g2 := grownBy_setCell_at w2 w.heap.size 0 (.slice am n cm)
    have hBw3 := hBw2.setCell (p := ⟨w.heap.size, 0, none⟩) (Nat.le_refl _) (.slice am n cm)
    have x0 := x0.s0 (.slice am n cm)
    have x1 := x1.kept g2 (by simp)
    have q1 := own_kept q1 g2 (.inr (.inl rfl))
    have q2 := q2.kept g2 (.inr (.inl rfl))
    have q3 := q3.kept g2 (.inr (.inl rfl))
    clear g2 hBw2 y2 y0 fz0
    generalize w2.setCell ⟨w.heap.size, 0, none⟩ (.slice am n cm) = W2 at *
    have hl2 := x1.lt
    have K2 := refSet_any (.slice a3 n c3) s.frm i b W2 (by rw [hlf]; exact q3.rd) (by omega) (by omega)
    refine K2.mono ?_
    rintro e w3 ⟨af, cf, rfl, om, hB3⟩
    rw [List.length_set, hlf] at om
    have x0 := x0.later hB3
    have x1 := x1.later hB3
    have hBw4 := hBw3.trans (hB3.mono hBw3.size)
    have q1 := owns_later q1 hB3
    have q2 := q2.later hB3
    have q3 : w3.ownsRow (w.heap.size + 2) 3 1 (.slice af n cf) n (ints (s.frm.set i b)) := owns_mono om (by omega)
    clear hB3 om K2 hBw3
    rw [List.length_set, hlf]
    have y3 := x0.c3
    have y2 := x0.c2
    have fz2 := x0.fz 2
    have fz3 := x0.fz 3
    have wn : IntKind.i64.wrap ((s.now : Int) + 1) = (s.now : Int) + 1 := IntWalk.i64_in _ (by omega)
    go_wp2_with fail
    have g2 := grownBy_setCell_at w3 w.heap.size 2 (.slice af n cf)
    have hB5 := hBw4.setCell (p := ⟨w.heap.size, 2, none⟩) (Nat.le_refl _) (.slice af n cf)
    have x0 := x0.s2 (.slice af n cf)
    have x1 := x1.kept g2 (by simp)
    have q1 := own_kept q1 g2 (.inr (.inl rfl))
    have q2 := q2.kept g2 (.inr (.inl rfl))
    have q3 := own_kept q3 g2 (.inr (.inl rfl))
    generalize w3.setCell ⟨w.heap.size, 2, none⟩ (.slice af n cf) = W3 at *
    have g3 := grownBy_setCell_at W3 w.heap.size 3 (.int .i64 ((s.now : Int) + 1))
    have hB6 := hB5.setCell (p := ⟨w.heap.size, 3, none⟩) (Nat.le_refl _) (.int .i64 ((s.now : Int) + 1))
    have x0 := x0.s3 (.int .i64 ((s.now : Int) + 1))
    have x1 := x1.kept g3 (by simp)
    have q1 := own_kept q1 g3 (.inr (.inl rfl))
    have q2 := q2.kept g3 (.inr (.inl rfl))
    have q3 := own_kept q3 g3 (.inr (.inl rfl))
    generalize W3.setCell ⟨w.heap.size, 3, none⟩ (.int .i64 ((s.now : Int) + 1)) = W4 at *
    have he := enter_ok (b := b) hn8 h hi hu
    have hne := neg_enter (b := b) h hi hneg
    have hce : cnt (s.enter i b).seen = cnt s.seen + 1 := cnt_with (by omega) hu
    have hfe : n ≤ cnt (s.enter i b).seen + f := by omega
    have hE0 : Hid (VOk n (s.enter i b) (k + 1) f) := ⟨he, hne, hfe⟩
    have x0 : Box4 W4 w.heap.size 38 (.slice am n cm) (.slice a2 n c2) (.slice af n cf) (.int .i64 ((s.enter i b).now : Int)) := x0
    have q1 : W4.ownsRow (w.heap.size + 2) 3 1 (.slice am n cm) n (ints (s.enter i b).met) := q1
    have q2 : RdN w.heap.size W4 (.slice a2 n c2) n (ints (s.enter i b).left) := q2
    have q3 : W4.ownsRow (w.heap.size + 2) 3 1 (.slice af n cf) n (ints (s.enter i b).frm) := q3
    have HV : Hid (visit (beside n ls) (f + 1) i b s = (((elems ((beside n ls)[i]?.getD 0)).map (·.val)).foldl (visitStep (visit (beside n ls) f) i) (s.enter i b)).leave i) := rfl
    have HG := Lib.hid hg
    generalize s.enter i b = s0 at *
    clear g2 g3 hB5 hBw4 y2 y3 fz2 fz3 wn he hne hce hfe h hu hf hneg hl1 hl2 hlm hlf hsz1 hnow
    go_loopw [11] (fun jj wr => ∃ (j : Nat) (sj : DSt) (vm vl vf : Value), j ≤ n ∧ jj = .int .i64 j ∧ Hid (sj = ((upto ((beside n ls)[i]?.getD 0) j).map (·.val)).foldl (visitStep (visit (beside n ls) f) i) s0) ∧
      Hid (VOk n sj (k + 1) f) ∧
      Box4 wr w.heap.size 38 vm vl vf (.int .i64 (sj.now : Int)) ∧ Box4 wr (w.heap.size + 1) 38 (.slice none 0 0) (.slice none 0 0) (.slice none 0 0) (.int .i64 0) ∧
      wr.ownsRow (w.heap.size + 2) 3 1 vm n (ints sj.met) ∧ RdN w.heap.size wr vl n (ints sj.left) ∧ wr.ownsRow (w.heap.size + 2) 3 1 vf n (ints sj.frm) ∧ Below w.heap.size w wr) (fun jj _ => n - (intOf jj).toNat)
    case atStart => exact ⟨0, s0, _, _, _, by omega, rfl, by show _ = _; rw [upto_zero]; rfl, hE0, x0, x1, q1, q2, q3, hB6⟩
    case round =>
      clear x0 x1 q1 q2 q3 hB6 hE0
      obtain ⟨j, sj, vm, vl, vf, hj, rfl, HSJ, HOK, x0, x1, q1, q2, q3, hB⟩ := hrel
      have hn0 : 0 < n := by omega
      obtain ⟨am', cm', rfl⟩ := owns_some q1 hn0
      obtain ⟨al', cl', rfl, _⟩ := id q2
      obtain ⟨af', cf', rfl⟩ := owns_slice q3
      by_cases hlt : j < n
      · have hji : (j : Int) < (n : Int) := by omega
        have HAN := Lib.hid (adj_near HG.out i j)
        have KB := fun w hw => refBeside_any v ls (i : Int) (j : Int) w hw
        cases hnear : near ls (i : Int) (j : Int) with
        | true =>
          rw [hnear] at KB
          obtain ⟨hok, hneg, hfj⟩ := HOK.out
          have hs1 := hneg j hlt
          have hmj := own_at1 q1 hok.lm hlt
          have y0 := x0.c0
          go_wp2_with fail
          refine (KB _ (hr.later hB)).mono ?_
          rintro e w' ⟨rfl, rfl⟩
          generalize at1 sj.met j = mj at *
          have HS1 := Lib.hid hs1
          clear hs1
          by_cases hmn : mj < 0
          · have y1 := x0.c1
            have y2 := x0.c2
            have y3 := x0.c3
            have hseen := HS1.out.1 hmn
            have hB25 : w.heap.size + 2 ≤ wr.heap.size := by have := x1.lt; omega
            have KV := ih j (i : Int) sj (k + 1) _ _ _ _ (hr.later hB) hok hlt hseen hfj hneg (rd_of_owns q1) q2.rd (rd_of_owns q3)
            have HSEEN := Lib.hid hseen
            have HNEG := Lib.hid hneg
            clear hneg hseen
            go_wp2_with fail
            refine KV.mono ?_
            rintro e w5 ⟨vm', vl', vf', rfl, p1, p2, p3, hB5⟩
            obtain ⟨am5, cm5, rfl⟩ := owns_slice p1
            obtain ⟨al5, cl5, rfl⟩ := owns_slice p2
            obtain ⟨af5, cf5, rfl⟩ := owns_slice p3
            have x0 := x0.later hB5
            have x1 := x1.later hB5
            have x0a := x0.s0 (.slice am5 n cm5)
            have x0b := x0a.s1 (.slice al5 n cl5)
            have x0c := x0b.s2 (.slice af5 n cf5)
            have x0d := x0c.s3 (.int .i64 ((visit (beside n ls) f j (i : Int) sj).now : Int))
            have z0 := x0.c0
            have z1 := x0a.c1
            have z2 := x0b.c2
            have z3 := x0c.c3
            have u0 := x0.fz 0
            have u1 := x0a.fz 1
            have u2 := x0b.fz 2
            have u3 := x0c.fz 3
            have gg := grown4 w5 w.heap.size (.slice am5 n cm5) (.slice al5 n cl5) (.slice af5 n cf5) (.int .i64 ((visit (beside n ls) f j (i : Int) sj).now : Int))
            have HREL : Hid ((visit (beside n ls) f j (i : Int) sj) = ((upto ((beside n ls)[i]?.getD 0) (j + 1)).map (·.val)).foldl (visitStep (visit (beside n ls) f) i) s0 ∧ VOk n (visit (beside n ls) f j (i : Int) sj) (k + 1) f) := by
              refine ⟨?_, VOk.visit hn8 (adj_bounded HG.out) (fun _ _ h => adj_symm HG.out h) HOK.out hlt HSEEN.out⟩
              rw [upto_take _ _ (by omega) (HAN.out.2 hnear), List.map_append, List.foldl_append, ← HSJ.out]
              show _ = visitStep (visit (beside n ls) f) i sj j
              unfold visitStep
              rw [if_neg (by rw [HSEEN.out]; simp)]
            have hBr := hB.trans (hB5.mono hB.size)
            have hBx : Below w.heap.size w ((((w5.setCell ⟨w.heap.size, 0, none⟩ (.slice am5 n cm5)).setCell ⟨w.heap.size, 1, none⟩ (.slice al5 n cl5)).setCell ⟨w.heap.size, 2, none⟩ (.slice af5 n cf5)).setCell ⟨w.heap.size, 3, none⟩ (.int .i64 ((visit (beside n ls) f j (i : Int) sj).now : Int))) :=
              (((hBr.setCell (p := ⟨w.heap.size, 0, none⟩) (Nat.le_refl _) _).setCell (p := ⟨w.heap.size, 1, none⟩) (Nat.le_refl _) _).setCell (p := ⟨w.heap.size, 2, none⟩) (Nat.le_refl _) _).setCell (p := ⟨w.heap.size, 3, none⟩) (Nat.le_refl _) _
            have HFIN : Hid (Box4 _ _ _ _ _ _ _ ∧ Box4 _ _ _ _ _ _ _ ∧ World.ownsRow _ _ _ _ _ _ _ ∧ RdN _ _ _ _ _ ∧ World.ownsRow _ _ _ _ _ _ _ ∧ Below _ _ _) :=
              ⟨x0d, x1.kept gg (by simp), own_kept (owns_mono p1 hB25) gg (.inr (.inl rfl)), (RdN.of_owns p2 hB25).kept gg (.inr (.inl rfl)), own_kept (owns_mono p3 hB25) gg (.inr (.inl rfl)), hBx⟩
            clear gg hBx hBr x0d x0c x0b x0a x1 x0 p1 p2 p3
            go_wp2_with fail
            go_roundw
            case rel => exact ⟨j + 1, _, _, _, _, by omega, by go_num, HREL.out.1, HREL.out.2, HFIN.out⟩
            case measure => simp [intOf]; omega
          · have HREL : Hid (sj = ((upto ((beside n ls)[i]?.getD 0) (j + 1)).map (·.val)).foldl (visitStep (visit (beside n ls) f) i) s0) := by
              show _ = _
              rw [upto_take _ _ (by omega) (HAN.out.2 hnear), List.map_append, List.foldl_append, ← HSJ.out]
              show _ = visitStep (visit (beside n ls) f) i sj j
              unfold visitStep
              rw [if_pos]
              cases hsn : sj.seen.testBit j with
              | true => rfl
              | false => exact absurd (HS1.out.2 hsn) hmn
            go_wp2_with fail
            go_roundw
            case rel => exact ⟨j + 1, _, _, _, _, by omega, by go_num, HREL, HOK, x0, x1, q1, q2, q3, hB⟩
            case measure => simp [intOf]; omega
        | false =>
          rw [hnear] at KB
          go_wp2_with fail
          refine (KB _ (hr.later hB)).mono ?_
          rintro e w' ⟨rfl, rfl⟩
          have HREL : Hid (sj = ((upto ((beside n ls)[i]?.getD 0) (j + 1)).map (·.val)).foldl (visitStep (visit (beside n ls) f) i) s0) := by
            show _ = _
            rw [upto_skip, ← HSJ.out]
            cases hb : ((beside n ls)[i]?.getD 0).testBit j with
            | false => rfl
            | true => have := HAN.out.1 hb; rw [hnear] at this; cases this
          go_wp2
          go_roundw
          case rel => exact ⟨j + 1, _, _, _, _, by omega, by go_num, HREL, HOK, x0, x1, q1, q2, q3, hB⟩
          case measure => simp [intOf]; omega
      · obtain rfl : n = j := by omega
        have y1 := x0.c1
        obtain ⟨hok, hneg, hfj⟩ := HOK.out
        have hll := hok.ll
        have y3 := x0.c3
        go_wp2_with fail
        refine (refSet_any (.slice al' n cl') sj.left i (sj.now : Int) _ (by rw [hll]; exact q2.rd) (by omega) (by omega)).mono ?_
        rintro e w5 ⟨al, cl, rfl, om, hB5⟩
        rw [List.length_set, hll] at om
        rw [List.length_set, hll]
        have hB25 : w.heap.size + 2 ≤ wr.heap.size := by have := x1.lt; omega
        have x0 := x0.later hB5
        have x1 := x1.later hB5
        have q1 := owns_later q1 hB5
        have q3 := owns_later q3 hB5
        have q2 := owns_mono om hB25
        have hBr := hB.trans (hB5.mono hB.size)
        have xa := x0.s1 (.slice al n cl)
        have ga := grownBy_setCell_at w5 w.heap.size 1 (.slice al n cl)
        have hBa := hBr.setCell (p := ⟨w.heap.size, 1, none⟩) (Nat.le_refl _) (.slice al n cl)
        have x1a := x1.kept ga (by simp)
        have q1 := own_kept q1 ga (.inr (.inl rfl))
        have q2 := own_kept q2 ga (.inr (.inl rfl))
        have q3 := own_kept q3 ga (.inr (.inl rfl))
        have y1 := x0.c1
        have u1 := x0.fz 1
        have hnow := (hok.few hn8).1
        have wn : IntKind.i64.wrap ((sj.now : Int) + 1) = (sj.now : Int) + 1 := IntWalk.i64_in _ (by omega)
        have HEND : Hid (visit (beside n ls) (f + 1) i b s = sj.leave i) := by
          show _ = _
          rw [HV.out, HSJ.out, upto_all _ _ (fun x h1 h2 => by
            cases hb : ((beside n ls)[i]?.getD 0).testBit x with
            | false => rfl
            | true => exact absurd (adj_bounded HG.out i x hb).2 (by omega))]
        have ya3 := xa.c3
        have ua3 := xa.fz 3
        have xb := xa.s3 (.int .i64 ((sj.now : Int) + 1))
        have gb := grownBy_setCell_at (w5.setCell ⟨w.heap.size, 1, none⟩ (.slice al n cl)) w.heap.size 3 (.int .i64 ((sj.now : Int) + 1))
        have hBb := hBa.setCell (p := ⟨w.heap.size, 3, none⟩) (Nat.le_refl _) (.int .i64 ((sj.now : Int) + 1))
        have x1b := x1a.kept gb (by simp)
        have q1 := own_kept q1 gb (.inr (.inl rfl))
        have q2 := own_kept q2 gb (.inr (.inl rfl))
        have q3 := own_kept q3 gb (.inr (.inl rfl))
        have v0 := xb.c0
        have v1 := xb.c1
        have v2 := xb.c2
        have v3 := xb.c3
        have xc := x1b.s0 (.slice (some ⟨am', 0, none⟩) n cm')
        have xd := xc.s1 (.slice al n cl)
        have xe := xd.s2 (.slice af' n cf')
        have xf := xe.s3 (.int .i64 ((sj.now : Int) + 1))
        have t0 := x1b.c0
        have t1 := xc.c1
        have t2 := xd.c2
        have t3 := xe.c3
        have s0 := x1b.fz 0
        have s1 := xc.fz 1
        have s2 := xd.fz 2
        have s3 := xe.fz 3
        have r0 := xf.c0
        have r1 := xf.c1
        have r2 := xf.c2
        have r3 := xf.c3
        have gf := grown4 ((w5.setCell ⟨w.heap.size, 1, none⟩ (.slice al n cl)).setCell ⟨w.heap.size, 3, none⟩ (.int .i64 ((sj.now : Int) + 1))) (w.heap.size + 1) (.slice (some ⟨am', 0, none⟩) n cm') (.slice al n cl) (.slice af' n cf') (.int .i64 ((sj.now : Int) + 1))
        have HFIN : Hid (World.ownsRow _ _ _ _ _ _ _ ∧ World.ownsRow _ _ _ _ _ _ _ ∧ World.ownsRow _ _ _ _ _ _ _ ∧ Below _ _ _) := ⟨owns_mono (own_kept q1 gf (.inr (.inr rfl))) (by omega : w.heap.size ≤ w.heap.size + 2), owns_mono (own_kept q2 gf (.inr (.inr rfl))) (by omega : w.heap.size ≤ w.heap.size + 2), owns_mono (own_kept q3 gf (.inr (.inr rfl))) (by omega : w.heap.size ≤ w.heap.size + 2),
          hBb.grown gf hBb.size (fun k hk => by cases hk; omega)⟩
        clear om hB5 hBr x0 x1 HSJ HOK hneg hfj hok HV ga gb x1a hBa xa xb xc xd xe x1b gf hBb q1 q2 q3
        go_wp2
        refine bodyPost_ret (results_cell_row rfl _ _ (w.heap.size + 1) 38 _ (0, 0) _ rfl xf Tryd.underlying38 rfl (by kernel_rfl)) rfl ?_
        rw [HEND.out]
        exact ⟨_, _, _, rfl, HFIN.out⟩

end Go.Proofs.YtlfinlfmlnclhaaDoor

namespace Go.Proofs.YtlfinlfmlnclhaaDoor
open Go.RowKit Go.Shelf Gr

/-- three lists of the call's own, in three blocks -/
structure Own3 (W : World) (B : Nat) (a b c : Value) (x y z : List Int) : Prop where
  o1 : W.ownsRow (B + 2) 3 1 a x.length (ints x)
  o2 : W.ownsRow (B + 2) 3 1 b y.length (ints y)
  o3 : W.ownsRow (B + 2) 3 1 c z.length (ints z)
  d12 : ∀ k, a.ownBlock = some k → b.ownBlock ≠ some k
  d13 : ∀ k, a.ownBlock = some k → c.ownBlock ≠ some k
  d23 : ∀ k, b.ownBlock = some k → c.ownBlock ≠ some k
theorem Own3.rot {W : World} {B : Nat} {a b c : Value} {x y z : List Int} (h : Own3 W B a b c x y z) : Own3 W B b c a y z x :=
  ⟨h.o2, h.o3, h.o1, h.d23, fun k h1 h2 => h.d12 k h2 h1, fun k h1 h2 => h.d13 k h2 h1⟩
theorem Own3.kept {W W' : World} {B : Nat} {a b c : Value} {x y z : List Int} {row : Option Nat} (h : Own3 W B a b c x y z) (hg : W.grownBy W' row) (hr : row = none ∨ row = some B ∨ row = some (B + 1)) : Own3 W' B a b c x y z :=
  ⟨own_kept h.o1 hg hr, own_kept h.o2 hg hr, own_kept h.o3 hg hr, h.d12, h.d13, h.d23⟩
theorem Own3.app {W W' : World} {B : Nat} {a b c a' : Value} {x y z : List Int} {u : Int} (h : Own3 W B a b c x y z) (hA : AppTo W (B + 2) 3 1 a W' a' (x.length + 1) (ints x ++ [.int .i64 u])) : Own3 W' B a' b c (x ++ [u]) y z := by
  have kp : ∀ {v : Value} {l : List Int}, W.ownsRow (B + 2) 3 1 v l.length (ints l) → (∀ k, a.ownBlock = some k → v.ownBlock ≠ some k) → W'.ownsRow (B + 2) 3 1 v l.length (ints l) ∧ ∀ k, a'.ownBlock = some k → v.ownBlock ≠ some k := by
    intro v l o d
    refine ⟨World.ownsRow.kept o hA.grown ?_, fun k hk => ?_⟩
    · cases hv : v.ownBlock with
      | none => exact .inl rfl
      | some k => exact .inr fun e => d k e.symm hv
    · rcases hA.at_ with e | e
      · exact d k (e ▸ hk)
      · have := e k hk
        intro hv
        have := (o.lt k hv).2
        omega
  refine ⟨?_, (kp h.o2 h.d12).1, (kp h.o3 h.d13).1, (kp h.o2 h.d12).2, (kp h.o3 h.d13).2, h.d23⟩
  have := hA.own
  simpa [ints] using this
theorem Own3.box {W W' : World} {B : Nat} {a b c a' : Value} {x y z : List Int} {m : Nat} {l : List Value} {t : TypeId} {p q r s : Value} {k : Nat} (h : Own3 W B a b c x y z) (hA : AppTo W (B + 2) 3 1 a W' a' m l) (hx : Box4 W k t p q r s) (hk : k < B + 2) : Box4 W' k t p q r s :=
  hx.kept hA.grown (fun e => by have := (h.o1.lt k e.symm).1; omega)

theorem size_setCell' (W : World) (a : Addr) (v : Value) : (W.setCell a v).heap.size = W.heap.size := by simp [World.setCell]

/-- where the document's walk starts -/
def deepM (n : Nat) : DSt := ⟨List.replicate n (-1), List.replicate n (-1), List.replicate n (-1), 0, 0⟩
def deepMUp (O : List Nat) (n k : Nat) : DSt := (List.range k).foldl (rootStep O n) (deepM n)

theorem deepM_ok (n : Nat) : VOk n (deepM n) 0 n := by
  refine ⟨⟨by simp [deepM], by simp [deepM], by simp [deepM], by simp [deepM], show 0 + 0 = 2 * cnt 0 from by decide⟩, fun j hj => ?_, by omega⟩
  simp [deepM, at1, hj]
theorem deepMUp_succ (O : List Nat) (n k : Nat) : deepMUp O n (k + 1) = rootStep O n (deepMUp O n k) k := by
  unfold deepMUp; rw [List.range_succ, List.foldl_append]; rfl

set_option maxRecDepth 100000 in
set_option maxHeartbeats 4000000 in
theorem refWalk_ok (n : Nat) (v : Value) (ls : List Ln) (w : World) (hr : LinesRd w v ls) (hg : GoodG n ls) :
    Calls Tryd.prog 16 #[.int .i64 (n : Int), v] w fun e w' => ∃ vm vl vf, e = .returned (.agg #[vm, vl, vf, .int .i64 ((deepMUp (beside n ls) n n).now : Int)]) ∧
      w'.ownsRow w.heap.size 3 1 vm n (ints (deepMUp (beside n ls) n n).met) ∧ w'.ownsRow w.heap.size 3 1 vl n (ints (deepMUp (beside n ls) n n).left) ∧ w'.ownsRow w.heap.size 3 1 vf n (ints (deepMUp (beside n ls) n n).frm) ∧ Below w.heap.size w w' := by
  obtain ⟨i0, hi, hz0, hz1, hz2⟩ := info_parts info_int
  have hn1 := hg.1
  have hn8 := hg.2.1
  have HG := Lib.hid hg
  clear hg
  go_enter Tryd.func16, Tryd.ntmps16
  go_wp2_with fail
  have hb2 := below_2 w (.cells #[.slice none 0 0, .slice none 0 0, .slice none 0 0, .int .i64 0] 38) (.cells #[.slice none 0 0, .slice none 0 0, .slice none 0 0, .int .i64 0] 38)
  have x0 := (Box4.new w 38 (.slice none 0 0) (.slice none 0 0) (.slice none 0 0) (.int .i64 0)).later (below_alloc' _ (.cells #[.slice none 0 0, .slice none 0 0, .slice none 0 0, .int .i64 0] 38))
  have x1 := Box4.new (w.alloc (.cells #[.slice none 0 0, .slice none 0 0, .slice none 0 0, .int .i64 0] 38)) 38 (.slice none 0 0) (.slice none 0 0) (.slice none 0 0) (.int .i64 0)
  rw [World.size_alloc] at x1
  generalize (w.alloc (.cells #[.slice none 0 0, .slice none 0 0, .slice none 0 0, .int .i64 0] 38)).alloc (.cells #[.slice none 0 0, .slice none 0 0, .slice none 0 0, .int .i64 0] 38) = W1 at *
  have hW1 := x1.lt
  go_loopw [6] (fun jj wr => ∃ (j : Nat) (vm vl vf : Value), j ≤ n ∧ jj = .int .i64 j ∧ Box4 wr w.heap.size 38 (.slice none 0 0) (.slice none 0 0) (.slice none 0 0) (.int .i64 0) ∧ Box4 wr (w.heap.size + 1) 38 vm vl vf (.int .i64 0) ∧
      Own3 wr w.heap.size vm vl vf (List.replicate j (-1)) (List.replicate j (-1)) (List.replicate j (-1)) ∧ Below w.heap.size w wr) (fun jj _ => n - (intOf jj).toNat)
  case atStart => exact ⟨0, _, _, _, by omega, rfl, x0, x1, ⟨World.ownsRow_nil _ _ _ _, World.ownsRow_nil _ _ _ _, World.ownsRow_nil _ _ _ _, fun k h => by simp [Value.ownBlock] at h, fun k h => by simp [Value.ownBlock] at h, fun k h => by simp [Value.ownBlock] at h⟩, hb2⟩
  case round =>
    clear x0 x1 hb2
    obtain ⟨j, vm, vl, vf, hj, rfl, x0, x1, hO, hB⟩ := hrel
    obtain ⟨a1, c1, rfl⟩ := owns_slice hO.o1
    obtain ⟨a2, c2, rfl⟩ := owns_slice hO.o2
    obtain ⟨a3, c3, rfl⟩ := owns_slice hO.o3
    have hs2 : w.heap.size + 2 ≤ wr.heap.size := by have := x1.lt; omega
    simp only [List.length_replicate] at hO x1
    by_cases hlt : j < n
    · have hji : (j : Int) < (n : Int) := by omega
      have y0 := x1.c0
      have tok1 : True := trivial
      have tok2 : True := trivial
      have hl : (List.replicate j (-1 : Int)).length = j := by simp
      go_wp2_with (first
        | (at_builtin; have _t := tok1; go_must (refine wpl_app _ _ _ (AppTo.refl hO.o1) rfl rfl Tryd.underlying36 hi hz0 hz1 hz2 rfl (by decide) rfl rfl rfl (by simp [Value.oneCell']) (by decide) (by simp; omega) hs2 ?_); intro v1 w1 hA1 hne1 hst1; clear tok1;
           have hO1 := hO.app hA1; have xx1 := hO.box hA1 x1 (by omega); have xs1 := xx1.s0 v1; have gg1 := grownBy_setCell_at w1 (w.heap.size + 1) 0 v1; have hO1s := hO1.kept gg1 (.inr (.inr rfl)); have x01 := (hO.box hA1 x0 (by omega)).kept gg1 (by simp);
           have hB1 := hB.trans (hst1.mono (by omega)); have hB1s := hB1.setCell (p := ⟨w.heap.size + 1, 0, none⟩) (Nat.le_succ _) v1; have hs1 := hst1.size; have hs3 : w.heap.size + 2 ≤ (w1.setCell ⟨w.heap.size + 1, 0, none⟩ v1).heap.size := by simp [World.setCell] <;> omega;
           have hv1 := owns_some hA1.own (Nat.succ_pos _); rw [hl] at hv1; obtain ⟨g1, cap1, rfl⟩ := hv1; have a1c := xx1.c0; have a1f := xx1.fz 0; have a1d := xs1.c1; clear hA1 xx1 gg1 hO1 hB1 hO x1 x0 hB)
        | (at_builtin; have _t := tok2; go_must (refine wpl_app _ _ _ (AppTo.refl hO1s.o2) rfl rfl Tryd.underlying36 hi hz0 hz1 hz2 rfl (by decide) rfl (by rw [size_setCell']; rfl) rfl (by simp [Value.oneCell']) (by decide) (by simp; omega) hs3 ?_); intro v2 w2 hA2 hne2 hst2; clear tok2;
           have hO2 := (hO1s.rot.app hA2).rot.rot; have xx2 := hO1s.rot.box hA2 xs1 (by omega); have xs2 := xx2.s1 v2; have gg2 := grownBy_setCell_at w2 (w.heap.size + 1) 1 v2; have hO2s := hO2.kept gg2 (.inr (.inr rfl)); have x02 := (hO1s.rot.box hA2 x01 (by omega)).kept gg2 (by simp);
           have hB2 := hB1s.trans (hst2.mono (by omega)); have hB2s := hB2.setCell (p := ⟨w.heap.size + 1, 1, none⟩) (Nat.le_succ _) v2; have hs4 := hst2.size; have hs5 : w.heap.size + 2 ≤ (w2.setCell ⟨w.heap.size + 1, 1, none⟩ v2).heap.size := by simp [World.setCell] at * <;> omega;
           have hv2 := owns_some hA2.own (Nat.succ_pos _); rw [hl] at hv2; obtain ⟨g2, cap2, rfl⟩ := hv2; have a2c := xx2.c1; have a2f := xx2.fz 1; have a2d := xs2.c2; clear hA2 xx2 gg2 hO2 hB2 hO1s xs1 x01 hB1s)
        | (at_builtin; go_must (refine wpl_app _ _ _ (AppTo.refl hO2s.o3) rfl rfl Tryd.underlying36 hi hz0 hz1 hz2 rfl (by decide) rfl (by rw [size_setCell']; rfl) rfl (by simp [Value.oneCell']) (by decide) (by simp; omega) hs5 ?_); intro v3 w3 hA3 hne3 hst3;
           have hO3 := (hO2s.rot.rot.app hA3).rot; have xx3 := hO2s.rot.rot.box hA3 xs2 (by omega); have xs3 := xx3.s2 v3; have gg3 := grownBy_setCell_at w3 (w.heap.size + 1) 2 v3; have hO3s := hO3.kept gg3 (.inr (.inr rfl)); have x03 := (hO2s.rot.rot.box hA3 x02 (by omega)).kept gg3 (by simp);
           have hB3 := hB2s.trans (hst3.mono (by omega)); have hB3s := hB3.setCell (p := ⟨w.heap.size + 1, 2, none⟩) (Nat.le_succ _) v3;
           have hv3 := owns_some hA3.own (Nat.succ_pos _); rw [hl] at hv3; obtain ⟨g3, cap3, rfl⟩ := hv3; have a3c := xx3.c2; have a3f := xx3.fz 2; clear hA3 xx3 gg3 hO3 hB3 hO2s xs2 x02 hB2s))
      go_roundw
      case rel =>
        have er : List.replicate (j + 1) (-1 : Int) = List.replicate j (-1) ++ [-1] := List.replicate_succ'
        refine ⟨j + 1, _, _, _, by omega, by go_num, x03, xs3, ?_, hB3s⟩
        rw [er]; exact hO3s
      case measure => simp [intOf]; omega
    · obtain rfl : n = j := by omega
      have hL0 : (List.replicate n (-1 : Int)).length = n := by simp
      have q1 := hO.o1
      have q2 := hO.o2
      have q3 := hO.o3
      rw [hL0] at q1 q2 q3
      have HV0 := Lib.hid (deepM_ok n)
      clear hO hlt hj hL0
      go_wp2_with fail
      go_loopw [7] (fun jj wr => ∃ (j : Nat) (sj : DSt) (vm vl vf : Value), j ≤ n ∧ jj = .int .i64 j ∧ Hid (sj = deepMUp (beside n ls) n j) ∧ Hid (VOk n sj 0 n) ∧
        Box4 wr w.heap.size 38 (.slice none 0 0) (.slice none 0 0) (.slice none 0 0) (.int .i64 0) ∧ Box4 wr (w.heap.size + 1) 38 vm vl vf (.int .i64 (sj.now : Int)) ∧
        wr.ownsRow (w.heap.size + 2) 3 1 vm n (ints sj.met) ∧ wr.ownsRow (w.heap.size + 2) 3 1 vl n (ints sj.left) ∧ wr.ownsRow (w.heap.size + 2) 3 1 vf n (ints sj.frm) ∧ Below w.heap.size w wr) (fun jj _ => n - (intOf jj).toNat)
      case atStart => exact ⟨0, deepM n, _, _, _, by omega, rfl, rfl, HV0, x0, x1, q1, q2, q3, hB⟩
      case round =>
        clear x0 x1 q1 q2 q3 hB HV0
        obtain ⟨j, sj, vm, vl, vf, hj, rfl, HSJ, HOK, x0, x1, q1, q2, q3, hB⟩ := hrel
        have hn0 : 0 < n := by omega
        obtain ⟨am', cm', rfl⟩ := owns_some q1 hn0
        obtain ⟨al', cl', rfl⟩ := owns_some q2 hn0
        obtain ⟨af', cf', rfl⟩ := owns_some q3 hn0
        have hs2 : w.heap.size + 2 ≤ _ := x1.lt
        by_cases hlt : j < n
        · have hji : (j : Int) < (n : Int) := by omega
          have hok := HOK.out.1
          have HS1 := Lib.hid (HOK.out.2.1 j hlt)
          have hmj := own_at1 q1 hok.lm hlt
          have y0 := x1.c0
          generalize at1 sj.met j = mj at *
          by_cases hmn : mj < 0
          · have y1 := x1.c1
            have y2 := x1.c2
            have y3 := x1.c3
            have hseen := HS1.out.1 hmn
            have KV := refVisit_ok n v ls HG.out n j (-1) sj 0 _ _ _ _ (hr.later hB) hok hlt hseen HOK.out.2.2 HOK.out.2.1 (rd_of_owns q1) (rd_of_owns q2) (rd_of_owns q3)
            have HSEEN := Lib.hid hseen
            clear hseen
            go_wp2_with fail
            refine KV.mono ?_
            rintro e w5 ⟨vm', vl', vf', rfl, p1, p2, p3, hB5⟩
            obtain ⟨am5, cm5, rfl⟩ := owns_slice p1
            obtain ⟨al5, cl5, rfl⟩ := owns_slice p2
            obtain ⟨af5, cf5, rfl⟩ := owns_slice p3
            have HREL : Hid (visit (beside n ls) n j (-1) sj = deepMUp (beside n ls) n (j + 1) ∧ VOk n (visit (beside n ls) n j (-1) sj) 0 n) := by
              refine ⟨?_, VOk.visit hn8 (adj_bounded HG.out) (fun _ _ h => adj_symm HG.out h) HOK.out hlt HSEEN.out⟩
              rw [deepMUp_succ, ← HSJ.out]
              unfold rootStep
              rw [if_neg (by rw [HSEEN.out]; simp)]
            have hBr := hB.trans (hB5.mono hB.size)
            generalize visit (beside n ls) n j (-1) sj = s5 at *
            have x0 := x0.later hB5
            have x1 := x1.later hB5
            have x1a := x1.s0 (.slice am5 n cm5)
            have x1b := x1a.s1 (.slice al5 n cl5)
            have x1c := x1b.s2 (.slice af5 n cf5)
            have x1d := x1c.s3 (.int .i64 (s5.now : Int))
            have z0 := x1.c0
            have z1 := x1a.c1
            have z2 := x1b.c2
            have z3 := x1c.c3
            have u0 := x1.fz 0
            have u1 := x1a.fz 1
            have u2 := x1b.fz 2
            have u3 := x1c.fz 3
            have gg := grown4 w5 (w.heap.size + 1) (.slice am5 n cm5) (.slice al5 n cl5) (.slice af5 n cf5) (.int .i64 (s5.now : Int))
            have hBx := hBr.grown gg hBr.size (fun k hk => by cases hk; omega)
            have x0d := x0.kept gg (by simp)
            have p1 := own_kept (owns_mono p1 hs2) gg (.inr (.inr rfl))
            have p2 := own_kept (owns_mono p2 hs2) gg (.inr (.inr rfl))
            have p3 := own_kept (owns_mono p3 hs2) gg (.inr (.inr rfl))
            have HFIN := Lib.hid (show Hid True from trivial)
            clear gg hBr x1c x1b x1a x1 x0 hB5 HFIN
            go_wp2_with fail
            go_roundw
            case rel => exact ⟨j + 1, s5, _, _, _, by omega, by go_num, HREL.out.1, HREL.out.2, x0d, x1d, p1, p2, p3, hBx⟩
            case measure => simp [intOf]; omega
          · have HREL : Hid (sj = deepMUp (beside n ls) n (j + 1)) := by
              show _ = _
              rw [deepMUp_succ, ← HSJ.out]
              unfold rootStep
              rw [if_pos]
              cases hsn : sj.seen.testBit j with
              | true => rfl
              | false => exact absurd (HS1.out.2 hsn) hmn
            go_wp2_with fail
            go_roundw
            case rel => exact ⟨j + 1, sj, _, _, _, by omega, by go_num, HREL, HOK, x0, x1, q1, q2, q3, hB⟩
            case measure => simp [intOf]; omega
        · obtain rfl : n = j := by omega
          have HEND := Lib.hid HSJ.out
          have v0 := x1.c0
          have v1 := x1.c1
          have v2 := x1.c2
          have v3 := x1.c3
          have xc := x0.s0 (.slice (some ⟨am', 0, none⟩) n cm')
          have xd := xc.s1 (.slice (some ⟨al', 0, none⟩) n cl')
          have xe := xd.s2 (.slice (some ⟨af', 0, none⟩) n cf')
          have xf := xe.s3 (.int .i64 (sj.now : Int))
          have t0 := x0.c0
          have t1 := xc.c1
          have t2 := xd.c2
          have t3 := xe.c3
          have s0 := x0.fz 0
          have s1 := xc.fz 1
          have s2 := xd.fz 2
          have s3 := xe.fz 3
          have gf := fun W => grown4 W w.heap.size (.slice (some ⟨am', 0, none⟩) n cm') (.slice (some ⟨al', 0, none⟩) n cl') (.slice (some ⟨af', 0, none⟩) n cf') (.int .i64 (sj.now : Int))
          have hBx := hB.grown (gf _) hB.size (fun k hk => by cases hk; omega)
          have p1 := owns_mono (own_kept q1 (gf _) (.inr (.inl rfl))) (by omega : w.heap.size ≤ w.heap.size + 2)
          have p2 := owns_mono (own_kept q2 (gf _) (.inr (.inl rfl))) (by omega : w.heap.size ≤ w.heap.size + 2)
          have p3 := owns_mono (own_kept q3 (gf _) (.inr (.inl rfl))) (by omega : w.heap.size ≤ w.heap.size + 2)
          have HFIN := Lib.hid (And.intro p1 (And.intro p2 (And.intro p3 hBx)))
          clear gf p1 p2 p3 hBx q1 q2 q3 x0 x1 xc xd xe HSJ HOK
          go_wp2
          refine bodyPost_ret (results_cell_row rfl _ _ w.heap.size 38 _ (0, 0) _ rfl xf Tryd.underlying38 rfl (by kernel_rfl)) rfl ?_
          rw [← HEND.out]
          exact ⟨_, _, _, rfl, HFIN.out⟩

end Go.Proofs.YtlfinlfmlnclhaaDoor

namespace Go.Proofs.YtlfinlfmlnclhaaDoor
open Go.RowKit Go.Shelf Gr

set_option maxRecDepth 100000 in
set_option maxHeartbeats 4000000 in
theorem refLow_ok (n : Nat) (v : Value) (ls : List Ln) (hg : GoodG n ls) (m l c : List Int) (hd : IsDeep (beside n ls) n m l c) (hN : ∀ j k, adjS (beside n ls) j k ↔ k ∈ nbs (beside n ls) j) (now : Int) : ∀ (t i : Nat) (w : World) (vm vl vf : Value), LinesRd w v ls → i < n → 2 * n - (at1 m i).toNat ≤ t →
    Rd w vm n (ints m) → Rd w vl n (ints l) → Rd w vf n (ints c) →
    Calls Tryd.prog 17 #[.int .i64 (n : Int), v, .agg #[vm, vl, vf, .int .i64 now], .int .i64 (i : Int)] w fun e w' => e = .returned (.int .i64 (lowOf (beside n ls) n m l c i)) ∧ Below w.heap.size w w' := by
  intro t
  induction t with
  | zero => intro i w vm vl vf hr hi ht; have := hd.times i hi; omega
  | succ t ih =>
    intro i w vm vl vf hr hi ht r1 r2 r3
    have hn8 := hg.2.1
    have hn1 := hg.1
    have HG := Lib.hid hg
    have hii : (i : Int) < (n : Int) := by omega
    obtain ⟨b1, o1, c1, rfl, hb1, hc1⟩ := rd_at r1 hd.lm hn1
    obtain ⟨a2, c2, rfl, _⟩ := id r2
    obtain ⟨b3, o3, c3, rfl, hb3, hc3⟩ := rd_at r3 hd.lc hn1
    have HM := Lib.hid hc1
    have HF := Lib.hid hc3
    have HD := Lib.hid hd
    have HRL : Hid (lowOf (beside n ls) n m l c i = (List.range n).foldl (rlowStep (beside n ls) (lowOf (beside n ls) n m l c) m c i) (at1 m i)) :=
      (lowOf_is hd hN hi).unique (rlow_is hd (adj_bounded hg) hi (fun j hj _ => lowOf_is hd hN hj))
    clear hc1 hc3 hg
    have hb0 := below_alloc' w (.cells #[.slice (some ⟨b1, o1, none⟩) n c1, .slice a2 n c2, .slice (some ⟨b3, o3, none⟩) n c3, .int .i64 now] 38)
    have x0 := Box4.new w 38 (.slice (some ⟨b1, o1, none⟩) n c1) (.slice a2 n c2) (.slice (some ⟨b3, o3, none⟩) n c3) (.int .i64 now)
    have cm := (hb0.cell (p := ⟨b1, o1 + i, none⟩) hb1).trans (HM.out i hi)
    have y0 := x0.c0
    go_enter Tryd.func17, Tryd.ntmps17
    go_wp2_with fail
    generalize hW1 : w.alloc (.cells #[.slice (some ⟨b1, o1, none⟩) n c1, .slice a2 n c2, .slice (some ⟨b3, o3, none⟩) n c3, .int .i64 now] 38) = W1 at *
    clear hW1 cm y0
    go_loopw [9, 10] (fun out jj wr => ∃ (j : Nat) (o : Int), j ≤ n ∧ jj = .int .i64 j ∧ out = .int .i64 o ∧ Hid (o = (List.range j).foldl (rlowStep (beside n ls) (lowOf (beside n ls) n m l c) m c i) (at1 m i)) ∧ Below W1.heap.size W1 wr) (fun _ jj _ => n - (intOf jj).toNat)
    case atStart => exact ⟨0, _, by omega, rfl, rfl, by show _ = _; rfl, Below.refl _ _⟩
    case round =>
      obtain ⟨j, o, hj, rfl, rfl, HO, hB⟩ := hrel
      have hB2 := below_c hb0 hB
      have x := x0.later hB
      by_cases hlt : j < n
      · have hji : (j : Int) < (n : Int) := by omega
        have HAN := Lib.hid (adj_near HG.out i j)
        have KB := fun w hw => refBeside_any v ls (i : Int) (j : Int) w hw
        have HS : Hid (∀ o', o' = rlowStep (beside n ls) (lowOf (beside n ls) n m l c) m c i o j → o' = (List.range (j + 1)).foldl (rlowStep (beside n ls) (lowOf (beside n ls) n m l c) m c i) (at1 m i)) := fun o' h => by
          rw [List.range_succ, List.foldl_append, ← HO.out]; exact h
        cases hnear : near ls (i : Int) (j : Int) with
        | false =>
          rw [hnear] at KB
          go_wp2_with fail
          refine (KB _ (hr.later hB2)).mono ?_
          rintro e w' ⟨rfl, rfl⟩
          have HREL := Lib.hid (HS.out o (by
            unfold rlowStep
            rw [if_neg]
            intro h; have := HAN.out.1 h; rw [hnear] at this; cases this))
          go_wp2
          go_roundw
          case rel => exact ⟨j + 1, o, by omega, by go_num, rfl, HREL, hB⟩
          case measure => simp [intOf]; omega
        | true =>
          rw [hnear] at KB
          have y2 := x.c2
          have cj := (hB2.cell (p := ⟨b3, o3 + j, none⟩) hb3).trans (HF.out j hlt)
          have hadj : (((beside n ls)[i]?.getD 0).testBit j = true) := HAN.out.2 hnear
          by_cases hch : at1 c j = (i : Int)
          · have HLV : Hid (∀ z, z = (if lowOf (beside n ls) n m l c j < o then lowOf (beside n ls) n m l c j else o) → z = (List.range (j + 1)).foldl (rlowStep (beside n ls) (lowOf (beside n ls) n m l c) m c i) (at1 m i)) := fun z hz => by
              refine HS.out z ?_
              unfold rlowStep
              rw [if_pos hadj, if_pos hch, hz]
              split <;> omega
            have y0 := x.c0
            have y1 := x.c1
            have y3 := x.c3
            have hw := (child_in HD.out hlt hch).2.1.1
            have hti := HD.out.times j hlt
            have hti' := HD.out.times i hi
            have KL := ih j wr _ _ _ (hr.later hB2) hlt (by omega) (r1.later hB2) (r2.later hB2) (r3.later hB2)
            generalize lowOf (beside n ls) n m l c j = lj at *
            rw [hch] at cj
            clear hadj hw hti hti' hch
            go_wp2_with fail
            refine (KB _ (hr.later hB2)).mono ?_
            rintro e w' ⟨rfl, rfl⟩
            go_wp2_with fail
            refine KL.mono ?_
            rintro e w5 ⟨rfl, hB5⟩
            have hB3 := below_c hB hB5
            by_cases hlo : lj < o
            · have HREL := Lib.hid (HLV.out lj (by rw [if_pos hlo]))
              go_wp2
              go_roundw
              case rel => exact ⟨j + 1, lj, by omega, by go_num, rfl, HREL, hB3⟩
              case measure => simp [intOf]; omega
            · have HREL := Lib.hid (HLV.out o (by rw [if_neg hlo]))
              go_wp2
              go_roundw
              case rel => exact ⟨j + 1, o, by omega, by go_num, rfl, HREL, hB3⟩
              case measure => simp [intOf]; omega
          · have ci := (hB2.cell (p := ⟨b3, o3 + i, none⟩) hb3).trans (HF.out i hi)
            have y0 := x.c0
            have cmj := (hB2.cell (p := ⟨b1, o1 + j, none⟩) hb1).trans (HM.out j hlt)
            by_cases hpar : at1 c i = (j : Int)
            · have HREL := Lib.hid (HS.out o (by
                unfold rlowStep
                rw [if_pos hadj, if_neg hch, if_neg (fun h => h hpar)]))
              rw [hpar] at ci
              clear hadj hpar
              generalize at1 c j = cjv at *
              go_wp2_with fail
              refine (KB _ (hr.later hB2)).mono ?_
              rintro e w' ⟨rfl, rfl⟩
              go_wp2
              go_roundw
              case rel => exact ⟨j + 1, o, by omega, by go_num, rfl, HREL, hB⟩
              case measure => simp [intOf]; omega
            · have HLV : Hid (∀ z, z = (if at1 m j < o then at1 m j else o) → z = (List.range (j + 1)).foldl (rlowStep (beside n ls) (lowOf (beside n ls) n m l c) m c i) (at1 m i)) := fun z hz => by
                refine HS.out z ?_
                unfold rlowStep
                rw [if_pos hadj, if_neg hch, if_pos hpar, hz]
                split <;> omega
              clear hadj
              generalize at1 c j = cjv at *
              generalize at1 c i = civ at *
              generalize at1 m j = mj at *
              go_wp2_with fail
              refine (KB _ (hr.later hB2)).mono ?_
              rintro e w' ⟨rfl, rfl⟩
              by_cases hlo : mj < o
              · have HREL := Lib.hid (HLV.out mj (by rw [if_pos hlo]))
                go_wp2
                go_roundw
                case rel => exact ⟨j + 1, mj, by omega, by go_num, rfl, HREL, hB⟩
                case measure => simp [intOf]; omega
              · have HREL := Lib.hid (HLV.out o (by rw [if_neg hlo]))
                go_wp2
                go_roundw
                case rel => exact ⟨j + 1, o, by omega, by go_num, rfl, HREL, hB⟩
                case measure => simp [intOf]; omega
      · obtain rfl : n = j := by omega
        go_wp2
        go_ret
        refine ⟨?_, hB2⟩
        rw [HRL.out, ← HO.out]
        rfl

end Go.Proofs.YtlfinlfmlnclhaaDoor

namespace Go.Proofs.YtlfinlfmlnclhaaDoor.Gr

structure Ag (n : Nat) (s t : DSt) : Prop where
  now : s.now = t.now
  seen : s.seen = t.seen
  lm : s.met.length = n
  ll : s.left.length = n
  lf : s.frm.length = n
  km : t.met.length = n
  kl : t.left.length = n
  kf : t.frm.length = n
structure Agree (s t s' t' : DSt) : Prop where
  m : ∀ x, (at1 s.met x = at1 t.met x ∨ New s s' x) → at1 s'.met x = at1 t'.met x
  l : ∀ x, (at1 s.left x = at1 t.left x ∨ New s s' x) → at1 s'.left x = at1 t'.left x
  f : ∀ x, (at1 s.frm x = at1 t.frm x ∨ New s s' x) → at1 s'.frm x = at1 t'.frm x
theorem not_new_self {s : DSt} {x : Nat} : ¬ New s s x := by rintro ⟨h1, h2⟩; rw [h1] at h2; cases h2
theorem Agree.refl (s t : DSt) : Agree s t s t :=
  ⟨fun _ h => h.resolve_right not_new_self, fun _ h => h.resolve_right not_new_self, fun _ h => h.resolve_right not_new_self⟩
theorem Agree.trans {s t s1 t1 s2 t2 : DSt} (h : Agree s t s1 t1) (k : Agree s1 t1 s2 t2) : Agree s t s2 t2 := by
  have sp : ∀ x, New s s2 x → New s s1 x ∨ New s1 s2 x := by
    rintro x ⟨h1, h2⟩
    cases hb : s1.seen.testBit x with
    | true => exact .inl ⟨hb, h2⟩
    | false => exact .inr ⟨h1, hb⟩
  refine ⟨fun x hx => ?_, fun x hx => ?_, fun x hx => ?_⟩
  · rcases hx with hx | hx
    · exact k.m x (.inl (h.m x (.inl hx)))
    · rcases sp x hx with hx | hx
      · exact k.m x (.inl (h.m x (.inr hx)))
      · exact k.m x (.inr hx)
  · rcases hx with hx | hx
    · exact k.l x (.inl (h.l x (.inl hx)))
    · rcases sp x hx with hx | hx
      · exact k.l x (.inl (h.l x (.inr hx)))
      · exact k.l x (.inr hx)
  · rcases hx with hx | hx
    · exact k.f x (.inl (h.f x (.inl hx)))
    · rcases sp x hx with hx | hx
      · exact k.f x (.inl (h.f x (.inr hx)))
      · exact k.f x (.inr hx)

theorem visit_ag {O : List Nat} {n : Nat} (hO : Bounded n O) : ∀ (f i : Nat) (b : Int) (s t : DSt), Ag n s t → i < n → Ag n (visit O f i b s) (visit O f i b t) ∧ Agree s t (visit O f i b s) (visit O f i b t) := by
  intro f
  induction f with
  | zero => intro i b s t h _; exact ⟨h, Agree.refl s t⟩
  | succ f ih =>
    intro i b s t h hi
    have fold : ∀ (xs : List Nat), (∀ x ∈ xs, x < n) → ∀ (s t : DSt), Ag n s t → Ag n (xs.foldl (visitStep (visit O f) i) s) (xs.foldl (visitStep (visit O f) i) t) ∧ Agree s t (xs.foldl (visitStep (visit O f) i) s) (xs.foldl (visitStep (visit O f) i) t) := by
      intro xs
      induction xs with
      | nil => intro _ s t h; exact ⟨h, Agree.refl s t⟩
      | cons x r ihx =>
        intro hx s t h
        have step : Ag n (visitStep (visit O f) i s x) (visitStep (visit O f) i t x) ∧ Agree s t (visitStep (visit O f) i s x) (visitStep (visit O f) i t x) := by
          unfold visitStep
          rw [← h.seen]
          cases hb : s.seen.testBit x with
          | true => rw [if_pos rfl, if_pos rfl]; exact ⟨h, Agree.refl s t⟩
          | false => rw [if_neg (by simp), if_neg (by simp)]; exact ih x i s t h (hx x List.mem_cons_self)
        obtain ⟨g1, g2⟩ := ihx (fun y hy => hx y (List.mem_cons_of_mem _ hy)) _ _ step.1
        rw [List.foldl_cons, List.foldl_cons]
        exact ⟨g1, step.2.trans g2⟩
    have he : Ag n (s.enter i b) (t.enter i b) := ⟨by simp [DSt.enter, h.now], by simp [DSt.enter, h.seen], by simp [DSt.enter, h.lm], h.ll, by simp [DSt.enter, h.lf], by simp [DSt.enter, h.km], h.kl, by simp [DSt.enter, h.kf]⟩
    have hxs : ∀ x ∈ (elems (O[i]?.getD 0)).map (·.val), x < n := by
      intro x hx
      obtain ⟨p, hp, rfl⟩ := List.mem_map.1 hx
      exact (hO i p.val (mem_elems.1 hp)).2
    obtain ⟨h1, h2⟩ := fold _ hxs _ _ he
    show Ag n ((((elems (O[i]?.getD 0)).map (·.val)).foldl (visitStep (visit O f) i) (s.enter i b)).leave i) ((((elems (O[i]?.getD 0)).map (·.val)).foldl (visitStep (visit O f) i) (t.enter i b)).leave i) ∧ Agree s t ((((elems (O[i]?.getD 0)).map (·.val)).foldl (visitStep (visit O f) i) (s.enter i b)).leave i) ((((elems (O[i]?.getD 0)).map (·.val)).foldl (visitStep (visit O f) i) (t.enter i b)).leave i)
    generalize ((elems (O[i]?.getD 0)).map (·.val)).foldl (visitStep (visit O f) i) (s.enter i b) = s1 at *
    generalize ((elems (O[i]?.getD 0)).map (·.val)).foldl (visitStep (visit O f) i) (t.enter i b) = t1 at *
    refine ⟨⟨by simp [DSt.leave, h1.now], h1.seen, h1.lm, by simp [DSt.leave, h1.ll], h1.lf, h1.km, by simp [DSt.leave, h1.kl], h1.kf⟩, ?_⟩
    have sp : ∀ x, New s (s1.leave i) x → x = i ∨ New (s.enter i b) s1 x := by
      rintro x ⟨g1, g2⟩
      by_cases e : x = i
      · exact .inl e
      · refine .inr ⟨g1, ?_⟩
        cases hb : (s.enter i b).seen.testBit x with
        | false => rfl
        | true => rcases bit_with.1 hb with h4 | h4
                  · rw [h4] at g2; cases g2
                  · exact absurd h4 e
    have m1 : ∀ x, at1 (s.enter i b).met x = if x = i then (s.now : Int) else at1 s.met x := fun x => at1_set (by rw [h.lm]; exact hi)
    have m2 : ∀ x, at1 (t.enter i b).met x = if x = i then (t.now : Int) else at1 t.met x := fun x => at1_set (by rw [h.km]; exact hi)
    have f1 : ∀ x, at1 (s.enter i b).frm x = if x = i then b else at1 s.frm x := fun x => at1_set (by rw [h.lf]; exact hi)
    have f2 : ∀ x, at1 (t.enter i b).frm x = if x = i then b else at1 t.frm x := fun x => at1_set (by rw [h.kf]; exact hi)
    have l1 : ∀ x, at1 (s1.leave i).left x = if x = i then (s1.now : Int) else at1 s1.left x := fun x => at1_set (by rw [h1.ll]; exact hi)
    have l2 : ∀ x, at1 (t1.leave i).left x = if x = i then (t1.now : Int) else at1 t1.left x := fun x => at1_set (by rw [h1.kl]; exact hi)
    refine ⟨fun x hx => ?_, fun x hx => ?_, fun x hx => ?_⟩
    · show at1 s1.met x = at1 t1.met x
      by_cases e : x = i
      · exact h2.m x (.inl (by rw [m1, m2, if_pos e, if_pos e, h.now]))
      · rcases hx with hx | hx
        · exact h2.m x (.inl (by rw [m1, m2, if_neg e, if_neg e]; exact hx))
        · exact h2.m x (.inr ((sp x hx).resolve_left e))
    · rw [l1, l2]
      by_cases e : x = i
      · rw [if_pos e, if_pos e, h1.now]
      · rw [if_neg e, if_neg e]
        rcases hx with hx | hx
        · exact h2.l x (.inl hx)
        · exact h2.l x (.inr ((sp x hx).resolve_left e))
    · show at1 s1.frm x = at1 t1.frm x
      by_cases e : x = i
      · exact h2.f x (.inl (by rw [f1, f2, if_pos e, if_pos e]))
      · rcases hx with hx | hx
        · exact h2.f x (.inl (by rw [f1, f2, if_neg e, if_neg e]; exact hx))
        · exact h2.f x (.inr ((sp x hx).resolve_left e))

theorem deepUp_ag {O : List Nat} {n : Nat} (hO : Bounded n O) : ∀ k, k ≤ n → Ag n (deepUp O n k) (deepMUp O n k) ∧ Agree (deep0 n) (deepM n) (deepUp O n k) (deepMUp O n k) := by
  intro k
  induction k with
  | zero => intro _; exact ⟨⟨rfl, rfl, by simp [deepUp, deep0], by simp [deepUp, deep0], by simp [deepUp, deep0], by simp [deepMUp, deepM], by simp [deepMUp, deepM], by simp [deepMUp, deepM]⟩, Agree.refl _ _⟩
  | succ k ih =>
    intro hk
    obtain ⟨h1, h2⟩ := ih (by omega)
    have e : deepUp O n (k + 1) = rootStep O n (deepUp O n k) k := by unfold deepUp; rw [List.range_succ, List.foldl_append]; rfl
    rw [e, deepMUp_succ]
    unfold rootStep
    rw [← h1.seen]
    cases hb : (deepUp O n k).seen.testBit k with
    | true => rw [if_pos rfl, if_pos rfl]; exact ⟨h1, h2⟩
    | false =>
      rw [if_neg (by simp), if_neg (by simp)]
      obtain ⟨g1, g2⟩ := visit_ag hO n k (-1) _ _ h1 (by omega)
      exact ⟨g1, h2.trans g2⟩

theorem list_ext_at1 {n : Nat} {x y : List Int} (hx : x.length = n) (hy : y.length = n) (h : ∀ i, i < n → at1 x i = at1 y i) : x = y := by
  refine List.ext_getElem? fun i => ?_
  by_cases hi : i < n
  · rw [at1_lt (by omega), at1_lt (by omega), h i hi]
  · rw [List.getElem?_eq_none (by omega), List.getElem?_eq_none (by omega)]

theorem deepM_same {O : List Nat} {n : Nat} (hn : n ≤ 8) (hO : Bounded n O) (hs : Symm O) : (deepMUp O n n).met = (deepWalk O n).met ∧ (deepMUp O n n).left = (deepWalk O n).left ∧ (deepMUp O n n).frm = (deepWalk O n).frm := by
  obtain ⟨h1, h2⟩ := deepUp_ag hO n (Nat.le_refl _)
  obtain ⟨_, _, h3⟩ := deepUp_eff hn hO hs n (Nat.le_refl _)
  have hnew : ∀ x, x < n → New (deep0 n) (deepUp O n n) x := fun x hx => ⟨h3 x hx, by simp [deep0]⟩
  unfold deepWalk
  exact ⟨list_ext_at1 h1.km h1.lm fun i hi => (h2.m i (.inr (hnew i hi))).symm, list_ext_at1 h1.kl h1.ll fun i hi => (h2.l i (.inr (hnew i hi))).symm, list_ext_at1 h1.kf h1.lf fun i hi => (h2.f i (.inr (hnew i hi))).symm⟩

end Go.Proofs.YtlfinlfmlnclhaaDoor.Gr
