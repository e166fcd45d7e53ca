/- Distances back and forth, and parts that hang together: plain. Conditions: in each statement. -/
import Derived.Test.YtmkdkjdbmnocoaaRingP
namespace Go.Proofs.Ytmkdkjdbmnocoaa.Gr

def Symm (O : List Nat) : Prop := ∀ i j, adjS O i j → adjS O j i

/-- no farther than over a third one -/
theorem dist_tri {O : List Nat} {n a b : Nat} {x y : List Int} (hx : IsDist O n a x) (hy : IsDist O n b y) (hb : 0 ≤ at1 x b) : ∀ (j v : Nat), at1 y v = (j : Int) → 0 ≤ at1 x v ∧ at1 x v ≤ at1 x b + j := by
  intro j
  induction j with
  | zero => intro v hv; have := hy.zero v hv; subst this; omega
  | succ j ih =>
    intro v hv
    obtain ⟨u, h1, h2⟩ := hy.pre v (by omega)
    obtain ⟨h3, h4⟩ := ih u (by omega)
    obtain ⟨h5, h6⟩ := hx.edge u v h1 h3
    omega
theorem dist_back {O : List Nat} {n a : Nat} {x : List Int} (hn : n ≤ 8) (hO : Bounded n O) (hs : Symm O) (hx : IsDist O n a x) : ∀ (k v : Nat) (D : List Int), at1 x v = (k : Int) → IsDist O n v D → 0 ≤ at1 D a ∧ at1 D a ≤ k := by
  intro k
  induction k with
  | zero => intro v D hv hD; have := hx.zero v hv; subst this; rw [hD.src]; omega
  | succ k ih =>
    intro v D hv hD
    obtain ⟨j, h1, h2⟩ := hx.pre v (by omega)
    obtain ⟨Dj, hDj⟩ := exists_dist hn hO (hO j v h1).1 (O := O)
    obtain ⟨h3, h4⟩ := ih j Dj (by omega) hDj
    obtain ⟨h5, h6⟩ := hD.edge v j (hs j v h1) (by rw [hD.src]; omega)
    rw [hD.src] at h6
    obtain ⟨h7, h8⟩ := dist_tri hD hDj h5 (at1 Dj a).toNat a (by omega)
    omega
theorem dist_symm {O : List Nat} {n a b : Nat} {x y : List Int} (hn : n ≤ 8) (hO : Bounded n O) (hs : Symm O) (hx : IsDist O n a x) (hy : IsDist O n b y) : at1 x b = at1 y a := by
  have l1 := hx.lo b
  have l2 := hy.lo a
  by_cases h1 : 0 ≤ at1 x b
  · obtain ⟨g1, g2⟩ := dist_back hn hO hs hx (at1 x b).toNat b y (by omega) hy
    obtain ⟨g3, g4⟩ := dist_back hn hO hs hy (at1 y a).toNat a x (by omega) hx
    omega
  · by_cases h2 : 0 ≤ at1 y a
    · obtain ⟨g3, g4⟩ := dist_back hn hO hs hy (at1 y a).toNat a x (by omega) hx
      omega
    · omega

theorem below_bit (n v : Nat) : (2 ^ n - 1).testBit v = true ↔ v < n := by rw [Nat.testBit_two_pow_sub_one]; simp

/-- the points that can be reached are those whose distance is told -/
theorem reach_dist {O : List Nat} {n a s : Nat} {x : List Int} (hO : Bounded n O) (hr : IsReach O (2 ^ n - 1) a s) (hx : IsDist O n a x) (v : Nat) : s.testBit v = true ↔ 0 ≤ at1 x v := by
  constructor
  · intro h
    exact hr.least (fun v => 0 ≤ at1 x v) (by rw [hx.src]; omega) (fun u v hu huv _ => (hx.edge u v huv hu).1) v h
  · have key : ∀ (k v : Nat), at1 x v = (k : Int) → s.testBit v = true := by
      intro k
      induction k with
      | zero => intro v hv; have := hx.zero v hv; subst this; exact hr.src
      | succ k ih =>
        intro v hv
        obtain ⟨u, h1, h2⟩ := hx.pre v (by omega)
        exact hr.shut u v (ih u (by omega)) h1 ((below_bit n v).2 (hO u v h1).2)
    intro h
    exact key (at1 x v).toNat v (by omega)

/-- of each point the least one with which it hangs together -/
structure IsParts (O : List Nat) (n : Nat) (p : List Int) : Prop where
  len : p.length = n
  least : ∀ i, i < n → ∃ s m : Nat, IsReach O (2 ^ n - 1) i s ∧ at1 p i = (m : Int) ∧ s.testBit m = true ∧ ∀ j, s.testBit j = true → m ≤ j

theorem elems_sorted (s : Nat) : (elems s).Pairwise (fun a b => a.val < b.val) := by
  have h : (List.finRange 8).Pairwise (fun (a b : Pt) => a.val < b.val) := by decide
  exact h.filter _
theorem elems_head {s i : Nat} (hs : s < 256) (hi : s.testBit i = true) : ∃ (x : Pt) (r : List Pt), elems s = x :: r ∧ s.testBit x.val = true ∧ ∀ j, s.testBit j = true → x.val ≤ j := by
  have h8 : ∀ j, s.testBit j = true → j < 8 := by
    intro j hj
    rcases Nat.lt_or_ge j 8 with h | h
    · exact h
    · have : s.testBit j = false := Nat.testBit_lt_two_pow (Nat.lt_of_lt_of_le (show s < 2 ^ 8 from hs) (Nat.pow_le_pow_right (by omega) h))
      rw [this] at hj; cases hj
  have hm : (⟨i, h8 i hi⟩ : Pt) ∈ elems s := mem_elems.2 hi
  have hso := elems_sorted s
  cases he : elems s with
  | nil => rw [he] at hm; cases hm
  | cons x r =>
    refine ⟨x, r, rfl, mem_elems.1 (by rw [he]; exact List.mem_cons_self), fun j hj => ?_⟩
    have hjm : (⟨j, h8 j hj⟩ : Pt) ∈ elems s := mem_elems.2 hj
    rw [he] at hjm hso
    rcases List.mem_cons.1 hjm with e | h
    · rw [← e]; exact Nat.le_refl _
    · exact Nat.le_of_lt ((List.pairwise_cons.1 hso).1 _ h)

/-- one part: just where the distance is told -/
theorem parts_dist {O : List Nat} {n a b : Nat} {p x : List Int} (hn : n ≤ 8) (hO : Bounded n O) (hs : Symm O) (hp : IsParts O n p) (hx : IsDist O n a x) (ha : a < n) (hb : b < n) : at1 p a = at1 p b ↔ 0 ≤ at1 x b := by
  obtain ⟨sa, ma, r1, r2, r3, r4⟩ := hp.least a ha
  obtain ⟨sb, mb, q1, q2, q3, q4⟩ := hp.least b hb
  obtain ⟨y, hy⟩ := exists_dist hn hO hb (O := O)
  have da := reach_dist hO r1 hx
  have db := reach_dist hO q1 hy
  constructor
  · intro h
    have e : ma = mb := by omega
    subst e
    have h1 := (da ma).1 r3
    have h2 := (db ma).1 q3
    obtain ⟨z, hz⟩ := exists_dist hn hO (O := O) (show ma < n by have := at1_in h1; rw [hx.len] at this; exact this)
    have h3 := dist_symm hn hO hs hy hz
    exact (dist_tri hx hz h1 (at1 z b).toNat b (by omega)).1
  · intro h
    have hsub : ∀ v, 0 ≤ at1 x v ↔ 0 ≤ at1 y v := by
      intro v
      have h3 := dist_symm hn hO hs hx hy
      constructor
      · intro hv
        exact (dist_tri hy hx (by omega) (at1 x v).toNat v (by omega)).1
      · intro hv
        exact (dist_tri hx hy h (at1 y v).toNat v (by omega)).1
    have h1 := r4 mb ((da mb).2 ((hsub mb).2 ((db mb).1 q3)))
    have h2 := q4 ma ((db ma).2 ((hsub ma).1 ((da ma).1 r3)))
    omega
theorem parts_le {O : List Nat} {n a : Nat} {p : List Int} (hp : IsParts O n p) (ha : a < n) : 0 ≤ at1 p a ∧ at1 p a ≤ a := by
  obtain ⟨sa, ma, r1, r2, r3, r4⟩ := hp.least a ha
  have := r4 a r1.src
  omega

end Go.Proofs.Ytmkdkjdbmnocoaa.Gr
