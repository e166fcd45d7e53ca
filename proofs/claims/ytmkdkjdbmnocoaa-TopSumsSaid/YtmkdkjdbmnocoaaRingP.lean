/- The shortest ring: plain. Conditions: in each statement. -/
import Derived.Test.YtmkdkjdbmnocoaaAdj
namespace Go.Proofs.Ytmkdkjdbmnocoaa.Gr

/-- without the line between a and b -/
def cutS (O : List Nat) (a b : Nat) : List Nat := (O.set a (diff (O[a]?.getD 0) (2 ^ b))).set b (diff (O[b]?.getD 0) (2 ^ a))
theorem cutS_length (O : List Nat) (a b : Nat) : (cutS O a b).length = O.length := by simp [cutS]

theorem cutS_adj {O : List Nat} {a b : Nat} (ha : a < O.length) (hb : b < O.length) (hne : a ≠ b) (i j : Nat) :
    adjS (cutS O a b) i j ↔ adjS O i j ∧ ¬ (i = a ∧ j = b) ∧ ¬ (i = b ∧ j = a) := by
  unfold adjS cutS
  rw [List.getElem?_set]
  by_cases h1 : b = i
  · subst h1
    simp only [if_true, List.length_set, if_pos hb, Option.getD_some]
    rw [diff_bit, Nat.testBit_two_pow]
    simp only [Bool.and_eq_true, Bool.not_eq_true', decide_eq_false_iff_not]
    constructor
    · rintro ⟨h2, h3⟩; exact ⟨h2, fun h => hne h.1.symm, fun h => h3 h.2.symm⟩
    · rintro ⟨h2, _, h3⟩; exact ⟨h2, fun h => h3 ⟨by first | rfl | trivial, h.symm⟩⟩
  · rw [if_neg h1, List.getElem?_set]
    by_cases h2 : a = i
    · subst h2
      simp only [if_true, if_pos ha, Option.getD_some]
      rw [diff_bit, Nat.testBit_two_pow]
      simp only [Bool.and_eq_true, Bool.not_eq_true', decide_eq_false_iff_not]
      constructor
      · rintro ⟨h3, h4⟩; exact ⟨h3, fun h => h4 h.2.symm, fun h => h1 h.1.symm⟩
      · rintro ⟨h3, h4, _⟩; exact ⟨h3, fun h => h4 ⟨by first | rfl | trivial, h.symm⟩⟩
    · rw [if_neg h2]
      constructor
      · intro h; exact ⟨h, fun h' => h2 h'.1.symm, fun h' => h1 h'.1.symm⟩
      · intro h; exact h.1
theorem cutS_bounded {n : Nat} {O : List Nat} {a b : Nat} (hO : Bounded n O) (ha : a < O.length) (hb : b < O.length) (hne : a ≠ b) : Bounded n (cutS O a b) :=
  fun i j h => hO i j ((cutS_adj ha hb hne i j).1 h).1
theorem diff_small {s t : Nat} (h : s < 256) : diff s t < 256 := by
  rcases Nat.lt_or_ge (diff s t) 256 with h1 | h1
  · exact h1
  · obtain ⟨i, hi, hb⟩ := Nat.exists_ge_and_testBit_of_ge_two_pow (n := 8) h1
    rw [diff_bit] at hb
    have : s.testBit i = false := Nat.testBit_lt_two_pow (Nat.lt_of_lt_of_le (show s < 2 ^ 8 from h) (Nat.pow_le_pow_right (by omega) hi))
    rw [this] at hb; simp at hb
theorem cutS_small {O : List Nat} {a b : Nat} (h : Small O) : Small (cutS O a b) := set_small (set_small h _ _ (diff_small (getD_small h _))) _ _ (diff_small (getD_small h _))

theorem exists_dist_of {O : List Nat} {n f : Nat} (hn : n ≤ 8) (hO : Bounded n O) : ∀ (m : Nat) (d : List Int) (q : List Nat), bfsMu d q ≤ m → Bfs O n f d q → ∃ D, IsDist O n f D := by
  intro m
  induction m with
  | zero =>
    intro d q hm h
    cases q with
    | nil => exact ⟨d, bfs_end h⟩
    | cons u t => simp [bfsMu] at hm
  | succ m ih =>
    intro d q hm h
    cases q with
    | nil => exact ⟨d, bfs_end h⟩
    | cons u t =>
      obtain ⟨d', t', _, h', hmu⟩ := bfs_round hn hO h
      exact ih d' t' (by omega) h'
theorem exists_dist {O : List Nat} {n f : Nat} (hn : n ≤ 8) (hO : Bounded n O) (hf : f < n) : ∃ D, IsDist O n f D := exists_dist_of hn hO _ _ _ (Nat.le_refl _) (bfs_start hf)

theorem dist_le {O : List Nat} {n f : Nat} {D D' : List Int} (h : IsDist O n f D) (h' : IsDist O n f D') : ∀ (k i : Nat), at1 D' i = (k : Int) → 0 ≤ at1 D i ∧ at1 D i ≤ at1 D' i := by
  intro k
  induction k with
  | zero => intro i hi; have e := h'.zero i hi; subst e; rw [h.src]; omega
  | succ k ih =>
    intro i hi
    obtain ⟨j, hj, hk⟩ := h'.pre i (by omega)
    obtain ⟨h1, h2⟩ := ih j (by omega)
    obtain ⟨h3, h4⟩ := h.edge j i hj h1
    omega
theorem dist_unique {O : List Nat} {n f : Nat} {D D' : List Int} (h : IsDist O n f D) (h' : IsDist O n f D') (i : Nat) : at1 D i = at1 D' i := by
  have l1 := h.lo i
  have l2 := h'.lo i
  by_cases h1 : 0 ≤ at1 D i
  · obtain ⟨g1, g2⟩ := dist_le h' h (at1 D i).toNat i (by omega)
    obtain ⟨g3, g4⟩ := dist_le h h' (at1 D' i).toNat i (by omega)
    omega
  · by_cases h2 : 0 ≤ at1 D' i
    · obtain ⟨g1, g2⟩ := dist_le h h' (at1 D' i).toNat i (by omega)
      omega
    · omega
/-- at each lesser distance there is a point -/
theorem dist_below {O : List Nat} {n f : Nat} {D : List Int} (h : IsDist O n f D) : ∀ (k i : Nat), at1 D i = (k : Int) → ∀ j : Nat, j ≤ k → ∃ v, at1 D v = (j : Int) := by
  intro k
  induction k with
  | zero => intro i hi j hj; have : j = 0 := by omega
            subst this; exact ⟨i, hi⟩
  | succ k ih =>
    intro i hi j hj
    by_cases e : j = k + 1
    · subst e; exact ⟨i, hi⟩
    · obtain ⟨u, _, hu⟩ := h.pre i (by omega)
      exact ih u (by omega) j (by omega)

/-- the length of the shortest ring over the line from a to b; 0: none -/
def RV (O : List Nat) (n a b : Nat) (r : Int) : Prop := ∃ D, IsDist (cutS O a b) n a D ∧ r = at1 D b + 1
structure BestIs (O : List Nat) (n : Nat) (P : Nat → Nat → Prop) (k : Int) : Prop where
  pos : 0 ≤ k
  some : k ≠ 0 → ∃ a b, P a b ∧ RV O n a b k
  least : ∀ a b r, P a b → RV O n a b r → r = 0 ∨ (k ≠ 0 ∧ k ≤ r)
  small : k ≤ n
theorem RV.unique {O : List Nat} {n a b : Nat} {r s : Int} (h : RV O n a b r) (h' : RV O n a b s) : r = s := by
  obtain ⟨D, h1, rfl⟩ := h
  obtain ⟨D', h2, rfl⟩ := h'
  rw [dist_unique h1 h2]
theorem RV.bounds {O : List Nat} {n a b : Nat} {r : Int} (h : RV O n a b r) : 0 ≤ r ∧ r ≤ n := by
  obtain ⟨D, h1, rfl⟩ := h
  have := h1.lo b
  have := h1.small b
  omega
theorem BestIs.mono {O : List Nat} {n : Nat} {P P' : Nat → Nat → Prop} {k : Int} (h : BestIs O n P k) (hp : ∀ a b, P a b ↔ P' a b) : BestIs O n P' k :=
  ⟨h.pos, fun hk => by obtain ⟨a, b, h1, h2⟩ := h.some hk; exact ⟨a, b, (hp a b).1 h1, h2⟩, fun a b r h1 h2 => h.least a b r ((hp a b).2 h1) h2, h.small⟩
/-- one line more: no better -/
theorem BestIs.skip {O : List Nat} {n a b : Nat} {P : Nat → Nat → Prop} {k r : Int} (h : BestIs O n P k) (hr : RV O n a b r) (hn : r = 0 ∨ (k ≠ 0 ∧ k ≤ r)) : BestIs O n (fun x y => P x y ∨ (x = a ∧ y = b)) k := by
  refine ⟨h.pos, fun hk => ?_, fun x y s hx hs => ?_, h.small⟩
  · obtain ⟨x, y, h1, h2⟩ := h.some hk; exact ⟨x, y, .inl h1, h2⟩
  · rcases hx with hx | ⟨rfl, rfl⟩
    · exact h.least x y s hx hs
    · rw [hs.unique hr]; exact hn
theorem BestIs.take {O : List Nat} {n a b : Nat} {P : Nat → Nat → Prop} {k r : Int} (h : BestIs O n P k) (hr : RV O n a b r) (h0 : r ≠ 0) (hn : k = 0 ∨ r < k) : BestIs O n (fun x y => P x y ∨ (x = a ∧ y = b)) r := by
  refine ⟨hr.bounds.1, fun _ => ⟨a, b, .inr ⟨rfl, rfl⟩, hr⟩, fun x y s hx hs => ?_, hr.bounds.2⟩
  rcases hx with hx | ⟨rfl, rfl⟩
  · rcases h.least x y s hx hs with h1 | ⟨h1, h2⟩
    · exact .inl h1
    · rcases hn with h3 | h3
      · exact absurd h3 h1
      · exact .inr ⟨h0, by omega⟩
  · exact .inr ⟨h0, by rw [hs.unique hr]; exact Int.le_refl _⟩
theorem BestIs.none (O : List Nat) (n : Nat) {P : Nat → Nat → Prop} (h : ∀ a b, ¬ P a b) : BestIs O n P 0 :=
  ⟨Int.le_refl _, fun h => absurd rfl h, fun a b _ hp => absurd hp (h a b), by omega⟩

/-! the rounds -/
/-- the sets of the points at a distance, and within it -/
structure Lvl (D : List Int) (k : Nat) (now seen : Nat) : Prop where
  now : ∀ v, now.testBit v = true ↔ at1 D v = (k : Int)
  seen : ∀ v, seen.testBit v = true ↔ 0 ≤ at1 D v ∧ at1 D v ≤ (k : Int)

/-- all points beside those of xs -/
def orAll (C : List Nat) (xs : List Nat) : Nat := xs.foldl (fun s x => s ||| C[x]?.getD 0) 0
theorem orAll_from (C xs : List Nat) : ∀ s v, (xs.foldl (fun s x => s ||| C[x]?.getD 0) s).testBit v = true ↔ s.testBit v = true ∨ ∃ x ∈ xs, adjS C x v := by
  induction xs with
  | nil => intro s v; simp
  | cons x xs ih =>
    intro s v
    rw [List.foldl_cons, ih, Nat.testBit_or, Bool.or_eq_true]
    simp only [List.mem_cons, adjS]
    constructor
    · rintro ((h | h) | ⟨y, h1, h2⟩)
      · exact .inl h
      · exact .inr ⟨x, .inl rfl, h⟩
      · exact .inr ⟨y, .inr h1, h2⟩
    · rintro (h | ⟨y, (rfl | h1), h2⟩)
      · exact .inl (.inl h)
      · exact .inl (.inr h2)
      · exact .inr ⟨y, h1, h2⟩
theorem orAll_bit (C xs : List Nat) (v : Nat) : (orAll C xs).testBit v = true ↔ ∃ x ∈ xs, adjS C x v := by
  unfold orAll; rw [orAll_from]; simp
theorem orAll_snoc (C xs : List Nat) (x : Nat) : orAll C (xs ++ [x]) = orAll C xs ||| C[x]?.getD 0 := by simp [orAll]
theorem orAll_small {C : List Nat} (h : Small C) (xs : List Nat) : orAll C xs < 256 := by
  have : ∀ s, s < 256 → xs.foldl (fun s x => s ||| C[x]?.getD 0) s < 256 := by
    induction xs with
    | nil => intro s hs; exact hs
    | cons x xs ih => intro s hs; exact ih _ (or_small hs (getD_small h _))
  exact this 0 (by decide)

theorem lvl_start {C : List Nat} {n a : Nat} {D : List Int} (h : IsDist C n a D) : Lvl D 0 (0 ||| 2 ^ a) (0 ||| 2 ^ a) := by
  have hb : ∀ v, (0 ||| 2 ^ a).testBit v = true ↔ v = a := fun i => by
    rw [Nat.zero_or, Nat.testBit_two_pow]; simp [eq_comm]
  refine ⟨fun v => ?_, fun v => ?_⟩
  · rw [hb]
    constructor
    · rintro rfl; exact h.src
    · intro hv; exact h.zero v hv
  · rw [hb]
    constructor
    · rintro rfl; rw [h.src]; exact ⟨Int.le_refl _, Int.le_refl _⟩
    · rintro ⟨h1, h2⟩; exact h.zero v (by omega)
theorem lvl_step {C : List Nat} {n a k now seen : Nat} {D : List Int} (hn : n ≤ 8) (h : IsDist C n a D) (l : Lvl D k now seen) :
    Lvl D (k + 1) (diff (orAll C ((elems now).map (·.val))) seen) (seen ||| diff (orAll C ((elems now).map (·.val))) seen) := by
  have hnow : ∀ v, (diff (orAll C ((elems now).map (·.val))) seen).testBit v = true ↔ at1 D v = ((k + 1 : Nat) : Int) := by
    intro v
    rw [diff_bit, Bool.and_eq_true, orAll_bit, Bool.not_eq_true']
    constructor
    · rintro ⟨⟨x, hx, hadj⟩, hns⟩
      obtain ⟨y, hy, rfl⟩ := List.mem_map.1 hx
      have hk := (l.now y.val).1 (mem_elems.1 hy)
      obtain ⟨h1, h2⟩ := h.edge y.val v hadj (by omega)
      have : ¬ (0 ≤ at1 D v ∧ at1 D v ≤ (k : Int)) := fun hc => by rw [(l.seen v).2 hc] at hns; cases hns
      omega
    · intro hv
      obtain ⟨j, hj, hjk⟩ := h.pre v (by omega)
      have hjl : j < 8 := by have := at1_in (d := D) (i := j) (by omega); rw [h.len] at this; omega
      refine ⟨⟨j, List.mem_map.2 ⟨⟨j, hjl⟩, mem_elems.2 ((l.now j).2 (by omega)), rfl⟩, hj⟩, ?_⟩
      cases hs : seen.testBit v with
      | false => rfl
      | true => have := (l.seen v).1 hs; omega
  refine ⟨hnow, fun v => ?_⟩
  rw [Nat.testBit_or, Bool.or_eq_true, hnow, l.seen]
  omega
theorem lvl_alive {C : List Nat} {n a k now seen : Nat} {D : List Int} (h : IsDist C n a D) (l : Lvl D k now seen) (hz : now ≠ 0) : k < n := by
  obtain ⟨v, hv⟩ := Nat.exists_testBit_of_ne_zero hz
  have := (l.now v).1 hv
  have := h.small v
  omega
/-- the rounds end: what is known of b -/
theorem lvl_end {C : List Nat} {n a b k now seen : Nat} {D : List Int} (h : IsDist C n a D) (l : Lvl D k now seen) (hnb : ¬ (0 ≤ at1 D b ∧ at1 D b < (k : Int))) (he : now = 0 ∨ now.testBit b = true) :
    (seen.testBit b = true ∧ at1 D b = (k : Int)) ∨ (seen.testBit b = false ∧ at1 D b = -1) := by
  have hlo := h.lo b
  by_cases hb : at1 D b = (k : Int)
  · exact .inl ⟨(l.seen b).2 (by omega), hb⟩
  · refine .inr ?_
    have hz : now = 0 := by
      rcases he with he | he
      · exact he
      · exact absurd ((l.now b).1 he) hb
    have hm : at1 D b = -1 := by
      by_cases hp : 0 ≤ at1 D b
      · exfalso
        obtain ⟨v, hv⟩ := dist_below h (at1 D b).toNat b (by omega) k (by omega)
        have := (l.now v).2 hv
        rw [hz] at this; simp at this
      · omega
    refine ⟨?_, hm⟩
    cases hs : seen.testBit b with
    | false => rfl
    | true => have := (l.seen b).1 hs; omega

end Go.Proofs.Ytmkdkjdbmnocoaa.Gr
