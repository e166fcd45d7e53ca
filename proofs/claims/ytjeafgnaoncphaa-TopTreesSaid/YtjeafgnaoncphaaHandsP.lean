/- Degrees of a plain graph: hands are shaken by two; of two points or more two have as many. Conditions: in each statement. -/
namespace Go.Proofs.Ytjeafgnaoncphaa.Gr
/-- with how many of the points below n a has a line -/
def dg (r : Nat → Nat → Bool) (n a : Nat) : Nat := ((List.range n).filter fun b => r a b).length
theorem dg_zero (r : Nat → Nat → Bool) (a : Nat) : dg r 0 a = 0 := rfl
theorem dg_succ (r : Nat → Nat → Bool) (n a : Nat) : dg r (n + 1) a = dg r n a + (if r a n then 1 else 0) := by
  unfold dg
  rw [List.range_succ, List.filter_append, List.length_append]
  cases h : r a n <;> simp [h]
theorem sum_add (f g : Nat → Nat) (l : List Nat) : (l.map fun i => f i + g i).sum = (l.map f).sum + (l.map g).sum := by
  induction l with
  | nil => rfl
  | cons a l ih => simp only [List.map_cons, List.sum_cons, ih]; omega
theorem sum_range_succ (f : Nat → Nat) (n : Nat) : ((List.range (n + 1)).map f).sum = ((List.range n).map f).sum + f n := by
  rw [List.range_succ, List.map_append, List.sum_append]; simp
theorem dg_sum (r : Nat → Nat → Bool) (n a : Nat) : dg r n a = ((List.range n).map fun b => if r a b then 1 else 0).sum := by
  induction n with
  | zero => rfl
  | succ n ih => rw [dg_succ, sum_range_succ, ih]
/-- pairs below n that have a line -/
def pairsD (r : Nat → Nat → Bool) (n : Nat) : Nat := ((List.range n).map fun a => dg r a a).sum
theorem pairsD_succ (r : Nat → Nat → Bool) (n : Nat) : pairsD r (n + 1) = pairsD r n + dg r n n := sum_range_succ _ n
theorem hands {r : Nat → Nat → Bool} (hs : ∀ a b, r a b = r b a) (hi : ∀ a, r a a = false) (n : Nat) : ((List.range n).map (dg r n)).sum = 2 * pairsD r n := by
  induction n with
  | zero => rfl
  | succ n ih =>
    rw [sum_range_succ, pairsD_succ, dg_succ, hi n]
    have e : (List.range n).map (dg r (n + 1)) = (List.range n).map fun a => dg r n a + (if r a n then 1 else 0) := List.map_congr_left fun a _ => dg_succ r n a
    have e2 : ((List.range n).map fun a => if r a n then 1 else 0).sum = dg r n n := by
      rw [dg_sum]
      congr 1
      exact List.map_congr_left fun a _ => by rw [hs a n]
    rw [e, sum_add, e2, ih]
    simp
    omega
theorem pairsD_le (r : Nat → Nat → Bool) (n : Nat) (h : n ≤ 8) : pairsD r n ≤ 64 := by
  have h1 : ∀ m, pairsD r m ≤ m * m := by
    intro m
    induction m with
    | zero => exact Nat.le_refl _
    | succ m ih =>
      rw [pairsD_succ]
      have : dg r m m ≤ m := by unfold dg; refine Nat.le_trans (List.length_filter_le _ _) ?_; simp
      have e : (m + 1) * (m + 1) = m * m + (2 * m + 1) := by rw [Nat.add_mul, Nat.mul_add]; omega
      omega
  have h2 := h1 n
  have : n * n ≤ 8 * 8 := Nat.mul_le_mul h h
  omega
theorem dg_le (r : Nat → Nat → Bool) (n a : Nat) : dg r n a ≤ n := by unfold dg; refine Nat.le_trans (List.length_filter_le _ _) ?_; simp

/-- a list without twins of numbers below k is no longer than k -/
theorem few {l : List Nat} {k : Nat} (hn : l.Nodup) (h : ∀ x ∈ l, x < k) : l.length ≤ k := by
  have := hn.length_le_of_subset (l₂ := List.range k) fun x hx => List.mem_range.2 (h x hx)
  simpa using this
theorem dg_lt {r : Nat → Nat → Bool} (hi : ∀ a, r a a = false) {n a : Nat} (ha : a < n) : dg r n a + 1 ≤ n := by
  have hn : (a :: (List.range n).filter fun b => r a b).Nodup := by
    refine List.nodup_cons.2 ⟨fun h => ?_, List.Pairwise.filter _ List.nodup_range⟩
    have := (List.mem_filter.1 h).2
    rw [hi a] at this; cases this
  have := few hn (k := n) fun x hx => by
    rcases List.mem_cons.1 hx with rfl | h
    · exact ha
    · exact List.mem_range.1 (List.mem_filter.1 h).1
  simpa [dg] using this
theorem dg_full {r : Nat → Nat → Bool} (hi : ∀ a, r a a = false) {n a b : Nat} (ha : a < n) (hb : b < n) (hab : a ≠ b) (h : dg r n a + 1 = n) : r a b = true := by
  cases hr : r a b with
  | true => rfl
  | false =>
    exfalso
    have hn : (a :: b :: (List.range n).filter fun b => r a b).Nodup := by
      refine List.nodup_cons.2 ⟨fun h => ?_, List.nodup_cons.2 ⟨fun h => ?_, List.Pairwise.filter _ List.nodup_range⟩⟩
      · rcases List.mem_cons.1 h with e | h
        · exact hab e
        · have := (List.mem_filter.1 h).2
          rw [hi a] at this; cases this
      · have := (List.mem_filter.1 h).2
        rw [hr] at this; cases this
    have := few hn (k := n) fun x hx => by
      rcases List.mem_cons.1 hx with rfl | h
      · exact ha
      · rcases List.mem_cons.1 h with rfl | h
        · exact hb
        · exact List.mem_range.1 (List.mem_filter.1 h).1
    simp [dg] at this h
    omega
/-- of two points or more two have as many -/
theorem same_deg {r : Nat → Nat → Bool} (hs : ∀ a b, r a b = r b a) (hi : ∀ a, r a a = false) {n : Nat} (h2 : 2 ≤ n) : ¬ ((List.range n).map (dg r n)).Nodup := by
  intro hn
  have hlen : ((List.range n).map (dg r n)).length = n := by simp
  have hlt : ∀ x ∈ (List.range n).map (dg r n), x + 1 ≤ n := fun x hx => by
    obtain ⟨a, ha, rfl⟩ := List.mem_map.1 hx
    exact dg_lt hi (List.mem_range.1 ha)
  have h0 : 0 ∈ (List.range n).map (dg r n) := by
    refine Classical.byContradiction fun h => ?_
    have hm : (((List.range n).map (dg r n)).map (· - 1)).Nodup := by
      refine List.pairwise_map.2 (hn.imp_of_mem fun {x y} hx hy hxy e => ?_)
      have : x ≠ 0 := fun e => h (e ▸ hx)
      have : y ≠ 0 := fun e => h (e ▸ hy)
      omega
    have := few hm (k := n - 1) fun x hx => by
      obtain ⟨y, hy, rfl⟩ := List.mem_map.1 hx
      have := hlt y hy
      have : y ≠ 0 := fun e => h (e ▸ hy)
      omega
    rw [List.length_map, hlen] at this
    omega
  have h1 : n - 1 ∈ (List.range n).map (dg r n) := by
    refine Classical.byContradiction fun h => ?_
    have := few hn (k := n - 1) fun x hx => by
      have := hlt x hx
      have : x ≠ n - 1 := fun e => h (e ▸ hx)
      omega
    rw [hlen] at this
    omega
  obtain ⟨a, ha, ea⟩ := List.mem_map.1 h0
  obtain ⟨b, hb, eb⟩ := List.mem_map.1 h1
  have ha := List.mem_range.1 ha
  have hb := List.mem_range.1 hb
  have hab : b ≠ a := fun e => by subst e; omega
  have hr := dg_full hi hb ha hab (by omega)
  rw [hs] at hr
  have : b ∈ (List.range n).filter fun b => r a b := List.mem_filter.2 ⟨List.mem_range.2 hb, hr⟩
  unfold dg at ea
  rw [List.eq_nil_of_length_eq_zero ea] at this
  simp at this
end Go.Proofs.Ytjeafgnaoncphaa.Gr
