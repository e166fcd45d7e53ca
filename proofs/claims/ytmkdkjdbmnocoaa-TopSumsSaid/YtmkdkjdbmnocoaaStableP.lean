/- Insertion is stable: of numbers that rise it leaves equals as they stood. Conditions: in each statement. -/
import Derived.Sort.LotA
import Derived.Shelf.SlSortCmp.NoneTotal
namespace Go.Proofs.Ytmkdkjdbmnocoaa
open Go.Sort

section
variable {m : Nat}
/-- less, or alike and the lesser number -/
def ltT (lt : Fin (m + 1) → Fin (m + 1) → Bool) (x y : Fin (m + 1)) : Bool := lt x y || (!lt y x && decide (x < y))
variable (lt : Fin (m + 1) → Fin (m + 1) → Bool)

theorem ins_same (a : Nat) : ∀ (j : Nat) (d : Array (Fin (m + 1))), j < d.size → (∀ i, i < j → d[i]! < d[j]!) → insInner lt a j d = insInner (ltT lt) a j d := by
  intro j
  induction j with
  | zero => intro d _ _; rfl
  | succ j ih =>
    intro d hj h
    have h0 := h j (Nat.lt_succ_self j)
    have e : ltT lt d[j + 1]! d[j]! = lt d[j + 1]! d[j]! := by
      unfold ltT
      rw [decide_eq_false (by omega)]
      simp
    unfold insInner
    rw [e]
    split
    · refine ih _ (by rw [size_swp]; omega) fun i hi => ?_
      rw [swp_get d (by omega) (by omega), swp_get d (by omega) (by omega)]
      rw [if_neg (by omega), if_neg (by omega), if_pos rfl]
      exact h i (by omega)
    · rfl
theorem ins_mem (a : Nat) : ∀ (j : Nat) (d : Array (Fin (m + 1))), j < d.size → (insInner lt a j d).size = d.size ∧ (∀ p, p ≤ j → ∃ q, q ≤ j ∧ (insInner lt a j d)[p]! = d[q]!) ∧ ∀ q, j < q → (insInner lt a j d)[q]! = d[q]! := by
  intro j
  induction j with
  | zero => intro d _; exact ⟨rfl, fun p hp => ⟨p, hp, rfl⟩, fun _ _ => rfl⟩
  | succ j ih =>
    intro d hj
    unfold insInner
    split
    · obtain ⟨h1, h2, h3⟩ := ih (swp d (j + 1) j) (by rw [size_swp]; omega)
      have hg : ∀ t, (swp d (j + 1) j)[t]! = if t = j then d[j + 1]! else if t = j + 1 then d[j]! else d[t]! := fun t => by
        rw [swp_get d (by omega) (by omega)]
      refine ⟨by rw [h1, size_swp], fun p hp => ?_, fun q hq => ?_⟩
      · by_cases e : p = j + 1
        · subst e
          rw [h3 (j + 1) (by omega), hg, if_neg (by omega), if_pos rfl]
          exact ⟨j, by omega, rfl⟩
        · obtain ⟨q, hq, e2⟩ := h2 p (by omega)
          rw [e2, hg]
          by_cases e3 : q = j
          · rw [if_pos e3]; exact ⟨j + 1, by omega, rfl⟩
          · rw [if_neg e3, if_neg (by omega)]; exact ⟨q, by omega, rfl⟩
      · rw [h3 q (by omega), hg, if_neg (by omega), if_neg (by omega)]
    · exact ⟨rfl, fun p hp => ⟨p, hp, rfl⟩, fun _ _ => rfl⟩
theorem out_same : ∀ (k b i : Nat) (d : Array (Fin (m + 1))), b - i ≤ k → b ≤ d.size → (∀ p q, p < q → i ≤ q → q < d.size → d[p]! < d[q]!) → insOuter lt 0 b i d = insOuter (ltT lt) 0 b i d := by
  intro k
  induction k with
  | zero =>
    intro b i d hk _ _
    unfold insOuter
    rw [if_neg (by omega), if_neg (by omega)]
  | succ k ih =>
    intro b i d hk hb h
    by_cases hi : i < b
    · unfold insOuter
      rw [if_pos hi, if_pos hi, ins_same lt 0 i d (by omega) (fun p hp => h p i hp (Nat.le_refl _) (by omega))]
      obtain ⟨h1, h2, h3⟩ := ins_mem (ltT lt) 0 i d (by omega)
      refine ih b (i + 1) _ (by omega) (by rw [h1]; exact hb) fun p q hpq hq hqs => ?_
      rw [h1] at hqs
      rw [h3 q (by omega)]
      by_cases hp : p ≤ i
      · obtain ⟨p', hp', e⟩ := h2 p hp
        rw [e]
        exact h p' q (by omega) (by omega) hqs
      · rw [h3 p (by omega)]
        exact h p q hpq (by omega) hqs
    · unfold insOuter
      rw [if_neg hi, if_neg hi]

theorem sort_stable (hS : SWO lt) (d : Array (Fin (m + 1))) (h : ∀ p q, p < q → q < d.size → d[p]! < d[q]!) :
    (insertionSort lt d 0 d.size).toList = d.toList.mergeSort fun x y => !(ltT lt) y x := by
  have e : insertionSort lt d 0 d.size = insertionSort (ltT lt) d 0 d.size := by
    unfold insertionSort
    exact out_same lt d.size d.size (0 + 1) d (by omega) (Nat.le_refl _) fun p q hpq _ hq => h p q hpq hq
  rw [e]
  have hT : ∀ x y, ltT lt x y = true ↔ lt x y = true ∨ (lt y x = false ∧ x < y) := fun x y => by unfold ltT; simp
  have hF : ∀ x y, ltT lt x y = false ↔ lt x y = false ∧ (lt y x = true ∨ ¬ x < y) := fun x y => by
    unfold ltT
    cases lt x y <;> cases lt y x <;> simp
  have hSW : SWO (ltT lt) := by
    refine ⟨fun x => by rw [hF]; exact ⟨hS.irrefl x, .inr (by omega)⟩, fun x y z h1 h2 => ?_, fun x y z h1 h2 => ?_⟩
    · rw [hT] at *
      rcases h1 with h1 | ⟨h1, h1'⟩
      · rcases h2 with h2 | ⟨h2, h2'⟩
        · exact .inl (hS.trans _ _ _ h1 h2)
        · left
          cases hxz : lt x z with
          | true => rfl
          | false => have := hS.ntrans x z y hxz h2; rw [h1] at this; cases this
      · rcases h2 with h2 | ⟨h2, h2'⟩
        · left
          cases hxz : lt x z with
          | true => rfl
          | false => have := hS.ntrans y x z h1 hxz; rw [h2] at this; cases this
        · right
          exact ⟨hS.ntrans _ _ _ h2 h1, by omega⟩
    · rw [hF] at *
      obtain ⟨h1, h1'⟩ := h1
      obtain ⟨h2, h2'⟩ := h2
      refine ⟨hS.ntrans _ _ _ h1 h2, ?_⟩
      rcases h1' with h1' | h1'
      · left
        cases hzx : lt z x with
        | true => rfl
        | false => have := hS.ntrans y z x h2 hzx; rw [h1'] at this; cases this
      · rcases h2' with h2' | h2'
        · left
          cases hzx : lt z x with
          | true => rfl
          | false => have := hS.ntrans z x y hzx h1; rw [h2'] at this; cases this
        · right; omega
  obtain ⟨hp, hs⟩ := insertionSort_holds (lt := ltT lt) hSW d 0 d.size (Nat.zero_le _) (Nat.le_refl _)
  exact sorted_unique_holds hSW (fun x y h1 h2 => by
    rw [hF] at h1 h2
    obtain ⟨a1, a2⟩ := h1
    obtain ⟨b1, b2⟩ := h2
    rw [a1] at b2
    rw [b1] at a2
    rcases a2 with a2 | a2
    · cases a2
    · rcases b2 with b2 | b2
      · cases b2
      · omega) d _ hp hs
end
end Go.Proofs.Ytmkdkjdbmnocoaa
