/- The points of a set, rising. Conditions: none. -/
import Derived.Test.YtmkdkjdbmnocoaaGraphP
namespace Go.Proofs.Ytmkdkjdbmnocoaa.Gr

abbrev Pt := Fin 8

/-- the points of s below k, rising -/
def upto (s k : Nat) : List Pt := (List.finRange 8).filter fun i => s.testBit i.val && decide (i.val < k)
/-- the points of s -/
def elems (s : Nat) : List Pt := (List.finRange 8).filter fun i => s.testBit i.val

theorem upto_zero (s : Nat) : upto s 0 = [] := by simp [upto]
theorem upto_all (s k : Nat) (h : ∀ i, k ≤ i → i < 8 → s.testBit i = false) : upto s k = elems s := by
  unfold upto elems
  apply List.filter_congr
  intro i _
  by_cases hi : i.val < k
  · simp [hi]
  · rw [h i.val (by omega) i.isLt]; simp

theorem upto_skip (s k : Nat) (h : s.testBit k = false) : upto s (k + 1) = upto s k := by
  unfold upto
  apply List.filter_congr
  intro i _
  by_cases hi : i.val = k
  · rw [hi, h]; simp
  · have : decide (i.val < k + 1) = decide (i.val < k) := by
      by_cases h1 : i.val < k
      · rw [decide_eq_true h1, decide_eq_true (by omega)]
      · rw [decide_eq_false h1, decide_eq_false (by omega)]
    rw [this]

theorem finRange_parts (k : Nat) (hk : k < 8) : ∃ A B : List Pt, List.finRange 8 = A ++ (⟨k, hk⟩ :: B) ∧ (∀ a ∈ A, a.val < k) ∧ (∀ b ∈ B, k < b.val) := by
  refine ⟨(List.finRange 8).take k, (List.finRange 8).drop (k + 1), ?_, ?_, ?_⟩
  · have hl : k < (List.finRange 8).length := by simp; exact hk
    have h1 := List.take_append_drop k (List.finRange 8)
    rw [List.drop_eq_getElem_cons hl] at h1
    have e : (List.finRange 8)[k] = ⟨k, hk⟩ := by simp
    rw [e] at h1
    exact h1.symm
  · intro a ha
    obtain ⟨i, hi, rfl⟩ := List.mem_iff_getElem.1 ha
    simp at hi ⊢; omega
  · intro b hb
    obtain ⟨i, hi, rfl⟩ := List.mem_iff_getElem.1 hb
    simp at hi ⊢; omega

theorem filter_none {α : Type} {l : List α} {q : α → Bool} (h : ∀ a ∈ l, q a = false) : l.filter q = [] := by
  rw [List.filter_eq_nil_iff]; intro a ha; rw [h a ha]; simp

theorem finRange_split (k : Nat) (hk : k < 8) (p : Pt → Bool) : (List.finRange 8).filter (fun i => p i && decide (i.val < k + 1)) = (List.finRange 8).filter (fun i => p i && decide (i.val < k)) ++ (if p ⟨k, hk⟩ then [⟨k, hk⟩] else []) := by
  obtain ⟨A, B, e, hA, hB⟩ := finRange_parts k hk
  rw [e, List.filter_append, List.filter_append, List.filter_cons, List.filter_cons]
  have e1 : A.filter (fun i => p i && decide (i.val < k + 1)) = A.filter (fun i => p i && decide (i.val < k)) := List.filter_congr fun i hi => by
    have := hA i hi; rw [decide_eq_true this, decide_eq_true (by omega)]
  have e2 : B.filter (fun i => p i && decide (i.val < k + 1)) = [] := filter_none fun i hi => by
    have := hB i hi; rw [decide_eq_false (by omega)]; simp
  have e3 : B.filter (fun i => p i && decide (i.val < k)) = [] := filter_none fun i hi => by
    have := hB i hi; rw [decide_eq_false (by omega)]; simp
  rw [e1, e2, e3]
  cases p ⟨k, hk⟩ <;> simp

theorem upto_take (s k : Nat) (hk : k < 8) (h : s.testBit k = true) : upto s (k + 1) = upto s k ++ [⟨k, hk⟩] := by
  unfold upto
  rw [finRange_split k hk (fun i => s.testBit i.val)]
  simp [h]

theorem high_zero {s k : Nat} (h : s / 2 ^ k = 0) : ∀ i, k ≤ i → s.testBit i = false := by
  intro i hi
  have hp : 0 < 2 ^ k := Nat.two_pow_pos k
  have hlt : s < 2 ^ k := by
    rcases Nat.lt_or_ge s (2 ^ k) with h1 | h1
    · exact h1
    · have := Nat.div_pos h1 hp; omega
  exact Nat.testBit_lt_two_pow (Nat.lt_of_lt_of_le hlt (Nat.pow_le_pow_right (by omega) hi))

theorem upto_prefix (s k : Nat) : ∃ r, elems s = upto s k ++ r := by
  by_cases hk : k ≤ 8
  · have h8 : upto s 8 = elems s := upto_all s 8 (fun i h1 h2 => by omega)
    have : ∀ j, k ≤ j → j ≤ 8 → ∃ r, upto s j = upto s k ++ r := by
      intro j
      induction j with
      | zero => intro h _; have : k = 0 := by omega
                subst this; exact ⟨[], by simp⟩
      | succ j ih =>
        intro h1 h2
        by_cases e : k = j + 1
        · subst e; exact ⟨[], by simp⟩
        · obtain ⟨r, hr⟩ := ih (by omega) (by omega)
          have hj : j < 8 := by omega
          cases hb : s.testBit j with
          | false => exact ⟨r, by rw [upto_skip s j hb, hr]⟩
          | true => exact ⟨r ++ [⟨j, hj⟩], by rw [upto_take s j hj hb, hr, List.append_assoc]⟩
    obtain ⟨r, hr⟩ := this 8 hk (Nat.le_refl _)
    exact ⟨r, by rw [← h8, hr]⟩
  · exact ⟨[], by rw [upto_all s k (fun i h1 h2 => by omega), List.append_nil]⟩

theorem upto_length (s k : Nat) : (upto s k).length ≤ 8 := by
  unfold upto
  refine Nat.le_trans (List.length_filter_le _ _) ?_
  simp

theorem upto_le (s k : Nat) (hk : k ≤ 8) : (upto s k).length ≤ k := by
  induction k with
  | zero => rw [upto_zero]; simp
  | succ k ih =>
    have := ih (by omega)
    have hk8 : k < 8 := by omega
    cases hb : s.testBit k with
    | false => rw [upto_skip s k hb]; omega
    | true => rw [upto_take s k hk8 hb, List.length_append, List.length_singleton]; omega

theorem mem_elems {s : Nat} {i : Pt} : i ∈ elems s ↔ s.testBit i.val = true := by simp [elems]

end Go.Proofs.Ytmkdkjdbmnocoaa.Gr
