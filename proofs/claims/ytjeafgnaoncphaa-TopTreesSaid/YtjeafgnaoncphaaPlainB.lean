/- PlainB: what several texts say, in one: GraphP, EachP. Conditions: in each statement. -/
import Derived.Test.YtjeafgnaoncphaaMem

namespace Go.Proofs.Ytjeafgnaoncphaa.Gr

abbrev Ln := Int × Int

/-- what is wrong with one line -/
def lnErr (n : Int) (l : Ln) : Nat := if ¬ (0 ≤ l.1 ∧ l.1 ≤ n - 1 ∧ 0 ≤ l.2 ∧ l.2 ≤ n - 1) then 1 else if l.1 = l.2 then 3 else 0
def chkLines (n : Int) : List Ln → Nat
  | [] => 0
  | l :: r => if lnErr n l ≠ 0 then lnErr n l else chkLines n r
/-- what is wrong with points and lines: the error's number -/
def chk (n : Int) (ls : List Ln) : Nat := if ¬ (1 ≤ n ∧ n ≤ 8) then 1 else if 24 < ls.length then 4 else chkLines n ls

/-- the cells of lines -/
def cellsOf (ls : List Ln) : List Value := ls.flatMap fun l => [.int .i64 l.1, .int .i64 l.2]

theorem cellsOf_length (ls : List Ln) : (cellsOf ls).length = ls.length * 2 := by
  induction ls with
  | nil => rfl
  | cons l r ih => simp [cellsOf] at ih ⊢; omega

theorem cellsOf_get (ls : List Ln) (k : Nat) (h : k < ls.length) : (cellsOf ls)[2 * k]? = some (.int .i64 (ls[k]).1) ∧ (cellsOf ls)[2 * k + 1]? = some (.int .i64 (ls[k]).2) := by
  induction ls generalizing k with
  | nil => simp at h
  | cons l r ih =>
    cases k with
    | zero => simp [cellsOf]
    | succ k =>
      have e : cellsOf (l :: r) = .int .i64 l.1 :: .int .i64 l.2 :: cellsOf r := rfl
      have h' := ih k (by simpa using h)
      rw [e]
      have e1 : 2 * (k + 1) = (2 * k + 1) + 1 := by omega
      have e2 : 2 * (k + 1) + 1 = (2 * k + 1 + 1) + 1 := by omega
      rw [e2, e1]
      simpa using h'

theorem chkLines_eq (n : Int) (ls : List Ln) (k : Nat) (h : k < ls.length) (h0 : chkLines n (ls.take k) = 0) (he : lnErr n ls[k] ≠ 0) : chkLines n ls = lnErr n ls[k] := by
  induction ls generalizing k with
  | nil => simp at h
  | cons l r ih =>
    cases k with
    | zero => simp [chkLines] at he ⊢; intro e; exact absurd e he
    | succ k =>
      simp only [List.take_succ_cons, chkLines] at h0
      split at h0
      · rename_i hh; exact absurd h0 hh
      · rename_i hh
        simp only [chkLines, hh, if_false]
        exact ih k (by simpa using h) h0 (by simpa using he)

theorem chkLines_snoc (n : Int) (ls : List Ln) (k : Nat) (h : k < ls.length) (h0 : chkLines n (ls.take k) = 0) (he : lnErr n ls[k] = 0) : chkLines n (ls.take (k + 1)) = 0 := by
  induction ls generalizing k with
  | nil => simp at h
  | cons l r ih =>
    cases k with
    | zero => simp [chkLines] at he ⊢; intro _; exact he
    | succ k =>
      simp only [List.take_succ_cons, chkLines] at h0 ⊢
      split at h0
      · rename_i hh; exact absurd h0 hh
      · rename_i hh
        rw [if_neg hh]
        exact ih k (by simpa using h) h0 (by simpa using he)

theorem chkLines_ok {n : Int} {ls : List Ln} (h : chkLines n ls = 0) : ∀ l ∈ ls, 0 ≤ l.1 ∧ l.1 ≤ n - 1 ∧ 0 ≤ l.2 ∧ l.2 ≤ n - 1 ∧ l.1 ≠ l.2 := by
  induction ls with
  | nil => simp
  | cons a r ih =>
    simp only [chkLines] at h
    split at h
    · rename_i hh; exact absurd h hh
    · rename_i hh
      intro l hl
      rcases List.mem_cons.1 hl with rfl | hl
      · simp only [lnErr] at hh
        split at hh
        · simp at hh
        · split at hh
          · simp at hh
          · rename_i h1 h2
            have h1' := Decidable.not_not.1 h1
            exact ⟨h1'.1, h1'.2.1, h1'.2.2.1, h1'.2.2.2, h2⟩
      · exact ih h l hl

theorem chk_ok {n : Int} {ls : List Ln} (h : chk n ls = 0) : 1 ≤ n ∧ n ≤ 8 ∧ ls.length ≤ 24 ∧ ∀ l ∈ ls, 0 ≤ l.1 ∧ l.1 ≤ n - 1 ∧ 0 ≤ l.2 ∧ l.2 ≤ n - 1 ∧ l.1 ≠ l.2 := by
  unfold chk at h
  split at h
  · cases h
  · split at h
    · cases h
    · rename_i h1 h2
      have h1' := Decidable.not_not.1 h1
      exact ⟨h1'.1, h1'.2, by omega, chkLines_ok h⟩

/-- the points of s that are not in t -/
def diff (s t : Nat) : Nat := s ^^^ (s &&& t)
theorem diff_bit (s t i : Nat) : (diff s t).testBit i = (s.testBit i && !t.testBit i) := by
  unfold diff; rw [Nat.testBit_xor, Nat.testBit_and]; cases s.testBit i <;> cases t.testBit i <;> rfl


/-- one line more, in the sets of points to which lines go -/
def outStep (o : List Nat) (l : Ln) : List Nat := o.set l.1.toNat ((o[l.1.toNat]?.getD 0) ||| 2 ^ l.2.toNat)
def out (n : Nat) (ls : List Ln) : List Nat := ls.foldl outStep (List.replicate n 0)
def backStep (o : List Nat) (l : Ln) : List Nat := o.set l.2.toNat ((o[l.2.toNat]?.getD 0) ||| 2 ^ l.1.toNat)
/-- with which points each one has a line, as sets -/
def beside (n : Nat) (ls : List Ln) : List Nat := ls.foldl backStep (out n ls)

theorem outStep_length (o : List Nat) (l : Ln) : (outStep o l).length = o.length := by simp [outStep]
theorem backStep_length (o : List Nat) (l : Ln) : (backStep o l).length = o.length := by simp [backStep]
theorem foldl_outStep_length (ls : List Ln) (o : List Nat) : (ls.foldl outStep o).length = o.length := by
  induction ls generalizing o with
  | nil => rfl
  | cons l r ih => simp [ih, outStep_length]
theorem foldl_backStep_length (ls : List Ln) (o : List Nat) : (ls.foldl backStep o).length = o.length := by
  induction ls generalizing o with
  | nil => rfl
  | cons l r ih => simp [ih, backStep_length]
theorem out_length (n : Nat) (ls : List Ln) : (out n ls).length = n := by simp [out, foldl_outStep_length]
theorem beside_length (n : Nat) (ls : List Ln) : (beside n ls).length = n := by simp [beside, foldl_backStep_length, out_length]

/-- lines between the points below n -/
def GoodG (n : Nat) (ls : List Ln) : Prop := 1 ≤ n ∧ n ≤ 8 ∧ ls.length ≤ 24 ∧ ∀ l ∈ ls, 0 ≤ l.1 ∧ l.1 < n ∧ 0 ≤ l.2 ∧ l.2 < n ∧ l.1 ≠ l.2

theorem good_of {n : Int} {ls : List Ln} (h : chk n ls = 0) : ∃ k : Nat, n = (k : Int) ∧ GoodG k ls := by
  obtain ⟨h1, h2, h3, h4⟩ := chk_ok h
  refine ⟨n.toNat, by omega, by omega, by omega, h3, fun l hl => ?_⟩
  have := h4 l hl
  omega

/-- sets of small points -/
def Small (o : List Nat) : Prop := ∀ s ∈ o, s < 256

theorem pow_small {k : Nat} (h : k < 8) : 2 ^ k < 256 := by
  have : 2 ^ k ≤ 2 ^ 7 := Nat.pow_le_pow_right (by omega) (by omega)
  omega
theorem getD_small {o : List Nat} (h : Small o) (i : Nat) : o[i]?.getD 0 < 256 := by
  by_cases hi : i < o.length
  · rw [List.getElem?_eq_getElem hi]; exact h _ (List.getElem_mem hi)
  · rw [List.getElem?_eq_none (by omega)]; decide
theorem set_small {o : List Nat} (h : Small o) (i s : Nat) (hs : s < 256) : Small (o.set i s) := by
  intro x hx
  rcases List.mem_or_eq_of_mem_set hx with hx | hx
  · exact h x hx
  · subst hx; exact hs
theorem or_small {s t : Nat} (h1 : s < 256) (h2 : t < 256) : s ||| t < 256 := Nat.or_lt_two_pow (n := 8) h1 h2
theorem outStep_small {o : List Nat} {l : Ln} {n : Nat} (h : Small o) (hn : n ≤ 8) (h2 : 0 ≤ l.2 ∧ l.2 < n) : Small (outStep o l) :=
  set_small h _ _ (or_small (getD_small h _) (pow_small (by omega)))
theorem backStep_small {o : List Nat} {l : Ln} {n : Nat} (h : Small o) (hn : n ≤ 8) (h2 : 0 ≤ l.1 ∧ l.1 < n) : Small (backStep o l) :=
  set_small h _ _ (or_small (getD_small h _) (pow_small (by omega)))

/-- the cells of sets -/
def setsOf (o : List Nat) : List Value := o.map fun (s : Nat) => Value.int .u64 (s : Int)
theorem setsOf_get {o : List Nat} {k : Nat} (h : k < o.length) : (setsOf o)[k]? = some (.int .u64 ((o[k] : Nat) : Int)) := by simp [setsOf, h]
theorem setsOf_set (o : List Nat) (k s : Nat) : (setsOf o).set k (.int .u64 (s : Int)) = setsOf (o.set k s) := by simp [setsOf, List.map_set]
theorem setsOf_length (o : List Nat) : (setsOf o).length = o.length := by simp [setsOf]

end Go.Proofs.Ytjeafgnaoncphaa.Gr


namespace Go.Proofs.Ytjeafgnaoncphaa.Gr

abbrev Pt := Fin 8

/-- the points of s below k, rising -/
def upto (s k : Nat) : List Pt := (List.finRange 8).filter fun i => s.testBit i.val && decide (i.val < k)
/-- the points of s -/
def elems (s : Nat) : List Pt := (List.finRange 8).filter fun i => s.testBit i.val

theorem upto_zero (s : Nat) : upto s 0 = [] := by simp [upto]
theorem upto_all (s k : Nat) (h : ∀ i, k ≤ i → i < 8 → s.testBit i = false) : upto s k = elems s := by
  unfold upto elems
  apply List.filter_congr
  intro i _
  by_cases hi : i.val < k
  · simp [hi]
  · rw [h i.val (by omega) i.isLt]; simp

theorem upto_skip (s k : Nat) (h : s.testBit k = false) : upto s (k + 1) = upto s k := by
  unfold upto
  apply List.filter_congr
  intro i _
  by_cases hi : i.val = k
  · rw [hi, h]; simp
  · have : decide (i.val < k + 1) = decide (i.val < k) := by
      by_cases h1 : i.val < k
      · rw [decide_eq_true h1, decide_eq_true (by omega)]
      · rw [decide_eq_false h1, decide_eq_false (by omega)]
    rw [this]

theorem finRange_parts (k : Nat) (hk : k < 8) : ∃ A B : List Pt, List.finRange 8 = A ++ (⟨k, hk⟩ :: B) ∧ (∀ a ∈ A, a.val < k) ∧ (∀ b ∈ B, k < b.val) := by
  refine ⟨(List.finRange 8).take k, (List.finRange 8).drop (k + 1), ?_, ?_, ?_⟩
  · have hl : k < (List.finRange 8).length := by simp; exact hk
    have h1 := List.take_append_drop k (List.finRange 8)
    rw [List.drop_eq_getElem_cons hl] at h1
    have e : (List.finRange 8)[k] = ⟨k, hk⟩ := by simp
    rw [e] at h1
    exact h1.symm
  · intro a ha
    obtain ⟨i, hi, rfl⟩ := List.mem_iff_getElem.1 ha
    simp at hi ⊢; omega
  · intro b hb
    obtain ⟨i, hi, rfl⟩ := List.mem_iff_getElem.1 hb
    simp at hi ⊢; omega

theorem filter_none {α : Type} {l : List α} {q : α → Bool} (h : ∀ a ∈ l, q a = false) : l.filter q = [] := by
  rw [List.filter_eq_nil_iff]; intro a ha; rw [h a ha]; simp

theorem finRange_split (k : Nat) (hk : k < 8) (p : Pt → Bool) : (List.finRange 8).filter (fun i => p i && decide (i.val < k + 1)) = (List.finRange 8).filter (fun i => p i && decide (i.val < k)) ++ (if p ⟨k, hk⟩ then [⟨k, hk⟩] else []) := by
  obtain ⟨A, B, e, hA, hB⟩ := finRange_parts k hk
  rw [e, List.filter_append, List.filter_append, List.filter_cons, List.filter_cons]
  have e1 : A.filter (fun i => p i && decide (i.val < k + 1)) = A.filter (fun i => p i && decide (i.val < k)) := List.filter_congr fun i hi => by
    have := hA i hi; rw [decide_eq_true this, decide_eq_true (by omega)]
  have e2 : B.filter (fun i => p i && decide (i.val < k + 1)) = [] := filter_none fun i hi => by
    have := hB i hi; rw [decide_eq_false (by omega)]; simp
  have e3 : B.filter (fun i => p i && decide (i.val < k)) = [] := filter_none fun i hi => by
    have := hB i hi; rw [decide_eq_false (by omega)]; simp
  rw [e1, e2, e3]
  cases p ⟨k, hk⟩ <;> simp

theorem upto_take (s k : Nat) (hk : k < 8) (h : s.testBit k = true) : upto s (k + 1) = upto s k ++ [⟨k, hk⟩] := by
  unfold upto
  rw [finRange_split k hk (fun i => s.testBit i.val)]
  simp [h]

theorem high_zero {s k : Nat} (h : s / 2 ^ k = 0) : ∀ i, k ≤ i → s.testBit i = false := by
  intro i hi
  have hp : 0 < 2 ^ k := Nat.two_pow_pos k
  have hlt : s < 2 ^ k := by
    rcases Nat.lt_or_ge s (2 ^ k) with h1 | h1
    · exact h1
    · have := Nat.div_pos h1 hp; omega
  exact Nat.testBit_lt_two_pow (Nat.lt_of_lt_of_le hlt (Nat.pow_le_pow_right (by omega) hi))

theorem upto_prefix (s k : Nat) : ∃ r, elems s = upto s k ++ r := by
  by_cases hk : k ≤ 8
  · have h8 : upto s 8 = elems s := upto_all s 8 (fun i h1 h2 => by omega)
    have : ∀ j, k ≤ j → j ≤ 8 → ∃ r, upto s j = upto s k ++ r := by
      intro j
      induction j with
      | zero => intro h _; have : k = 0 := by omega
                subst this; exact ⟨[], by simp⟩
      | succ j ih =>
        intro h1 h2
        by_cases e : k = j + 1
        · subst e; exact ⟨[], by simp⟩
        · obtain ⟨r, hr⟩ := ih (by omega) (by omega)
          have hj : j < 8 := by omega
          cases hb : s.testBit j with
          | false => exact ⟨r, by rw [upto_skip s j hb, hr]⟩
          | true => exact ⟨r ++ [⟨j, hj⟩], by rw [upto_take s j hj hb, hr, List.append_assoc]⟩
    obtain ⟨r, hr⟩ := this 8 hk (Nat.le_refl _)
    exact ⟨r, by rw [← h8, hr]⟩
  · exact ⟨[], by rw [upto_all s k (fun i h1 h2 => by omega), List.append_nil]⟩

theorem upto_length (s k : Nat) : (upto s k).length ≤ 8 := by
  unfold upto
  refine Nat.le_trans (List.length_filter_le _ _) ?_
  simp

theorem upto_le (s k : Nat) (hk : k ≤ 8) : (upto s k).length ≤ k := by
  induction k with
  | zero => rw [upto_zero]; simp
  | succ k ih =>
    have := ih (by omega)
    have hk8 : k < 8 := by omega
    cases hb : s.testBit k with
    | false => rw [upto_skip s k hb]; omega
    | true => rw [upto_take s k hk8 hb, List.length_append, List.length_singleton]; omega

theorem mem_elems {s : Nat} {i : Pt} : i ∈ elems s ↔ s.testBit i.val = true := by simp [elems]

end Go.Proofs.Ytjeafgnaoncphaa.Gr
