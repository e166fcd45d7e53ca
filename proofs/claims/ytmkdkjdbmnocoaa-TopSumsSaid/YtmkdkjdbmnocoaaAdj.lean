/- Who is beside whom: the sets of points say just what the lines say. Conditions: in each statement. -/
import Derived.Test.YtmkdkjdbmnocoaaWalkP
namespace Go.Proofs.Ytmkdkjdbmnocoaa.Gr

theorem outStep_adj {o : List Nat} {l : Ln} {i j : Nat} (h : l.1.toNat < o.length) : adjS (outStep o l) i j ↔ adjS o i j ∨ (l.1.toNat = i ∧ l.2.toNat = j) := by
  unfold adjS outStep
  rw [List.getElem?_set]
  by_cases e : l.1.toNat = i
  · subst e
    rw [if_pos rfl, if_pos h]
    simp [Nat.testBit_or, Nat.testBit_two_pow]
  · rw [if_neg e]; simp [e]
theorem backStep_adj {o : List Nat} {l : Ln} {i j : Nat} (h : l.2.toNat < o.length) : adjS (backStep o l) i j ↔ adjS o i j ∨ (l.2.toNat = i ∧ l.1.toNat = j) := by
  unfold adjS backStep
  rw [List.getElem?_set]
  by_cases e : l.2.toNat = i
  · subst e
    rw [if_pos rfl, if_pos h]
    simp [Nat.testBit_or, Nat.testBit_two_pow]
  · rw [if_neg e]; simp [e]

theorem fold_out_adj {i j : Nat} (ls : List Ln) : ∀ (o : List Nat), (∀ l ∈ ls, l.1.toNat < o.length) → (adjS (ls.foldl outStep o) i j ↔ adjS o i j ∨ ∃ l ∈ ls, l.1.toNat = i ∧ l.2.toNat = j) := by
  induction ls with
  | nil => intro o _; simp
  | cons l r ih =>
    intro o h
    rw [List.foldl_cons, ih _ (fun x hx => by rw [outStep_length]; exact h x (List.mem_cons_of_mem _ hx)), outStep_adj (h l List.mem_cons_self)]
    simp [or_assoc]
theorem fold_back_adj {i j : Nat} (ls : List Ln) : ∀ (o : List Nat), (∀ l ∈ ls, l.2.toNat < o.length) → (adjS (ls.foldl backStep o) i j ↔ adjS o i j ∨ ∃ l ∈ ls, l.2.toNat = i ∧ l.1.toNat = j) := by
  induction ls with
  | nil => intro o _; simp
  | cons l r ih =>
    intro o h
    rw [List.foldl_cons, ih _ (fun x hx => by rw [backStep_length]; exact h x (List.mem_cons_of_mem _ hx)), backStep_adj (h l List.mem_cons_self)]
    simp [or_assoc]

/-- a line from a to b -/
def goes (ls : List Ln) (a b : Int) : Bool := ls.any fun l => l.1 == a && l.2 == b
/-- a line between a and b -/
def near (ls : List Ln) (a b : Int) : Bool := goes ls a b || goes ls b a

theorem goes_iff {ls : List Ln} {a b : Int} : goes ls a b = true ↔ ∃ l ∈ ls, l.1 = a ∧ l.2 = b := by simp [goes]
theorem near_iff {ls : List Ln} {a b : Int} : near ls a b = true ↔ ∃ l ∈ ls, (l.1 = a ∧ l.2 = b) ∨ (l.1 = b ∧ l.2 = a) := by
  unfold near
  rw [Bool.or_eq_true, goes_iff, goes_iff]
  constructor
  · rintro (⟨l, h1, h2⟩ | ⟨l, h1, h2⟩)
    · exact ⟨l, h1, .inl h2⟩
    · exact ⟨l, h1, .inr h2⟩
  · rintro ⟨l, h1, (h2 | h2)⟩
    · exact .inl ⟨l, h1, h2⟩
    · exact .inr ⟨l, h1, h2⟩
theorem near_symm (ls : List Ln) (a b : Int) : near ls a b = near ls b a := by unfold near; rw [Bool.or_comm]

theorem adj_near {n : Nat} {ls : List Ln} (hg : GoodG n ls) (i j : Nat) : adjS (beside n ls) i j ↔ near ls i j = true := by
  obtain ⟨_, _, _, h⟩ := hg
  have e0 : ¬ adjS (List.replicate n 0) i j := by
    unfold adjS; rw [List.getElem?_replicate]; split <;> simp
  unfold beside out
  rw [fold_back_adj _ _ (fun l hl => by rw [foldl_outStep_length, List.length_replicate]; have := h l hl; omega), fold_out_adj _ _ (fun l hl => by rw [List.length_replicate]; have := h l hl; omega), near_iff]
  constructor
  · rintro ((h1 | ⟨l, h1, h2, h3⟩) | ⟨l, h1, h2, h3⟩)
    · exact absurd h1 e0
    · exact ⟨l, h1, .inl (by have := h l h1; omega)⟩
    · exact ⟨l, h1, .inr (by have := h l h1; omega)⟩
  · rintro ⟨l, h1, (h2 | h2)⟩
    · exact .inl (.inr ⟨l, h1, by omega⟩)
    · exact .inr ⟨l, h1, by omega⟩

theorem near_in {n : Nat} {ls : List Ln} (hg : GoodG n ls) {a b : Int} (h : near ls a b = true) : 0 ≤ a ∧ a < n ∧ 0 ≤ b ∧ b < n ∧ a ≠ b := by
  obtain ⟨l, h1, h2⟩ := near_iff.1 h
  have := hg.2.2.2 l h1
  rcases h2 with ⟨rfl, rfl⟩ | ⟨rfl, rfl⟩ <;> omega

theorem adj_symm {n : Nat} {ls : List Ln} (hg : GoodG n ls) {i j : Nat} (h : adjS (beside n ls) i j) : adjS (beside n ls) j i := by
  rw [adj_near hg] at h ⊢; rw [near_symm]; exact h
theorem adj_bounded {n : Nat} {ls : List Ln} (hg : GoodG n ls) : Bounded n (beside n ls) := by
  intro i j h
  have := near_in hg ((adj_near hg i j).1 h)
  omega
theorem adj_ne {n : Nat} {ls : List Ln} (hg : GoodG n ls) {i j : Nat} (h : adjS (beside n ls) i j) : i ≠ j := by
  have := near_in hg ((adj_near hg i j).1 h)
  omega

/-- the same who are beside each other: the same sets -/
theorem beside_congr {n : Nat} {ls ms : List Ln} (h1 : GoodG n ls) (h2 : GoodG n ms) (h : ∀ i j : Nat, near ls i j = near ms i j) : beside n ls = beside n ms := by
  refine List.ext_getElem? fun i => ?_
  rcases Nat.lt_or_ge i n with hi | hi
  · have l1 : i < (beside n ls).length := by rw [beside_length]; exact hi
    have l2 : i < (beside n ms).length := by rw [beside_length]; exact hi
    rw [List.getElem?_eq_getElem l1, List.getElem?_eq_getElem l2]
    congr 1
    apply Nat.eq_of_testBit_eq
    intro j
    have e1 := adj_near h1 i j
    have e2 := adj_near h2 i j
    unfold adjS at e1 e2
    rw [List.getElem?_eq_getElem l1] at e1
    rw [List.getElem?_eq_getElem l2] at e2
    rw [Bool.eq_iff_iff]
    simp only [Option.getD_some] at e1 e2
    rw [e1, e2, h i j]
  · rw [List.getElem?_eq_none (by rw [beside_length]; exact hi), List.getElem?_eq_none (by rw [beside_length]; exact hi)]

theorem chk_good {n : Nat} {ls : List Ln} (h : GoodG n ls) : chk n ls = 0 := by
  obtain ⟨h1, h2, h3, h4⟩ := h
  unfold chk
  rw [if_neg (by omega), if_neg (by omega)]
  clear h3
  induction ls with
  | nil => rfl
  | cons l r ih =>
    have h := h4 l List.mem_cons_self
    have e : lnErr n l = 0 := by unfold lnErr; rw [if_neg (by omega), if_neg (by omega)]
    simp only [chkLines, e]
    simpa using ih (fun x hx => h4 x (List.mem_cons_of_mem _ hx))

/-- the lines from the last one on, each the other way -/
def turn (l : Ln) : Ln := (l.2, l.1)
def backL (ls : List Ln) : List Ln := ls.reverse.map turn
theorem good_back {n : Nat} {ls : List Ln} (h : GoodG n ls) : GoodG n (backL ls) := by
  obtain ⟨h1, h2, h3, h4⟩ := h
  refine ⟨h1, h2, by simpa [backL] using h3, fun l hl => ?_⟩
  simp only [backL, List.mem_map, List.mem_reverse] at hl
  obtain ⟨m, hm, rfl⟩ := hl
  have := h4 m hm
  simp only [turn]; omega
theorem near_back (ls : List Ln) (a b : Int) : near (backL ls) a b = near ls a b := by
  rw [Bool.eq_iff_iff, near_iff, near_iff]
  constructor
  · rintro ⟨l, hl, h⟩
    simp only [backL, List.mem_map, List.mem_reverse] at hl
    obtain ⟨m, hm, rfl⟩ := hl
    simp only [turn] at h
    exact ⟨m, hm, by omega⟩
  · rintro ⟨l, hl, h⟩
    exact ⟨turn l, by simpa [backL] using ⟨l.1, l.2, hl, rfl⟩, by simp only [turn]; omega⟩
theorem beside_back {n : Nat} {ls : List Ln} (h : GoodG n ls) : beside n (backL ls) = beside n ls := beside_congr (good_back h) h (fun _ _ => near_back _ _ _)

end Go.Proofs.Ytmkdkjdbmnocoaa.Gr
