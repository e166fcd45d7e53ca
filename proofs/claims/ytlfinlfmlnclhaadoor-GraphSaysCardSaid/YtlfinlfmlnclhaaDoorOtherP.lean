/- The lines that are not there: plain. Conditions: in each statement. -/
import Derived.Test.YtlfinlfmlnclhaaDoorOther
namespace Go.Proofs.YtlfinlfmlnclhaaDoor.Gr

theorem mem_otherL {n : Nat} {ls : List Ln} {l : Ln} : l ∈ otherL n ls ↔ ∃ a b : Nat, a < b ∧ b < n ∧ l = ((a : Int), (b : Int)) ∧ ¬ adjS (beside n ls) a b := by
  unfold otherL otherUpto otherRow adjS
  simp only [List.mem_flatMap, List.mem_range, List.mem_map, List.mem_filter, Bool.not_eq_true']
  constructor
  · rintro ⟨a, ha, j, ⟨hj, hb⟩, rfl⟩
    exact ⟨a, a + 1 + j, by omega, by omega, rfl, by rw [hb]; simp⟩
  · rintro ⟨a, b, h1, h2, rfl, h3⟩
    exact ⟨a, by omega, b - (a + 1), ⟨by omega, by rw [show a + 1 + (b - (a + 1)) = b from by omega]; simpa using h3⟩, by rw [show a + 1 + (b - (a + 1)) = b from by omega]⟩
theorem other_good {n : Nat} {ls : List Ln} (hg : GoodG n ls) (hl : (otherL n ls).length ≤ 24) : GoodG n (otherL n ls) := by
  refine ⟨hg.1, hg.2.1, hl, fun l h => ?_⟩
  obtain ⟨a, b, h1, h2, rfl, _⟩ := mem_otherL.1 h
  refine ⟨by simp, by simp only; omega, by simp, by simp only; omega, by simp only; omega⟩
theorem near_other {n : Nat} {ls : List Ln} (hg : GoodG n ls) (a b : Nat) : near (otherL n ls) a b = true ↔ a ≠ b ∧ a < n ∧ b < n ∧ near ls a b = false := by
  rw [near_iff]
  constructor
  · rintro ⟨l, hl, h⟩
    obtain ⟨x, y, h1, h2, rfl, h3⟩ := mem_otherL.1 hl
    rw [adj_near hg] at h3
    simp only at h
    have h3' : near ls x y = false := by cases hh : near ls (x : Int) (y : Int) with | false => rfl | true => exact absurd hh h3
    rcases h with ⟨e1, e2⟩ | ⟨e1, e2⟩
    · have : x = a := by omega
      have : y = b := by omega
      subst x y
      exact ⟨by omega, by omega, by omega, h3'⟩
    · have : x = b := by omega
      have : y = a := by omega
      subst x y
      exact ⟨by omega, by omega, by omega, by rw [near_symm]; exact h3'⟩
  · rintro ⟨h1, h2, h3, h4⟩
    have key : ∀ a b : Nat, a < b → b < n → near ls a b = false → ∃ l ∈ otherL n ls, l.1 = (a : Int) ∧ l.2 = (b : Int) := by
      intro a b hab hb hn
      refine ⟨((a : Int), (b : Int)), mem_otherL.2 ⟨a, b, hab, hb, rfl, ?_⟩, rfl, rfl⟩
      rw [adj_near hg, hn]; simp
    rcases Nat.lt_or_ge a b with h | h
    · obtain ⟨l, g1, g2, g3⟩ := key a b h h3 h4; exact ⟨l, g1, .inl ⟨g2, g3⟩⟩
    · obtain ⟨l, g1, g2, g3⟩ := key b a (by omega) h2 (by rw [near_symm]; exact h4); exact ⟨l, g1, .inr ⟨g2, g3⟩⟩
theorem near_twice {n : Nat} {ls : List Ln} (hg : GoodG n ls) (hl : (otherL n ls).length ≤ 24) (a b : Nat) : near (otherL n (otherL n ls)) a b = near ls a b := by
  rw [Bool.eq_iff_iff, near_other (other_good hg hl)]
  constructor
  · rintro ⟨h1, h2, h3, h4⟩
    cases hh : near ls (a : Int) (b : Int) with
    | true => rfl
    | false => rw [(near_other hg a b).2 ⟨h1, h2, h3, hh⟩] at h4; cases h4
  · intro h
    have hin := near_in hg h
    refine ⟨by omega, by omega, by omega, ?_⟩
    cases hh : near (otherL n ls) (a : Int) (b : Int) with
    | false => rfl
    | true => have := ((near_other hg a b).1 hh).2.2.2; rw [h] at this; cases this
theorem rows_twice {n : Nat} {ls : List Ln} (hg : GoodG n ls) (hl : (otherL n ls).length ≤ 24) (hl2 : (otherL n (otherL n ls)).length ≤ 24) : besideRows n (otherL n (otherL n ls)) = besideRows n ls := by
  unfold besideRows
  rw [beside_congr (other_good (other_good hg hl) hl2) hg (fun i j => near_twice hg hl i j)]
theorem near_apart {n : Nat} {ls : List Ln} (hg : GoodG n ls) {a b : Nat} (hb : b < a) (ha : a < n) : (near ls a b == near (otherL n ls) a b) = false := by
  cases hh : near ls (a : Int) (b : Int) with
  | false => rw [(near_other hg a b).2 ⟨by omega, ha, by omega, hh⟩]; rfl
  | true =>
    cases hk : near (otherL n ls) (a : Int) (b : Int) with
    | false => rfl
    | true => have := ((near_other hg a b).1 hk).2.2.2; rw [hh] at this; cases this

end Go.Proofs.YtlfinlfmlnclhaaDoor.Gr
