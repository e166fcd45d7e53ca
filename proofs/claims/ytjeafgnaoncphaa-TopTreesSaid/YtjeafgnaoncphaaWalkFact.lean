/- R.Goes, R.Beside, what walk.From and walk.Ring return where something is wrong, and the closed fact of the walk laws: the walks. Conditions: in each statement. -/
import Derived.Test.YtjeafgnaoncphaaRing
import Derived.Test.YtjeafgnaoncphaaSame
import Derived.Test.YtjeafgnaoncphaaLitA
import Derived.Test.YtjeafgnaoncphaaBesideR
namespace Go.Proofs.Ytjeafgnaoncphaa
namespace Gr
instance adjS_dec (O : List Nat) (i j : Nat) : Decidable (adjS O i j) := inferInstanceAs (Decidable (_ = true))

theorem isDist_of {O : List Nat} {n f : Nat} {D : List Int} (hO : Bounded n O) (hl : D.length = n) (hs : at1 D f = 0)
    (h : ∀ i, i < n → (-1 ≤ at1 D i ∧ (at1 D i = 0 → i = f) ∧ at1 D i < n ∧ (0 < at1 D i → ∃ j, j < n ∧ adjS O j i ∧ at1 D j = at1 D i - 1) ∧ ∀ j, j < n → adjS O i j → 0 ≤ at1 D i → 0 ≤ at1 D j ∧ at1 D j ≤ at1 D i + 1)) : IsDist O n f D := by
  have hout : ∀ i, ¬ i < n → at1 D i = -1 := fun i hi => at1_ge (by omega)
  refine ⟨hl, fun i => ?_, hs, fun i hi => ?_, fun i hi => ?_, fun i j hij hi => ?_, fun i => ?_⟩
  · by_cases hin : i < n
    · exact (h i hin).1
    · rw [hout i hin]; omega
  · by_cases hin : i < n
    · exact (h i hin).2.1 hi
    · rw [hout i hin] at hi; omega
  · by_cases hin : i < n
    · obtain ⟨j, _, h1, h2⟩ := (h i hin).2.2.2.1 hi
      exact ⟨j, h1, h2⟩
    · rw [hout i hin] at hi; omega
  · obtain ⟨h1, h2⟩ := hO i j hij
    exact (h i h1).2.2.2.2 j h2 hij hi
  · by_cases hin : i < n
    · exact (h i hin).2.2.1
    · rw [hout i hin]; omega

def distB (O : List Nat) (n f : Nat) (D : List Int) : Bool := decide (at1 D f = 0) && (List.range n).all fun i => decide (-1 ≤ at1 D i) && (decide (at1 D i ≠ 0) || decide (i = f)) && decide (at1 D i < n) &&
  (decide (at1 D i ≤ 0) || (List.range n).any fun j => decide (adjS O j i) && decide (at1 D j = at1 D i - 1)) &&
  (List.range n).all fun j => !decide (adjS O i j) || decide (at1 D i < 0) || (decide (0 ≤ at1 D j) && decide (at1 D j ≤ at1 D i + 1))
theorem isDist_of_B {O : List Nat} {n f : Nat} {D : List Int} (hO : Bounded n O) (hl : D.length = n) (h : distB O n f D = true) : IsDist O n f D := by
  simp only [distB, Bool.and_eq_true, decide_eq_true_eq, List.all_eq_true, List.mem_range, Bool.or_eq_true, List.any_eq_true, Bool.not_eq_true', decide_eq_false_iff_not] at h
  obtain ⟨hs, h⟩ := h
  refine isDist_of hO hl hs fun i hi => ?_
  obtain ⟨⟨⟨⟨h1, h2⟩, h3⟩, h4⟩, h5⟩ := h i hi
  refine ⟨h1, fun e => h2.resolve_left (fun k => k e), h3, fun hp => ?_, fun j hj ha hp => ?_⟩
  · rcases h4 with h4 | ⟨j, h6, h7, h8⟩
    · omega
    · exact ⟨j, h6, h7, h8⟩
  · rcases h5 j hj with (h6 | h6) | h6
    · exact absurd ha h6
    · omega
    · exact h6

theorem dist_eq {O : List Nat} {n f : Nat} {D D' : List Int} (h : IsDist O n f D) (h' : IsDist O n f D') : D = D' := by
  refine List.ext_getElem? fun i => ?_
  by_cases hi : i < n
  · have l1 : i < D.length := by rw [h.len]; exact hi
    have l2 : i < D'.length := by rw [h'.len]; exact hi
    have := dist_unique h h' i
    rw [at1_lt l1, at1_lt l2, this]
  · rw [List.getElem?_eq_none (by rw [h.len]; omega), List.getElem?_eq_none (by rw [h'.len]; omega)]

theorem bounded_of {n : Nat} {O : List Nat} (hs : Small O) (hn : O.length = n) (h : ∀ i, i < n → ∀ j, j < 8 → adjS O i j → j < n) : Bounded n O := by
  intro i j hij
  have hi : i < n := by
    rcases Nat.lt_or_ge i n with h1 | h1
    · exact h1
    · unfold adjS at hij; rw [List.getElem?_eq_none (by omega)] at hij; simp at hij
  have hj : j < 8 := by
    rcases Nat.lt_or_ge j 8 with h1 | h1
    · exact h1
    · unfold adjS at hij
      have h2 := getD_small hs i
      have : (O[i]?.getD 0).testBit j = false := Nat.testBit_lt_two_pow (Nat.lt_of_lt_of_le (show _ < 2 ^ 8 from h2) (Nat.pow_le_pow_right (by omega) h1))
      rw [this] at hij; cases hij
  exact ⟨hi, h i hi j hj hij⟩

theorem fact_good4 : GoodG 4 [(0, 1), (2, 1)] := by
  refine ⟨by decide, by decide, by decide, fun l hl => ?_⟩
  simp only [List.mem_cons, List.not_mem_nil, or_false] at hl
  rcases hl with rfl | rfl <;> decide
theorem fact_good3 : GoodG 3 [(0, 1), (1, 2), (2, 0)] := by
  refine ⟨by decide, by decide, by decide, fun l hl => ?_⟩
  simp only [List.mem_cons, List.not_mem_nil, or_false] at hl
  rcases hl with rfl | rfl | rfl <;> decide
theorem fact_dist {d : List Int} (h : IsDist (beside 4 [(0, 1), (2, 1)]) 4 0 d) : d = [0, 1, 2, -1] :=
  dist_eq h (isDist_of (adj_bounded fact_good4) rfl rfl (by decide +kernel))

/-- the distances in a ring of three points less one line -/
def ringD (a b : Nat) : List Int := (List.range 3).map fun i => if i = a then 0 else if i = b then 2 else 1
theorem fact_rv : ∀ a, a < 3 → ∀ b, b < 3 → adjS (beside 3 [(0, 1), (1, 2), (2, 0)]) a b → RV (beside 3 [(0, 1), (1, 2), (2, 0)]) 3 a b 3 := by
  intro a ha b hb hab
  have hne := adj_ne fact_good3 hab
  have hl : (beside 3 [(0, 1), (1, 2), (2, 0)]).length = 3 := beside_length _ _
  have key : ((List.range 3).all fun a => (List.range 3).all fun b => decide (a = b) || (decide ((3 : Int) = at1 (ringD a b) b + 1) && distB (cutS (beside 3 [(0, 1), (1, 2), (2, 0)]) a b) 3 a (ringD a b))) = true := by decide +kernel
  have k := List.all_eq_true.1 (List.all_eq_true.1 key a (List.mem_range.2 ha)) b (List.mem_range.2 hb)
  simp only [Bool.or_eq_true, decide_eq_true_eq, Bool.and_eq_true] at k
  obtain ⟨k2, k3⟩ := k.resolve_left hne
  exact ⟨ringD a b, isDist_of_B (cutS_bounded (adj_bounded fact_good3) (by omega) (by omega) hne) (by simp [ringD]) k3, k2⟩
theorem fact_ring {k : Int} (h : BestIs (beside 3 [(0, 1), (1, 2), (2, 0)]) 3 (adjS (beside 3 [(0, 1), (1, 2), (2, 0)])) k) : k = 3 := by
  have h01 : adjS (beside 3 [(0, 1), (1, 2), (2, 0)]) 0 1 := by decide +kernel
  rcases h.least 0 1 3 h01 (fact_rv 0 (by omega) 1 (by omega) h01) with h1 | ⟨h1, _⟩
  · omega
  · obtain ⟨a, b, hab, hr⟩ := h.some h1
    have hb := adj_bounded fact_good3 a b hab
    exact hr.unique (fact_rv a hb.1 b hb.2 hab)
end Gr
open Go.RowKit Gr

set_option maxRecDepth 100000 in
set_option maxHeartbeats 1000000 in
theorem ring_bad (n : Int) (v : Value) (ls : List Ln) (w : World) (hr : LinesRd w v ls) (hc : chk n ls ≠ 0) :
    Calls Try.prog 26 #[.int .i64 n, v] w fun e w' => e = .returned (.tuple #[.int .i64 0, errV (chk n ls)]) ∧ Below w.heap.size w w' := by
  have HC := Lib.hid (errOf_pos hc)
  clear hc
  go_enter Try.func26, Try.ntmps26
  go_wp2_with fail
  refine (graphCheck_any n v ls _ hr).mono ?_
  rintro e w1 ⟨rfl, hB⟩
  rw [HC.out]
  go_wp2
  go_ret2
  exact ⟨rfl, hB⟩

end Go.Proofs.Ytjeafgnaoncphaa
