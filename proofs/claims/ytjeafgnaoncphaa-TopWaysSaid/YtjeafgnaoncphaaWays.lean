/- What menger.Ways returns: the walk. Conditions: in each statement. -/
import Derived.Test.YtjeafgnaoncphaaMenger
import Derived.Test.YtjeafgnaoncphaaLitA
namespace Go.Proofs.Ytjeafgnaoncphaa
open Go.RowKit Gr
open El (allIn)

theorem all_two (a b n : Int) : allIn [a, b] 0 (n - 1) = decide ((0 ≤ a ∧ a ≤ n - 1) ∧ 0 ≤ b ∧ b ≤ n - 1) := by
  unfold allIn
  rw [Bool.eq_iff_iff]
  simp

set_option maxRecDepth 100000 in
set_option maxHeartbeats 2000000 in
theorem mcheck_any (n : Int) (v : Value) (ls : List Ln) (a b : Int) (w : World) (hr : LinesRd w v ls) :
    Calls Try.prog 49 #[.int .i64 n, v, .int .i64 a, .int .i64 b] w fun e w' => ∃ q : Nat, e = .returned (errOf q) ∧ (q = 0 ↔ chk n ls = 0 ∧ ((0 ≤ a ∧ a ≤ n - 1) ∧ 0 ≤ b ∧ b ≤ n - 1) ∧ a ≠ b) ∧ Below w.heap.size w w' := by
  by_cases hc : chk n ls = 0
  · have HC : Hid (errOf (chk n ls) = .nilIface) := by show _ = _; rw [hc]; rfl
    obtain ⟨h1, h2, _⟩ := chk_ok hc
    have wn1 : IntKind.i64.wrap (n - 1) = n - 1 := IntWalk.i64_in _ (by omega)
    have HC0 := Lib.hid hc
    clear hc
    have KA := fun v w hr => all_any v 2 [a, b] 0 (n - 1) w hr rfl
    rw [all_two] at KA
    go_enter Try.func49, Try.ntmps49
    go_wp2_with fail
    refine (graphCheck_any n v ls _ hr).mono ?_
    rintro e w1 ⟨rfl, hB⟩
    rw [HC.out]
    have hB2 := below_c hB (below_alloc' w1 (.cells #[.int .i64 a, .int .i64 b] 3))
    by_cases hin : (0 ≤ a ∧ a ≤ n - 1) ∧ 0 ≤ b ∧ b ≤ n - 1
    · rw [decide_eq_true hin] at KA
      have HIN := Lib.hid hin
      clear hin
      go_wp2_with fail
      refine (KA _ _ (ints_lit [a, b] rfl rfl rfl (by simp [maxLen]))).mono ?_
      rintro e w' ⟨rfl, rfl⟩
      by_cases hab : a = b
      · have hb : (a == b) = true := by simp [hab]
        have HAB := Lib.hid hab
        clear hab
        go_wp2
        go_ret
        exact ⟨3, rfl, ⟨fun h => by omega, fun h => absurd HAB.out h.2.2⟩, hB2⟩
      · have hb : (a == b) = false := by simp [hab]
        have HAB := Lib.hid hab
        go_wp2
        go_ret
        exact ⟨0, rfl, ⟨fun _ => ⟨HC0.out, HIN.out, HAB.out⟩, fun _ => rfl⟩, hB2⟩
    · rw [decide_eq_false hin] at KA
      have HIN := Lib.hid hin
      clear hin
      go_wp2_with fail
      refine (KA _ _ (ints_lit [a, b] rfl rfl rfl (by simp [maxLen]))).mono ?_
      rintro e w' ⟨rfl, rfl⟩
      go_wp2
      go_ret
      exact ⟨1, rfl, ⟨fun h => by omega, fun h => absurd h.2.1 HIN.out⟩, hB2⟩
  · have HC := Lib.hid (errOf_pos hc)
    have HC0 := Lib.hid hc
    clear hc
    go_enter Try.func49, Try.ntmps49
    go_wp2_with fail
    refine (graphCheck_any n v ls _ hr).mono ?_
    rintro e w1 ⟨rfl, hB⟩
    rw [HC.out]
    go_wp2
    go_ret
    exact ⟨chk n ls, by rw [HC.out]; rfl, ⟨fun h => absurd h HC0.out, fun h => absurd h.1 HC0.out⟩, hB⟩

set_option maxRecDepth 100000 in
set_option maxHeartbeats 1000000 in
theorem ways_bad (n : Int) (v : Value) (ls : List Ln) (a b : Int) (w : World) (hr : LinesRd w v ls) (hc : ¬ (chk n ls = 0 ∧ ((0 ≤ a ∧ a ≤ n - 1) ∧ 0 ≤ b ∧ b ≤ n - 1) ∧ a ≠ b)) :
    Calls Try.prog 19 #[.int .i64 n, v, .int .i64 a, .int .i64 b] w fun e w' => ∃ q : Nat, q ≠ 0 ∧ e = .returned (.tuple #[.int .i64 0, errV q]) ∧ Below w.heap.size w w' := by
  have K := mcheck_any n v ls a b w hr
  have HC := Lib.hid hc
  clear hc
  go_enter Try.func19, Try.ntmps19
  go_wp2_with fail
  refine K.mono ?_
  rintro e w1 ⟨q, rfl, hq, hB⟩
  have hq0 : q ≠ 0 := fun h => HC.out (hq.1 h)
  rw [errOf_pos hq0]
  have HQ := Lib.hid hq0
  clear hq hq0
  go_wp2
  go_ret2
  exact ⟨q, HQ.out, rfl, hB⟩

set_option maxRecDepth 100000 in
set_option maxHeartbeats 1000000 in
theorem ways_ok (n : Nat) (v : Value) (ls : List Ln) (a b : Nat) (w : World) (hr : LinesRd w v ls) (hg : GoodG n ls) (ha : a < n) (hb : b < n) (hab : a ≠ b) :
    Calls Try.prog 19 #[.int .i64 (n : Int), v, .int .i64 (a : Int), .int .i64 (b : Int)] w fun e w' => ∃ k : Nat, e = .returned (.tuple #[.int .i64 (k : Int), .nilIface]) ∧
      (∀ T : Nat → Bool, T a = true → T b = false → k ≤ cutL ls T) ∧ (∃ T : Nat → Bool, T a = true ∧ T b = false ∧ k = cutL ls T) ∧ Below w.heap.size w w' := by
  have K := mcheck_any n v ls a b w hr
  have KF := fun w hr => menger_find n v ls a b w hr hg ha hb hab
  have HC : Hid (chk (n : Int) ls = 0 ∧ ((0 ≤ (a : Int) ∧ (a : Int) ≤ (n : Int) - 1) ∧ 0 ≤ (b : Int) ∧ (b : Int) ≤ (n : Int) - 1) ∧ (a : Int) ≠ (b : Int)) := ⟨chk_good hg, by omega, by omega⟩
  clear hg hab
  go_enter Try.func19, Try.ntmps19
  go_wp2_with fail
  refine K.mono ?_
  rintro e w1 ⟨q, rfl, hq, hB⟩
  obtain rfl : q = 0 := hq.2 HC.out
  have he : errOf 0 = .nilIface := rfl
  rw [he]
  clear hq he
  go_wp2_with fail
  refine (KF _ (hr.later hB)).mono ?_
  rintro e w2 ⟨k, s, rfl, h1, h2, hB2⟩
  have H1 := Lib.hid h1
  have H2 := Lib.hid h2
  clear h1 h2
  go_wp2
  go_ret2
  exact ⟨k, rfl, H1.out, H2.out, below_c hB hB2⟩
end Go.Proofs.Ytjeafgnaoncphaa
