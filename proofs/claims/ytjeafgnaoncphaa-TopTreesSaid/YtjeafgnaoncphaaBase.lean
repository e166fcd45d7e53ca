/- What core.Within and core.All return: the walks. Conditions: in each statement. -/
import Derived.Test.YtjeafgnaoncphaaMem
import Derived.Deep.QuietTactic
import Derived.BigQuiet
import Derived.Deep.DeepMust
import Derived.Deep.DeepFit
import Derived.Lib.Hide
namespace Go.Proofs.Ytjeafgnaoncphaa.El
def allIn (xs : List Int) (lo hi : Int) : Bool := xs.all fun x => decide (lo ≤ x ∧ x ≤ hi)
end Go.Proofs.Ytjeafgnaoncphaa.El
namespace Go.Proofs.Ytjeafgnaoncphaa
open Go.RowKit

theorem info_int : (Try.prog.info? 3).map (fun i => (i.zero, i.size, i.bytes)) = some (some (.int .i64 0), 1, 8) := by kernel_rfl

set_option maxHeartbeats 400000 in
theorem within_any (n lo hi : Int) (w : World) :
    Calls Try.prog 47 #[.int .i64 n, .int .i64 lo, .int .i64 hi] w fun e w' => e = .returned (.bool (decide (lo ≤ n ∧ n ≤ hi))) ∧ w = w' := by
  by_cases h1 : lo ≤ n
  · by_cases h2 : n ≤ hi
    · go_enter Try.func47, Try.ntmps47
      go_wp2
      go_ret
      exact ⟨by simp [h1, h2], rfl⟩
    · go_enter Try.func47, Try.ntmps47
      go_wp2
      go_ret
      exact ⟨by simp [h2], rfl⟩
  · go_enter Try.func47, Try.ntmps47
    go_wp2
    go_ret
    exact ⟨by simp; omega, rfl⟩

open El (allIn)

theorem allIn_take_succ (xs : List Int) (lo hi : Int) (k : Nat) (h : k < xs.length) (h1 : allIn (xs.take k) lo hi = true) (h2 : lo ≤ xs[k] ∧ xs[k] ≤ hi) : allIn (xs.take (k + 1)) lo hi = true := by
  rw [List.take_succ_eq_append_getElem h]
  simp only [allIn, List.all_append, Bool.and_eq_true] at h1 ⊢
  exact ⟨h1, by simpa using h2⟩

theorem allIn_false (xs : List Int) (lo hi : Int) (k : Nat) (h : k < xs.length) (h2 : ¬ (lo ≤ xs[k] ∧ xs[k] ≤ hi)) : allIn xs lo hi = false := by
  cases hh : allIn xs lo hi with
  | false => rfl
  | true =>
    simp only [allIn, List.all_eq_true] at hh
    have := hh xs[k] (List.getElem_mem h)
    exact absurd (by simpa using this) h2

set_option maxHeartbeats 400000 in
theorem all_any (v : Value) (n : Nat) (xs : List Int) (lo hi : Int) (w : World) (hr : Rd w v n (ints xs)) (hx : xs.length = n) :
    Calls Try.prog 66 #[v, .int .i64 lo, .int .i64 hi] w fun e w' => e = .returned (.bool (allIn xs lo hi)) ∧ w = w' := by
  obtain ⟨a, c, rfl, hnc, hcm, h0, hcell⟩ := hr
  unfold maxLen at hcm
  have HX := Lib.hid hx
  have H0 := Lib.hid h0
  clear hx h0
  go_enter Try.func66, Try.ntmps66
  go_wp2
  go_loop [11] (fun i => ∃ k : Nat, k ≤ n ∧ i = .int .i64 k ∧ allIn (xs.take k) lo hi = true) (fun i => n - (intOf i).toNat)
  case atStart => exact ⟨0, by omega, rfl, rfl⟩
  case round =>
    obtain ⟨k, hk, rfl, hall⟩ := hrel
    have HA := Lib.hid hall
    clear hall
    by_cases hlt : k < n
    · obtain ⟨b, off, rfl, hb, hc⟩ := hcell (by omega)
      have hkx : k < xs.length := by rw [HX.out]; exact hlt
      have hck := hc k _ (ints_get hkx)
      by_cases hin : lo ≤ xs[k] ∧ xs[k] ≤ hi
      · have hd := Lib.hid (decide_eq_true hin)
        go_wp2_with fail
        refine (within_any _ _ _ _).mono ?_
        rintro e w' ⟨rfl, rfl⟩
        rw [hd.out]
        go_wp2
        go_round
        case rel => exact ⟨k + 1, by omega, by go_num, allIn_take_succ xs lo hi k hkx HA.out hin⟩
        case measure => simp [intOf]; omega
      · have hd := Lib.hid (decide_eq_false hin)
        have hin' := Lib.hid hin
        clear hin
        go_wp2_with fail
        refine (within_any _ _ _ _).mono ?_
        rintro e w' ⟨rfl, rfl⟩
        rw [hd.out]
        go_wp2
        go_ret
        exact ⟨ret_bool (allIn_false xs lo hi k hkx hin'.out).symm, rfl⟩
    · go_wp2
      go_ret
      exact ⟨ret_bool (by have := HA.out; rw [List.take_of_length_le (by rw [HX.out]; omega)] at this; rw [this]), rfl⟩

end Go.Proofs.Ytjeafgnaoncphaa
