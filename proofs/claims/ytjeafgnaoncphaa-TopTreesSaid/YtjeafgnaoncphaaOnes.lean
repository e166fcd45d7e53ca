/- What top.ones returns: the walk. Conditions: in each statement. -/
import Derived.Test.YtjeafgnaoncphaaSpanLeast
namespace Go.Proofs.Ytjeafgnaoncphaa
open Go.RowKit Gr

def onesL (us : List Bool) : List Int := us.map fun b => if b then 1 else 0
theorem onesL_snoc (us : List Bool) (k : Nat) (h : k < us.length) : onesL (us.take (k + 1)) = onesL (us.take k) ++ [if us[k] then 1 else 0] := by
  unfold onesL; rw [List.take_succ_eq_append_getElem h, List.map_append]; rfl

set_option maxRecDepth 100000 in
set_option maxHeartbeats 2000000 in
theorem ones_ok (v : Value) (us : List Bool) (m : Nat) (w : World) (hr : Rd w v m (bools us)) (hul : us.length = m) (hm : m ≤ 24) :
    Calls Try.prog 30 #[v] w fun e w' => ∃ u, e = .returned u ∧ Rd w' u m (ints (onesL us)) ∧ Below w.heap.size w w' := by
  obtain ⟨i0, hi, hz0, hz1, hz2⟩ := info_parts info_int
  obtain ⟨av, cv, rfl, _⟩ := id hr
  go_enter Try.func30, Try.ntmps30
  go_wp2_with fail
  go_loopw [3, 4] (fun oo ii wr => ∃ j : Nat, j ≤ m ∧ ii = .int .i64 j ∧ wr.ownsRow w.heap.size 3 1 oo j (ints (onesL (us.take j))) ∧ Below w.heap.size w wr) (fun _ ii _ => m - (intOf ii).toNat)
  case atStart => exact ⟨0, by omega, rfl, by simpa [onesL] using World.ownsRow_nil _ w.heap.size 3 1, Below.refl _ _⟩
  case round =>
    obtain ⟨j, hj, rfl, ho, hB⟩ := hrel
    obtain ⟨ao, co, rfl⟩ := owns_slice ho
    have hsB := hB.size
    by_cases hlt : j < m
    · have hji : (j : Int) < (m : Int) := by omega
      have hju : j < us.length := by omega
      obtain ⟨_, _, e, _, _, _, hcell⟩ := hr.later hB
      cases e
      obtain ⟨bv, ov, rfl, hbv, hcx⟩ := hcell (by omega)
      have g1 := hcx j (.bool us[j]) (by simp [bools, hju])
      have HS := Lib.hid (onesL_snoc us j hju)
      clear hcx hcell
      generalize us[j] = u at *
      generalize onesL (us.take j) = Y at *
      cases u with
      | true =>
        have HS2 : Hid (onesL (us.take (j + 1)) = Y ++ [1]) := HS.out
        go_wp2_with (at_builtin; go_must (refine wpl_app _ _ _ (AppTo.refl ho) rfl rfl Try.underlying28 hi hz0 hz1 hz2 rfl (by decide) rfl rfl rfl (by simp [Value.oneCell']) (by decide) (by omega) (by omega) ?_); intro v8 w8 hA8 hne8 hst8)
        go_roundw
        case rel =>
          refine ⟨j + 1, by omega, by go_num, ?_, hA8.below ho hB (Nat.le_refl _) (by omega)⟩
          rw [HS2.out]
          simpa [ints] using hA8.own
        case measure => simp [intOf]; omega
      | false =>
        have HS2 : Hid (onesL (us.take (j + 1)) = Y ++ [0]) := HS.out
        go_wp2_with (at_builtin; go_must (refine wpl_app _ _ _ (AppTo.refl ho) rfl rfl Try.underlying28 hi hz0 hz1 hz2 rfl (by decide) rfl rfl rfl (by simp [Value.oneCell']) (by decide) (by omega) (by omega) ?_); intro v8 w8 hA8 hne8 hst8)
        go_roundw
        case rel =>
          refine ⟨j + 1, by omega, by go_num, ?_, hA8.below ho hB (Nat.le_refl _) (by omega)⟩
          rw [HS2.out]
          simpa [ints] using hA8.own
        case measure => simp [intOf]; omega
    · obtain rfl : m = j := by omega
      have e : us.take m = us := List.take_of_length_le (by omega)
      rw [e] at ho
      go_wp2
      go_ret
      exact ⟨_, rfl, rd_of_owns ho, hB⟩
theorem ones_has (us : List Bool) (h : ∀ u ∈ us, u = true) : decide ((0 : Int) ∈ onesL us) = false := by
  rw [decide_eq_false_iff_not]
  intro h0
  obtain ⟨u, hu, e⟩ := List.mem_map.1 h0
  rw [h u hu] at e
  simp at e
end Go.Proofs.Ytjeafgnaoncphaa
