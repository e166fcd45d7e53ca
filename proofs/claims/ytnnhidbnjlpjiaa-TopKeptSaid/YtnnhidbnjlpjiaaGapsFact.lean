/- The closed fact of the gaps laws; reading what was written: the walks. Conditions: in each statement. -/
import Derived.Test.YtnnhidbnjlpjiaaGaps
import Derived.Test.YtnnhidbnjlpjiaaLit
namespace Go.Proofs.Ytnnhidbnjlpjiaa
open Go.RowKit
open El (at0 gAt gapsErr GapsOk lastOf)

theorem gapsRead_write (v : Value) (l : List Int) (w : World) (hr : Rd w v (El.writeG l).length (ints (El.writeG l))) (hg : GapsOk l) (hs : (El.writeG l).length ≤ 600) :
    Calls Try.prog 18 #[v] w (RetInts w l .nilIface) := by
  have h := gapsRead_any v (El.writeG l) w hr (El.chk_deltas (l := El.nums l) hs)
  rw [El.readD_writeG hg hs, El.readGaps_write hg hs] at h
  have hl := hg.len
  exact h (El.nums_in hg) (by simp [El.nums, El.diffs_length]; omega)

theorem El.g0 : GapsOk [0] := ⟨by decide, fun k hk => by
  have : k = 0 := by simp at hk; exact hk
  subst this; decide⟩
theorem El.w0 : El.writeG [0] = [0, 1, 0, 0, 1] := by decide +kernel

set_option maxRecDepth 100000 in
set_option maxHeartbeats 1000000 in
theorem gapsFact_any (w : World) : Calls Try.prog 16 #[] w fun e w' => e = .returned (.bool true) ∧ Below w.heap.size w w' := by
  go_enter Try.func16, Try.ntmps16
  go_wp2_with fail
  refine (gapsWrite_ok _ [0] _ (ints_lit [0] rfl rfl rfl (by decide)) El.g0).mono ?_
  rintro e w1 ⟨a1, c1, rfl, ho1, hB1⟩
  rw [El.w0] at ho1
  rw [El.w0]
  have hB1' := below_c (below_alloc' _ _) hB1
  have hr1 := rd_of_owns ho1
  clear hB1 ho1
  go_wp2_with fail
  refine (gapsRead_write _ [0] _ (by rw [El.w0]; exact ints_lit [0, 1, 0, 0, 1] rfl rfl rfl (by decide)) El.g0 (by rw [El.w0]; decide)).mono ?_
  rintro e w2 ⟨a2, c2, rfl, ho2, hB2⟩
  have hB2' := below_c (below_alloc' _ _) hB2
  have hr12 := hr1.later hB2'
  have hr2 := rd_of_owns ho2
  have hB12 := below_c hB1' hB2'
  clear hB2 hB1' hB2' ho2 hr1
  go_wp2_with fail
  refine (ints_b _ _ [0, 1, 0, 0, 1] [0, 1, 0, 0, 1] _ (hr12.later (below_alloc' _ _)) (ints_lit [0, 1, 0, 0, 1] rfl rfl rfl (by decide))).mono ?_
  rintro e w3 ⟨rfl, hB3⟩
  rw [decide_eq_true rfl]
  have hB3' := below_c (below_alloc' _ _) hB3
  have hr23 := hr2.later hB3'
  have hB13 := below_c hB12 hB3'
  clear hB3 hB12 hB3' hr2 hr12
  go_wp2_with fail
  refine (ints_b _ _ [0] [0] _ (hr23.later (below_alloc' _ _)) (ints_lit [0] rfl rfl rfl (by decide))).mono ?_
  rintro e w4 ⟨rfl, hB4⟩
  rw [decide_eq_true rfl]
  have hB14 := below_c hB13 (below_c (below_alloc' _ _) hB4)
  go_wp2
  go_ret
  exact ⟨rfl, hB14⟩

end Go.Proofs.Ytnnhidbnjlpjiaa
