/- The closed fact of the statements on package elias is true: the walk. Conditions: none. -/
import Derived.Test.YtfpignebafgloaaElias3
import Derived.Test.YtfpignebafgloaaSame
namespace Go.Proofs.Ytfpignebafgloaa
open Go.RowKit

theorem Gamma_in (n : Int) (w : World) (h1 : 1 ≤ n) (h2 : n ≤ 1000000) : Calls Try.prog 45 #[.int .i64 n] w (RetInts w (El.gamma n.toNat) .nilIface) := by
  obtain ⟨k, rfl⟩ := Int.eq_ofNat_of_zero_le (show 0 ≤ n by omega)
  exact gammaE_yes k w (by omega) (by omega)
theorem Delta_in (n : Int) (w : World) (h1 : 1 ≤ n) (h2 : n ≤ 1000000) : Calls Try.prog 46 #[.int .i64 n] w (RetInts w (El.delta n.toNat) .nilIface) := by
  obtain ⟨k, rfl⟩ := Int.eq_ofNat_of_zero_le (show 0 ≤ n by omega)
  exact deltaE_yes k w (by omega) (by omega)

theorem El.g5 : El.gamma (5 : Int).toNat = [0, 0, 1, 0, 1] := by decide +kernel
theorem El.d5 : El.delta (5 : Int).toNat = [0, 1, 1, 0, 1] := by decide +kernel
theorem El.c4 : El.chk [1, 0, 1, 1] = 0 := by decide +kernel
theorem El.rg4 : El.rg [1, 0, 1, 1] = some (1, 1) := by decide +kernel
theorem El.rg3 : El.rg [0, 1, 1] = some (3, 3) := by decide +kernel
theorem El.r4 : El.ReadGamma [1, 0, 1, 1] = ([1, 3], 0) := by
  rw [El.ReadGamma, El.c4, El.readG_some (by simp) El.rg4]
  rw [show ([1, 0, 1, 1] : List Int).drop 1 = [0, 1, 1] from rfl, El.readG_some (by simp) El.rg3]
  rw [show ([0, 1, 1] : List Int).drop 3 = [] from rfl, El.readG_nil]
  rfl

set_option maxHeartbeats 1000000 in
theorem eliasFact_any (w : World) : Calls Try.prog 44 #[] w fun e w' => e = .returned (.bool true) ∧ Below w.heap.size w w' := by
  go_enter Try.func44, Try.ntmps44
  go_wp2_with fail
  refine (Gamma_in 5 _ (by decide) (by decide)).mono ?_
  rw [El.g5]
  rintro e w1 ⟨a1, c1, rfl, ho1, hb1⟩
  go_wp2_with fail
  refine (Delta_in 5 _ (by decide) (by decide)).mono ?_
  rw [El.d5]
  rintro e w2 ⟨a2, c2, rfl, ho2, hb2⟩
  go_wp2_with fail
  refine (ReadGamma_ok _ [1, 0, 1, 1] _ (rd_lit _ rfl (by decide) (by simp)) El.c4).mono ?_
  rw [El.r4]
  rintro e w3 ⟨a3, c3, rfl, ho3, hb3⟩
  simp only [errOf, if_true]
  have hr1 := ((rd_of_owns ho1).later hb2).later ((below_alloc' _ _).trans (hb3.mono (by simp)))
  have hr2 := (rd_of_owns ho2).later ((below_alloc' _ _).trans (hb3.mono (by simp)))
  have hr3 := rd_of_owns ho3
  have hB : Below w.heap.size w w3 := below_ac (below_c hb1 hb2) hb3
  clear ho1 ho2 ho3 hb1 hb2 hb3
  go_wp2_with fail
  refine (ints_b _ _ [0, 0, 1, 0, 1] [0, 0, 1, 0, 1] _ (hr1.alloc _) (rd_lit _ rfl (by decide) (by simp))).mono ?_
  rintro e w4 ⟨rfl, hb4⟩
  have hr2' := (hr2.alloc _).later hb4
  have hr3' := (hr3.alloc _).later hb4
  have hB4 := below_ac hB hb4
  clear hr1 hr2 hr3 hB hb4
  go_wp2_with fail
  refine (ints_b _ _ [0, 1, 1, 0, 1] [0, 1, 1, 0, 1] _ (hr2'.alloc _) (rd_lit _ rfl (by decide) (by simp))).mono ?_
  rintro e w5 ⟨rfl, hb5⟩
  have hr3 := (hr3'.alloc _).later hb5
  have hB5 := below_ac hB4 hb5
  clear hr2' hr3' hB4 hb5
  go_wp2_with fail
  refine (ints_b _ _ [1, 3] [1, 3] _ (hr3.alloc _) (rd_lit _ rfl (by decide) (by simp))).mono ?_
  rintro e w6 ⟨rfl, hb6⟩
  have hB6 := below_ac hB5 hb6
  clear hr3 hB5 hb6
  go_wp2
  go_ret
  exact ⟨rfl, hB6⟩

end Go.Proofs.Ytfpignebafgloaa
