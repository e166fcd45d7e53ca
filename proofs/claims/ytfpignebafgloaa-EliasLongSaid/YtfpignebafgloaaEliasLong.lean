/- EliasLong returns true for every input: the walk. Conditions: none. -/
import Derived.Test.YtfpignebafgloaaEliasF
namespace Go.Proofs.Ytfpignebafgloaa
open Go.RowKit

set_option maxHeartbeats 1000000 in
theorem eliasLong_out (n m : Int) (w : World) (h : ¬ (1 ≤ n ∧ n ≤ 1000000)) : Calls Try.prog 7 #[.int .i64 n, .int .i64 m] w fun e w' => e = .returned (.bool true) ∧ Below w.heap.size w w' := by
  have H := Lib.hid h
  clear h
  go_enter Try.func7, Try.ntmps7
  go_wp2_with fail
  refine (eliasFact_any _).mono ?_
  rintro e w1 ⟨rfl, hb1⟩
  go_wp2_with fail
  refine (gammaE_no n _ H.out).mono ?_
  rintro e w2 ⟨rfl, rfl⟩
  go_wp2_with fail
  refine (deltaE_no n _ H.out).mono ?_
  rintro e w3 ⟨rfl, rfl⟩
  go_wp2_with fail
  refine (in_any _ _ _ _).mono ?_
  rintro e w4 ⟨rfl, rfl⟩
  rw [decide_eq_false H.out]
  go_wp2
  go_ret
  exact ⟨rfl, hb1⟩

set_option maxHeartbeats 2000000 in
theorem eliasLong_in (n : Nat) (m : Int) (w : World) (h1 : 1 ≤ n) (h2 : n ≤ 1000000) : Calls Try.prog 7 #[.int .i64 n, .int .i64 m] w fun e w' => e = .returned (.bool true) ∧ Below w.heap.size w w' := by
  have hlog : n.log2 ≤ 29 := El.log2_le_of n 29 (by omega)
  have HG := Lib.hid (El.gamma_length n)
  have hD1 := El.delta_ge n
  have hD2 := fun h => @El.delta_le_gamma n h
  have HD2 := Lib.hid hD2
  have hDL : (El.delta n).length ≤ 200 := by
    have := El.log2_le_of (n.log2 + 1) 29 (by omega)
    rw [El.delta_length]; omega
  clear hD2
  go_enter Try.func7, Try.ntmps7
  go_wp2_with fail
  refine (eliasFact_any _).mono ?_
  rintro e w1 ⟨rfl, hb1⟩
  go_wp2_with fail
  refine (gammaE_yes n _ h1 h2).mono ?_
  rintro e w2 ⟨a2, c2, rfl, _, hb2⟩
  have hB2 := below_c hb1 hb2
  clear hb1 hb2
  go_wp2_with fail
  refine (deltaE_yes n _ h1 h2).mono ?_
  rintro e w3 ⟨a3, c3, rfl, _, hb3⟩
  have hB3 := below_c hB2 hb3
  clear hB2 hb3
  go_wp2_with fail
  go_loop [10, 11] (fun k v => ∃ x j : Nat, x ≤ n ∧ j ≤ 29 ∧ v = .int .i64 x ∧ k = .int .i64 j ∧ Hid (j + x.log2 = n.log2)) (fun _ v => (intOf v).toNat)
  case atStart => exact ⟨n, 0, Nat.le_refl _, by omega, rfl, rfl, by show _ = _; simp⟩
  case round =>
    obtain ⟨x, j, hx, hj29, rfl, rfl, HJ⟩ := hrel
    by_cases hx2 : 2 ≤ x
    · have hj : j + 1 ≤ 29 := by have := HJ.out; rw [El.log2_half x hx2] at this; omega
      go_wp2_with fail
      go_round
      case rel => exact ⟨x / 2, j + 1, by omega, hj, by go_num, by go_num, by have := HJ.out; rw [El.log2_half x hx2] at this; show _ = _; omega⟩
      case measure => simp [intOf]; omega
    · have h0 : x.log2 = 0 := by
        have : x = 0 ∨ x = 1 := by omega
        rcases this with rfl | rfl <;> decide
      have hjn : n.log2 = j := by have := HJ.out; omega
      rw [hjn] at hD1
      have HG' : Hid ((El.gamma n).length = 2 * j + 1) := by show _ = _; rw [HG.out, hjn]
      clear h0 hjn HG HJ
      have hne : (((El.gamma n).length : Int) != 2 * (j : Int) + 1) = false := by rw [HG'.out]; simp
      have hlt : ((j : Int) + 1 ≤ ((El.delta n).length : Int)) := by omega
      have hgl : (El.gamma n).length ≤ 59 := by rw [HG'.out]; omega
      have HG2 : Hid (32 ≤ n → ((El.delta n).length : Int) ≤ ((El.gamma n).length : Int)) := fun h => by have := HD2.out h; omega
      by_cases h32 : 32 ≤ n
      all_goals
        try (have hdg := HG2.out h32)
        by_cases hm : 1 ≤ m ∧ m ≤ 1000000
        · obtain ⟨mm, rfl⟩ := Int.eq_ofNat_of_zero_le (show 0 ≤ m by omega)
          obtain ⟨hm1, hm2⟩ := hm
          go_wp2_with fail
          refine (gammaE_yes mm _ (by omega) (by omega)).mono ?_
          rintro e w4 ⟨a4, c4, rfl, _, hb4⟩
          have hB4 := below_c hB3 hb4
          clear hB3 hb4
          go_wp2_with fail
          refine (deltaE_yes mm _ (by omega) (by omega)).mono ?_
          rintro e w5 ⟨a5, c5, rfl, _, hb5⟩
          have hB5 := below_c hB4 hb5
          clear hB4 hb5
          by_cases hmn : mm < n
          · go_wp2
            go_ret
            exact ⟨rfl, hB5⟩
          · have g1 := El.gamma_mono (show n ≤ mm by omega)
            have g2 := El.delta_mono (show n ≤ mm by omega)
            have g1' : ((El.gamma n).length : Int) ≤ ((El.gamma mm).length : Int) := by omega
            have g2' : ((El.delta n).length : Int) ≤ ((El.delta mm).length : Int) := by omega
            go_wp2
            go_ret
            exact ⟨rfl, hB5⟩
        · have HM := Lib.hid hm
          clear hm
          go_wp2_with fail
          refine (gammaE_no m _ HM.out).mono ?_
          rintro e w4 ⟨rfl, rfl⟩
          go_wp2_with fail
          refine (deltaE_no m _ HM.out).mono ?_
          rintro e w5 ⟨rfl, rfl⟩
          go_wp2_with fail
          refine (in_any _ _ _ _).mono ?_
          rintro e w6 ⟨rfl, rfl⟩
          rw [decide_eq_false HM.out]
          go_wp2
          go_ret
          exact ⟨rfl, hB3⟩

theorem eliasLong_walk (n m : Int) (w : World) : Calls Try.prog 7 #[.int .i64 n, .int .i64 m] w fun e w' => e = .returned (.bool true) ∧ Below w.heap.size w w' := by
  by_cases h : 1 ≤ n ∧ n ≤ 1000000
  · obtain ⟨k, rfl⟩ := Int.eq_ofNat_of_zero_le (show 0 ≤ n by omega)
    exact eliasLong_in k m w (by omega) (by omega)
  · exact eliasLong_out n m w h

end Go.Proofs.Ytfpignebafgloaa
