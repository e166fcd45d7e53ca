/- GraphOther returns true for every input: the walk. Conditions: the listed variable holds its handle. -/
import Derived.Test.YtlfinlfmlnclhaaDoorGraphFact
import Derived.Test.YtlfinlfmlnclhaaDoorOtherP
import Derived.Test.YtlfinlfmlnclhaaDoorRefLines
import Derived.Test.YtlfinlfmlnclhaaDoorBesideR
import Derived.Test.YtlfinlfmlnclhaaDoorAs
namespace Go.Proofs.YtlfinlfmlnclhaaDoor
open Go.RowKit Gr

set_option maxRecDepth 100000 in
set_option maxHeartbeats 4000000 in
theorem graphOther_any {w : World} (hh : Handle w) (n : Int) {v : Value} {ls : List Ln} (hr : LinesRd w v ls) :
    Calls Tryd.prog 3 #[.int .i64 n, v] w fun e w' => e = .returned (.bool true) ∧ Below w.heap.size w w' := by
  by_cases hc : chk n ls = 0
  · obtain ⟨m, rfl, hg⟩ := good_of hc
    have HG := Lib.hid hg
    have hm8 := hg.2.1
    have hm1 := hg.1
    have HC := Lib.hid hc
    have HAP := Lib.hid (fun a b (hb : b < a) (ha : a < m) => near_apart hg hb ha)
    clear hc hg
    go_enter Tryd.func3, Tryd.ntmps3
    go_wp2_with fail
    refine (graphFact_any _).mono ?_
    rintro e w1 ⟨rfl, hB1⟩
    go_wp2_with fail
    refine (other_ok m _ ls _ (hr.later hB1) HG.out).mono ?_
    rintro e w2 ⟨hB2, ⟨h24, rfl⟩ | ⟨h24, u, rfl, ho⟩⟩
    · go_wp2
      go_ret
      exact ⟨rfl, below_c hB1 hB2⟩
    · have hB12 := below_c hB1 hB2
      have hru : LinesRd w2 u (otherL m ls) := rd_of_owns ho
      obtain ⟨au, cu, hu⟩ := owns_slice ho
      clear ho hB1 hB2
      subst hu
      go_wp2_with fail
      refine (refLines_any m _ ls _ (hr.later hB12)).mono ?_
      rintro e w3 ⟨rfl, hB3⟩
      rw [HC.out]
      have hB13 := below_c hB12 hB3
      have hru3 := hru.later hB3
      clear hB3 hB12
      go_wp2_with fail
      go_loopw [8] (fun i wr => ∃ a : Nat, a ≤ m ∧ i = .int .i64 a ∧ Below w3.heap.size w3 wr) (fun i _ => m - (intOf i).toNat)
      case atStart => exact ⟨0, by omega, rfl, Below.refl _ _⟩
      case round =>
        obtain ⟨a, ha, rfl, hbr⟩ := hrel
        by_cases hlt : a < m
        · have hai : (a : Int) < (m : Int) := by omega
          go_wp2_with fail
          go_loopw [9] (fun i wr => ∃ b : Nat, b ≤ a ∧ i = .int .i64 b ∧ Below w3.heap.size w3 wr) (fun i _ => a - (intOf i).toNat)
          case atStart => exact ⟨0, by omega, rfl, hbr⟩
          case round =>
            obtain ⟨b, hb, rfl, hbr⟩ := hrel
            by_cases hlb : b < a
            · have hbi : (b : Int) < (a : Int) := by omega
              have HA := Lib.hid (HAP.out a b hlb hlt)
              go_wp2_with fail
              refine (refBeside_any _ ls a b _ (hr.later (below_c hB13 hbr))).mono ?_
              rintro e w4 ⟨rfl, rfl⟩
              go_wp2_with fail
              refine (refBeside_any _ (otherL m ls) a b _ (hru3.later hbr)).mono ?_
              rintro e w4 ⟨rfl, rfl⟩
              have h1 := HA.out
              generalize near ls a b = x at *
              generalize near (otherL m ls) a b = y at *
              go_wp2
              go_roundw
              case rel => exact ⟨b + 1, by omega, by go_num, hbr⟩
              case measure => simp [intOf]; omega
            · go_wp2
              go_roundw
              case rel => exact ⟨a + 1, by omega, by go_num, hbr⟩
              case measure => simp [intOf]; omega
        · have HG2 := Lib.hid (other_good HG.out h24)
          have hB13 := below_c hB13 hbr
          have hru3 := hru3.later hbr
          go_wp2_with fail
          refine (other_ok m _ (otherL m ls) _ hru3 HG2.out).mono ?_
          rintro e w4 ⟨hB4, ⟨h24', rfl⟩ | ⟨h24', u2, rfl, ho2⟩⟩
          · have hB14 := below_c hB13 hB4
            have hh4 := hh.later hB14
            go_wp2_with fail
            refine (errorIs 4 4 _ hh4).mono ?_
            rintro e w5 ⟨rfl, hB5⟩
            go_wp2
            go_ret
            exact ⟨rfl, below_c hB14 hB5⟩
          · have hB14 := below_c hB13 hB4
            have hru2 : LinesRd w4 u2 (otherL m (otherL m ls)) := rd_of_owns ho2
            have HG3 := Lib.hid (other_good HG2.out h24')
            have HT := Lib.hid (rows_twice HG.out h24 h24')
            clear ho2 hB4
            go_wp2_with fail
            refine (graphBeside_ok m _ _ _ hru2 HG3.out (chk_good HG3.out)).mono ?_
            rintro e w5 ⟨u5, rfl, hrows5, hB5⟩
            rw [HT.out] at hrows5
            have hB15 := below_c hB14 hB5
            clear hB5 hru2
            go_wp2_with fail
            refine (graphBeside_ok m _ ls _ (hr.later hB15) HG.out HC.out).mono ?_
            rintro e w6 ⟨u6, rfl, hrows6, hB6⟩
            have hB16 := below_c hB15 hB6
            have hrows56 := hrows5.later hB6
            clear hB6 hrows5
            go_wp2_with fail
            refine (rows_b _ _ _ _ _ hrows56 hrows6).mono ?_
            rintro e w7 ⟨rfl, hB7⟩
            rw [decide_eq_true rfl]
            have hB17 := below_c hB16 hB7
            go_wp2
            go_ret
            exact ⟨rfl, hB17⟩
  · go_enter Tryd.func3, Tryd.ntmps3
    go_wp2_with fail
    refine (graphFact_any _).mono ?_
    rintro e w1 ⟨rfl, hB1⟩
    go_wp2_with fail
    refine (other_bad n _ ls _ (hr.later hB1) hc).mono ?_
    rintro e w2 ⟨rfl, hB2⟩
    go_wp2
    go_ret
    exact ⟨rfl, below_c hB1 hB2⟩

end Go.Proofs.YtlfinlfmlnclhaaDoor
