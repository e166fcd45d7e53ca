/- What the document's functions for gaps return: the walks. Conditions: in each statement. -/
import Derived.Test.YtlfinlfmlnclhaaDoorRefElias3
import Derived.Test.YtlfinlfmlnclhaaDoorGaps
import Derived.Deep.RegionHeld3
namespace Go.Proofs.YtlfinlfmlnclhaaDoor
open Go.RowKit
open El (at0 gAt gapsErr GapsOk lastOf sums)

set_option maxRecDepth 100000 in
set_option maxHeartbeats 1000000 in
theorem refGaps_any (v : Value) (xs : List Int) (w : World) (hr : Rd w v xs.length (ints xs)) :
    Calls Tryd.prog 39 #[v] w fun e w' => e = .returned (.int .i64 (gapsErr xs : Nat)) ∧ Below w.heap.size w w' := by
  obtain ⟨a, c, rfl, hc1, hc2⟩ := rd_form hr
  by_cases h30 : 30 < xs.length
  · have HE : Hid (gapsErr xs = 4) := by show _ = _; unfold gapsErr; rw [if_pos h30]
    have h30' : 30 < (xs.length : Int) := by omega
    go_enter Tryd.func39, Tryd.ntmps39
    go_wp2
    go_ret
    exact ⟨by rw [HE.out]; rfl, Below.refl _ _⟩
  · have h30' : ¬ 30 < (xs.length : Int) := by omega
    have HE : Hid (gapsErr xs = El.firstErr (gAt xs) xs.length) := by show _ = _; unfold gapsErr; rw [if_neg h30]
    go_enter Tryd.func39, Tryd.ntmps39
    go_wp2_with fail
    go_loopw [3] (fun i wr => ∃ k : Nat, k ≤ xs.length ∧ i = .int .i64 k ∧ Below w.heap.size w wr ∧ Hid (∀ j, j < k → gAt xs j = 0)) (fun i _ => xs.length - (intOf i).toNat)
    case atStart => exact ⟨0, by omega, rfl, Below.refl _ _, fun j hj => by omega⟩
    case round =>
      obtain ⟨k, hk, rfl, hbr, HA⟩ := hrel
      by_cases hlt : k < xs.length
      · have hki : (k : Int) < (xs.length : Int) := by omega
        obtain ⟨b, off, rfl, _, _, hb, hcx⟩ := rd_cells0 (hr.later hbr) rfl (by omega)
        have hck := hcx k hlt
        by_cases hin : 0 ≤ at0 xs k ∧ at0 xs k ≤ 999999
        · have HI := Lib.hid (decide_eq_true hin)
          rcases Nat.eq_zero_or_pos k with h0 | h0
          · have HZ : Hid (∀ j, j < k + 1 → gAt xs j = 0) := fun j hj => by
              have : j = k := by omega
              subst this
              unfold gAt; rw [if_neg (fun h => h hin), if_neg (by omega)]
            subst h0
            rw [Nat.add_zero] at hck
            have hk0 : ¬ (0 : Int) < 0 := by omega
            clear hcx hin
            go_wp2_with fail
            refine (refIn_any _ _ _ _).mono ?_
            rintro e w' ⟨rfl, rfl⟩
            rw [HI.out]
            go_wp2
            go_quiet (fail)
            go_wp2
            go_roundw
            case rel => exact ⟨1, by omega, by go_num, by first | exact hbr | exact hbr.trans ((below_drewN' _ _).mono hbr.size), HZ⟩
            case measure => simp [intOf]; omega
          · obtain ⟨j, rfl⟩ : ∃ j, k = j + 1 := ⟨k - 1, by omega⟩
            have hcj := hcx j (by omega)
            have hji : (j : Int) < (xs.length : Int) := by omega
            have hjp : 0 < ((j + 1 : Nat) : Int) := by omega
            have wj : IntKind.i64.wrap (((j + 1 : Nat) : Int) - 1) = (j : Int) := by rw [IntWalk.i64_in _ (by omega)]; omega
            have wj2 : IntKind.i64.wrap ((j : Int) + 1 - 1) = (j : Int) := by rw [IntWalk.i64_in _ (by omega)]; omega
            clear hcx
            by_cases hge : at0 xs j ≥ at0 xs (j + 1)
            · have HZ : Hid (gapsErr xs = 3) := by
                have e : gAt xs (j + 1) = 3 := by unfold gAt; rw [if_neg (fun h => h hin), if_pos ⟨by omega, hge⟩]
                show _ = _
                rw [HE.out, El.firstErr_at HA.out hlt (by rw [e]; decide), e]
              clear hin
              generalize at0 xs (j + 1) = x at *
              generalize at0 xs j = y at *
              have e1 : decide (y ≥ x) = true := by simp; omega
              go_wp2_with fail
              refine (refIn_any _ _ _ _).mono ?_
              rintro e w' ⟨rfl, rfl⟩
              rw [HI.out]
              go_wp2
              go_quiet (fail)
              go_wp2
              go_ret
              exact ⟨by rw [HZ.out]; rfl, by first | exact hbr | exact hbr.trans ((below_drewN' _ _).mono hbr.size)⟩
            · have HZ : Hid (∀ i, i < j + 1 + 1 → gAt xs i = 0) := fun i hi => by
                by_cases e : i = j + 1
                · subst e
                  unfold gAt; rw [if_neg (fun h => h hin), if_neg (fun h => hge h.2)]
                · exact HA.out i (by omega)
              clear hin
              generalize at0 xs (j + 1) = x at *
              generalize at0 xs j = y at *
              have e1 : decide (y ≥ x) = false := by simp; omega
              go_wp2_with fail
              refine (refIn_any _ _ _ _).mono ?_
              rintro e w' ⟨rfl, rfl⟩
              rw [HI.out]
              go_wp2
              go_quiet (fail)
              go_wp2
              go_roundw
              case rel => exact ⟨j + 1 + 1, by omega, by go_num, by first | exact hbr | exact hbr.trans ((below_drewN' _ _).mono hbr.size), HZ⟩
              case measure => simp [intOf]; omega
        · have HI := Lib.hid (decide_eq_false hin)
          have HZ : Hid (gapsErr xs = 1) := by
            have e : gAt xs k = 1 := by unfold gAt; rw [if_pos hin]
            show _ = _
            rw [HE.out, El.firstErr_at HA.out hlt (by rw [e]; decide), e]
          clear hin hcx
          go_wp2_with fail
          refine (refIn_any _ _ _ _).mono ?_
          rintro e w' ⟨rfl, rfl⟩
          rw [HI.out]
          go_wp2
          go_ret
          exact ⟨by rw [HZ.out]; rfl, by first | exact hbr | exact hbr.trans ((below_drewN' _ _).mono hbr.size)⟩
      · have HZ : Hid (gapsErr xs = 0) := by
          show _ = _
          rw [HE.out, El.firstErr_zero (fun j hj => HA.out j (by omega))]
        go_wp2
        go_ret
        exact ⟨by rw [HZ.out]; rfl, by first | exact hbr | exact hbr.trans ((below_drewN' _ _).mono hbr.size)⟩



set_option maxRecDepth 100000 in
set_option maxHeartbeats 2000000 in
theorem refWriteGaps_ok (v : Value) (xs : List Int) (w : World) (hr : Rd w v xs.length (ints xs)) (hg : GapsOk xs) :
    Calls Tryd.prog 41 #[v] w (RetRow w (El.writeG xs)) := by
  obtain ⟨i0, hi, hz0, hz1, hz2⟩ := info_parts info_int
  obtain ⟨a, c, rfl, hc1, hc2⟩ := rd_form hr
  have HG := Lib.hid hg
  have hl30 := hg.len
  have wl : IntKind.i64.wrap ((xs.length : Int) + 1) = (xs.length : Int) + 1 := IntWalk.i64_in _ (by omega)
  clear hg
  go_enter Tryd.func41, Tryd.ntmps41
  go_wp2_with fail
  first | rw [wl] | skip
  refine (refDelta_any (xs.length + 1) _ (by omega)).mono ?_
  rintro e w1 ⟨a1, c1, rfl, ho1, hB1⟩
  go_wp2_with fail
  go_loopw [3, 4] (fun o i wr => ∃ k : Nat, k ≤ xs.length ∧ i = .int .i64 k ∧ wr.ownsRow w.heap.size 3 1 o (El.deltas (((xs.length : Int) + 1) :: El.diffs (-1) (xs.take k))).length (ints (El.deltas (((xs.length : Int) + 1) :: El.diffs (-1) (xs.take k)))) ∧ Below w.heap.size w wr) (fun _ i _ => xs.length - (intOf i).toNat)
  case atStart =>
    refine ⟨0, by omega, rfl, ?_, hB1⟩
    have e : El.deltas (((xs.length : Int) + 1) :: El.diffs (-1) (xs.take 0)) = El.delta (xs.length + 1) := by
      have : ((xs.length : Int) + 1).toNat = xs.length + 1 := by omega
      simp [El.deltas, El.diffs, this]
    rw [e]; exact ho1
  case round =>
    obtain ⟨k, hk, rfl, ho, hB⟩ := hrel
    by_cases hlt : k < xs.length
    · have hki : (k : Int) < (xs.length : Int) := by omega
      obtain ⟨b, off, rfl, _, _, hb, hcx⟩ := rd_cells0 hr rfl (by omega)
      have hck := (hB.cell (p := ⟨b, off + k, none⟩) hb).trans (hcx k hlt)
      obtain ⟨g1, g2⟩ := El.gap_in HG.out hlt
      obtain ⟨g3, g4, _⟩ := El.gAt_zero (HG.out.all k hlt)
      have HD := Lib.hid (El.diffs_take hlt)
      have HL : Hid (lastOf xs (k + 1) = at0 xs k) := by show _ = _; unfold lastOf; rw [if_neg (by omega)]; rfl
      have hsh := El.deltas_short (((xs.length : Int) + 1) :: El.diffs (-1) (xs.take k)) (by
        intro x hx
        rcases List.mem_cons.1 hx with rfl | h
        · omega
        · exact El.diffs_in HG.out k hk x h)
      have hl2 : (((xs.length : Int) + 1) :: El.diffs (-1) (xs.take k)).length ≤ 32 := by simp [El.diffs_length]; omega
      have wd : IntKind.i64.wrap (at0 xs k - lastOf xs k) = at0 xs k - lastOf xs k := IntWalk.i64_in _ (by omega)
      have HOUT : Hid (El.deltas (((xs.length : Int) + 1) :: El.diffs (-1) (xs.take (k + 1))) = El.deltas (((xs.length : Int) + 1) :: El.diffs (-1) (xs.take k)) ++ El.delta (at0 xs k - lastOf xs k).toNat) := by
        show _ = _
        rw [HD.out]; simp [El.deltas]
      generalize El.deltas (((xs.length : Int) + 1) :: El.diffs (-1) (xs.take k)) = out at *
      have wlr := hB.size
      rcases Nat.eq_zero_or_pos k with h0 | h0
      · have hy0 : lastOf xs k = -1 := by unfold lastOf; rw [if_pos h0]
        subst h0
        rw [Nat.add_zero] at hck
        rw [hy0] at g1 g2 HOUT
        clear hy0 wd hcx
        generalize hx : at0 xs 0 = x at *
        obtain ⟨d, hd⟩ : ∃ d : Nat, x + 1 = (d : Int) := ⟨(x + 1).toNat, by omega⟩
        have HDD : Hid ((x - -1).toNat = d) := by show _ = _; omega
        have HX := Lib.hid hd
        have hd6 : d ≤ 1000000 := by omega
        have wd : IntKind.i64.wrap (x + 1) = x + 1 := IntWalk.i64_in _ (by omega)
        clear hd
        go_wp2_with fail
        rw [HX.out]
        refine (refDelta_any d _ hd6).mono ?_
        rintro e w2 ⟨a2, c2, rfl, ho2, hB2⟩
        rw [HDD.out] at HOUT
        have hor := owns_later ho hB2
        have hr2 := rd_of_owns ho2
        have hpd := El.delta_pos d
        have hsd := El.delta_short (show d ≤ 1000000 by omega)
        have hB3 := below_c hB hB2
        have hs3 := hB3.size
        clear ho hB2 hB
        go_wp2_with (at_builtin; go_must (refine wpl_appL _ _ _ (AppTo.refl hor) hr2 (by simp [ints]) hpd rfl rfl Tryd.underlying36 hi hz0 hz1 hz2 rfl (by decide) rfl rfl (ints_one _) (by decide) (by omega) hs3 ?_); intro v4 w4 hA4 hne4 hst4)
        go_roundw
        case rel => exact ⟨0 + 1, by omega, by go_num, by rw [HOUT.out, List.length_append]; simpa [ints] using hA4.own, hB3.trans hst4⟩
        case measure => simp [intOf]; omega
      · obtain ⟨j, rfl⟩ : ∃ j, k = j + 1 := ⟨k - 1, by omega⟩
        have hyj : lastOf xs (j + 1) = at0 xs j := by unfold lastOf; rw [if_neg (by omega)]; rfl
        have hcj := (hB.cell (p := ⟨b, off + j, none⟩) hb).trans (hcx j (by omega))
        have hji : (j : Int) < (xs.length : Int) := by omega
        have wj2 : IntKind.i64.wrap ((j : Int) + 1 - 1) = (j : Int) := by rw [IntWalk.i64_in _ (by omega)]; omega
        have hj0 : (((j + 1 : Nat) : Int) == 0) = false := by rw [beq_eq_false_iff_ne]; omega
        rw [hyj] at g1 g2 HOUT wd
        clear hyj hcx
        generalize hx : at0 xs (j + 1) = x at *
        generalize hy : at0 xs j = y at *
        obtain ⟨d, hd⟩ : ∃ d : Nat, x - y = (d : Int) := ⟨(x - y).toNat, by omega⟩
        have HDD : Hid ((x - y).toNat = d) := by show _ = _; omega
        have HX := Lib.hid hd
        have hd6 : d ≤ 1000000 := by omega
        clear hd
        go_wp2
        have hA1 : (j : Int) + 1 < (xs.length : Int) := by omega
        have hA2 : (0 : Int) ≤ (j : Int) + 1 := by omega
        have hA3 : ¬ ((j : Int) + 1 < 0) := by omega
        have wj3 : IntKind.i64.wrap (j : Int) = (j : Int) := IntWalk.i64_in _ (by omega)
        have hA4 : ((j : Int) + 1).toNat = j + 1 := by omega
        have hA5 : (0 : Int) ≤ (j : Int) := by omega
        have K := refDelta_any d wr.drew hd6
        rw [← HX.out] at K
        have hBd : Below w.heap.size w wr.drew := hB.trans ((below_drewN' wr 1).mono hB.size)
        have hod : wr.drew.ownsRow w.heap.size 3 1 _ _ _ := owns_later ho (below_drewN' wr 1)
        have hpd := El.delta_pos d
        have hsd := El.delta_short hd6
        have hbw : b < wr.drew.heap.size := Nat.lt_of_lt_of_le hb hBd.size
        rw [HDD.out] at HOUT
        clear hB ho HDD
        go_region_held3 (fun w' => w'.cell? ⟨b, off + (j + 1), none⟩ = some (.int .i64 x) ∧ w'.cell? ⟨b, off + j, none⟩ = some (.int .i64 y)) (first | go_keep | exact ⟨(hst4.cell (p := ⟨b, off + (j + 1), none⟩) hb).trans ((hB2.cell (p := ⟨b, off + (j + 1), none⟩) hbw).trans hck), (hst4.cell (p := ⟨b, off + j, none⟩) hb).trans ((hB2.cell (p := ⟨b, off + j, none⟩) hbw).trans hcj)⟩ | exact ⟨(hB2.cell (p := ⟨b, off + (j + 1), none⟩) hbw).trans hck, (hB2.cell (p := ⟨b, off + j, none⟩) hbw).trans hcj⟩)
          (first
            | (go_simp; refine K.mono ?_; rintro e w2 ⟨a2, c2, rfl, ho2, hB2⟩; have hor := owns_later hod hB2; have hr2 := rd_of_owns ho2; have hB3 := below_c hBd hB2; have hs3 := hB3.size)
            | (refine step_appL _ _ _ (AppTo.refl hor) hr2 (by simp [ints]) rfl rfl Tryd.underlying36 hi hz0 hz1 hz2 rfl (by decide) rfl rfl (ints_one _) (by decide) (by omega) hs3 ?_; intro v4 w4 hA4 hst4))
        all_goals
          go_wp2
          go_roundw
          case rel => exact ⟨j + 1 + 1, by omega, by go_num, by rw [HOUT.out, List.length_append]; simpa [ints] using hA4.own, hB3.trans hst4⟩
          case measure => simp [intOf]; omega
    · have e : xs.take k = xs := List.take_of_length_le (by omega)
      rw [e] at ho
      have ho' : wr.ownsRow w.heap.size 3 1 _ (El.writeG xs).length (ints (El.writeG xs)) := ho
      obtain ⟨ao, co, rfl⟩ := owns_slice ho'
      clear ho e
      go_wp2
      go_ret
      exact RetRow.mk rfl ho' rfl hB


end Go.Proofs.YtlfinlfmlnclhaaDoor
