/- EliasOnly returns true for every input: the walk. Conditions: none. -/
import Derived.Test.YtfpignebafgloaaEliasF
import Derived.Test.YtfpignebafgloaaEliasL
namespace Go.Proofs.Ytfpignebafgloaa
open Go.RowKit

theorem El.gammas_take (l : List Int) (k : Nat) (h : k < l.length) : El.gammas (l.take (k + 1)) = El.gammas (l.take k) ++ El.gamma (l[k]).toNat := by
  rw [List.take_succ_eq_append_getElem h]; unfold El.gammas; rw [List.flatMap_append]; simp only [List.flatMap_cons, List.flatMap_nil, List.append_nil]
theorem El.deltas_take (l : List Int) (k : Nat) (h : k < l.length) : El.deltas (l.take (k + 1)) = El.deltas (l.take k) ++ El.delta (l[k]).toNat := by
  rw [List.take_succ_eq_append_getElem h]; unfold El.deltas; rw [List.flatMap_append]; simp only [List.flatMap_cons, List.flatMap_nil, List.append_nil]
theorem El.gammas_take_le (l : List Int) (k : Nat) : (El.gammas (l.take k)).length ≤ (El.gammas l).length := by
  have : El.gammas l = El.gammas (l.take k) ++ El.gammas (l.drop k) := by simp [El.gammas, ← List.flatMap_append]
  rw [this, List.length_append]; omega
theorem El.deltas_take_le (l : List Int) (k : Nat) : (El.deltas (l.take k)).length ≤ (El.deltas l).length := by
  have : El.deltas l = El.deltas (l.take k) ++ El.deltas (l.drop k) := by simp [El.deltas, ← List.flatMap_append]
  rw [this, List.length_append]; omega
theorem El.gamma_pos (n : Nat) : 0 < (El.gamma n).length := by rw [El.gamma_length]; omega
theorem El.delta_pos (n : Nat) : 0 < (El.delta n).length := by rw [El.delta_length]; omega

-- what is left behind the reading of the delta codes, which went well

set_option maxHeartbeats 1000000 in
theorem eliasOnly_bad (v : Value) (xs : List Int) (w : World) (hr : Rd w v xs.length (ints xs)) (k : Int) (hk : errOf (El.chk xs) = errV k) :
    Calls Try.prog 11 #[v] w fun e w' => e = .returned (.bool true) ∧ Below w.heap.size w w' := by
  have HK := Lib.hid hk
  clear hk
  go_enter Try.func11, Try.ntmps11
  go_wp2_with fail
  refine (eliasFact_any _).mono ?_
  rintro e w1 ⟨rfl, hb1⟩
  go_wp2_with fail
  refine (ReadGamma_bad _ xs _ (hr.later hb1) k HK.out).mono ?_
  rintro e w2 ⟨rfl, rfl⟩
  go_wp2_with fail
  refine (ReadDelta_bad _ xs _ (hr.later hb1) k HK.out).mono ?_
  rintro e w2 ⟨rfl, rfl⟩
  go_wp2
  go_ret
  exact ⟨rfl, hb1⟩

set_option maxHeartbeats 4000000 in
theorem eliasOnly_noG (v : Value) (xs : List Int) (w : World) (hr : Rd w v xs.length (ints xs)) (hc0 : El.chk xs = 0) (hg : El.readG xs = none) :
    Calls Try.prog 11 #[v] w fun e w' => e = .returned (.bool true) ∧ Below w.heap.size w w' := by
  obtain ⟨hl, hbits⟩ := El.chk_bits hc0
  obtain ⟨i0, hi, hz0, hz1, hz2⟩ := info_parts info_int
  have HG : Hid (El.ReadGamma xs = ([], 2)) := by show _ = _; rw [El.ReadGamma, hc0, hg]; rfl
  clear hg
  go_enter Try.func11, Try.ntmps11
  go_wp2_with fail
  refine (eliasFact_any _).mono ?_
  rintro e w1 ⟨rfl, hb1⟩
  go_wp2_with fail
  refine (ReadGamma_ok _ xs _ (hr.later hb1) hc0).mono ?_
  rw [HG.out]
  rintro e w2 ⟨a2, c2, rfl, _, hb2⟩
  have e2 : errOf 2 = errV 2 := rfl
  simp only [e2]
  have hB2 := below_c hb1 hb2
  clear hb1 hb2 e2
  go_wp2_with fail
  cases hd : El.readD xs with
  | none =>
    have HD : Hid (El.ReadDelta xs = ([], 2)) := by show _ = _; rw [El.ReadDelta, hc0, hd]; rfl
    clear hd
    refine (ReadDelta_ok _ xs _ (hr.later hB2) hc0).mono ?_
    rw [HD.out]
    rintro e w3 ⟨a3, c3, rfl, _, hb3⟩
    have e2 : errOf 2 = errV 2 := rfl
    simp only [e2]
    clear e2
    go_wp2
    go_ret
    exact ⟨rfl, below_c hB2 hb3⟩
  | some ld =>
    obtain ⟨hdl, hdin⟩ := El.deltas_readD _ xs ld (Nat.le_refl _) hbits hd
    have HD : Hid (El.ReadDelta xs = (ld, 0)) := by show _ = _; rw [El.ReadDelta, hc0, hd]; rfl
    have HDL := Lib.hid hdl
    have HDIN := Lib.hid hdin
    clear hdl hdin hd
    refine (ReadDelta_ok _ xs _ (hr.later hB2) hc0).mono ?_
    rw [HD.out]
    rintro e wd ⟨ad, cd, rfl, hod, hbd⟩
    simp only [errOf, if_true]
    have hBd := below_c hB2 hbd
    have hrd := rd_of_owns hod
    obtain ⟨_, _, hv, hncd, hcmd, _, hcelld⟩ := id hrd
    cases hv
    unfold maxLen at hcmd
    clear hod hbd hB2
    go_wp2_with fail
    go_loopw [10, 11] (fun u i wr => ∃ k : Nat, k ≤ (ld).length ∧ i = .int .i64 k ∧ AppTo wd wd.heap.size 3 1 (.slice none 0 0) wr u (El.deltas ((ld).take k)).length (ints (El.deltas ((ld).take k)))) (fun _ i _ => (ld).length - (intOf i).toNat)
    case atStart => exact ⟨0, by omega, rfl, AppTo.refl (World.ownsRow_nil _ _ _ _)⟩
    case round =>
      obtain ⟨k, hk, rfl, hA⟩ := hrel
      have hlen := El.deltas_take_le ld k
      rw [HDL.out] at hlen
      by_cases hlt : k < (ld).length
      · obtain ⟨b, off, rfl, hbb, hc⟩ := hcelld (by omega)
        have hck := (hA.of_nil.cell (p := ⟨b, off + k, none⟩) hbb).trans (hc k _ (ints_get hlt))
        have hin := HDIN.out _ (List.getElem_mem hlt)
        have hdl2 := El.deltas_take_le ld (k + 1)
        have HT := Lib.hid (El.deltas_take ld k hlt)
        rw [HT.out, HDL.out, List.length_append] at hdl2
        go_wp2_with fail
        refine (Delta_in _ _ hin.1 hin.2).mono ?_
        rintro e w2 ⟨a2, c2, rfl, ho2, hb2⟩
        have hA1 := hA.later hb2
        have hr2 := rd_of_owns ho2
        have hpos := El.delta_pos ((ld)[k]).toNat
        clear hA ho2 hck hlen hb2
        go_wp2_with (at_builtin; go_must (refine wpl_appL _ _ _ hA1 hr2 (by simp [ints]) hpos rfl rfl Try.underlying27 hi hz0 hz1 hz2 rfl (by decide) rfl rfl (ints_one _) (by decide) (by omega) (Nat.le_refl _) ?_); intro v' w' hA' hne hst)
        go_roundw
        case rel => exact ⟨k + 1, by omega, by go_num, by rw [HT.out, List.length_append]; simpa [ints] using hA'⟩
        case measure => simp [intOf]; omega
      · have hk2 : Hid ((ld).take k = ld) := by show _ = _; exact List.take_of_length_le (by omega)
        have hro : Rd wr u10 xs.length (ints xs) := by
          have := rd_of_owns hA.own
          rw [hk2.out, HDL.out] at this
          exact this
        have hrx := (hr.later hBd).later hA.of_nil
        have hbn := hA.of_nil
        clear hA hlen hcelld hrd
        go_wp2_with fail
        refine (ints_b _ _ xs xs _ hro hrx).mono ?_
        rintro e w3 ⟨rfl, hb3⟩
        have hB3 := below_c (below_c hBd hbn) hb3
        rw [decide_eq_true rfl]
        go_wp2
        go_ret
        exact ⟨rfl, hB3⟩

set_option maxHeartbeats 4000000 in
theorem eliasOnly_G (v : Value) (xs lg : List Int) (w : World) (hr : Rd w v xs.length (ints xs)) (hc0 : El.chk xs = 0) (hg : El.readG xs = some lg) :
    Calls Try.prog 11 #[v] w fun e w' => e = .returned (.bool true) ∧ Below w.heap.size w w' := by
  obtain ⟨hl, hbits⟩ := El.chk_bits hc0
  obtain ⟨i0, hi, hz0, hz1, hz2⟩ := info_parts info_int
  obtain ⟨hgl, hgin⟩ := El.gammas_readG _ xs lg (Nat.le_refl _) hbits hg
  have HG : Hid (El.ReadGamma xs = (lg, 0)) := by show _ = _; rw [El.ReadGamma, hc0, hg]; rfl
  have HGL := Lib.hid hgl
  have HGIN := Lib.hid hgin
  clear hg hgl hgin
  go_enter Try.func11, Try.ntmps11
  go_wp2_with fail
  refine (eliasFact_any _).mono ?_
  rintro e w1 ⟨rfl, hb1⟩
  go_wp2_with fail
  refine (ReadGamma_ok _ xs _ (hr.later hb1) hc0).mono ?_
  rw [HG.out]
  rintro e w2 ⟨a2, c2, rfl, ho2, hb2⟩
  simp only [errOf, if_true]
  have hB2 := below_c hb1 hb2
  have hrg := rd_of_owns ho2
  obtain ⟨_, _, hv, hncg, hcmg, _, hcellg⟩ := id hrg
  cases hv
  unfold maxLen at hcmg
  clear hb1 hb2 ho2
  go_wp2_with fail
  go_loopw [6, 7] (fun u i wr => ∃ k : Nat, k ≤ lg.length ∧ i = .int .i64 k ∧ AppTo w2 w2.heap.size 3 1 (.slice none 0 0) wr u (El.gammas (lg.take k)).length (ints (El.gammas (lg.take k)))) (fun _ i _ => lg.length - (intOf i).toNat)
  case atStart => exact ⟨0, by omega, rfl, AppTo.refl (World.ownsRow_nil _ _ _ _)⟩
  case round =>
    obtain ⟨k, hk, rfl, hA⟩ := hrel
    have hlen := El.gammas_take_le lg k
    rw [HGL.out] at hlen
    by_cases hlt : k < lg.length
    · obtain ⟨b, off, rfl, hbb, hc⟩ := hcellg (by omega)
      have hck := (hA.of_nil.cell (p := ⟨b, off + k, none⟩) hbb).trans (hc k _ (ints_get hlt))
      have hin := HGIN.out _ (List.getElem_mem hlt)
      have hdl2 := El.gammas_take_le lg (k + 1)
      have HT := Lib.hid (El.gammas_take lg k hlt)
      rw [HT.out, HGL.out, List.length_append] at hdl2
      go_wp2_with fail
      refine (Gamma_in _ _ hin.1 hin.2).mono ?_
      rintro e w3 ⟨a3, c3, rfl, ho3, hb3⟩
      have hA1 := hA.later hb3
      have hr2 := rd_of_owns ho3
      have hpos := El.gamma_pos (lg[k]).toNat
      clear hA ho3 hck hlen hb3
      go_wp2_with (at_builtin; go_must (refine wpl_appL _ _ _ hA1 hr2 (by simp [ints]) hpos rfl rfl Try.underlying27 hi hz0 hz1 hz2 rfl (by decide) rfl rfl (ints_one _) (by decide) (by omega) (Nat.le_refl _) ?_); intro v' w' hA' hne hst)
      go_roundw
      case rel => exact ⟨k + 1, by omega, by go_num, by rw [HT.out, List.length_append]; simpa [ints] using hA'⟩
      case measure => simp [intOf]; omega
    · have hk2 : Hid (lg.take k = lg) := by show _ = _; exact List.take_of_length_le (by omega)
      have hro : Rd wr u6 xs.length (ints xs) := by
        have := rd_of_owns hA.own
        rw [hk2.out, HGL.out] at this
        exact this
      have hrx := (hr.later hB2).later hA.of_nil
      have hbn := hA.of_nil
      clear hA hlen hcellg hrg
      go_wp2_with fail
      refine (ints_b _ _ xs xs _ hro hrx).mono ?_
      rintro e w3 ⟨rfl, hb3⟩
      have hB3 := below_c (below_c hB2 hbn) hb3
      rw [decide_eq_true rfl]
      clear hro hrx hbn hb3 hB2
      go_wp2_with fail
      cases hd : El.readD xs with
      | none =>
        have HD : Hid (El.ReadDelta xs = ([], 2)) := by show _ = _; rw [El.ReadDelta, hc0, hd]; rfl
        clear hd
        refine (ReadDelta_ok _ xs _ (hr.later hB3) hc0).mono ?_
        rw [HD.out]
        rintro e w4 ⟨a3, c3, rfl, _, hb4⟩
        have e2 : errOf 2 = errV 2 := rfl
        simp only [e2]
        clear e2
        go_wp2
        go_ret
        exact ⟨rfl, below_c hB3 hb4⟩
      | some ld =>
        obtain ⟨hdl, hdin⟩ := El.deltas_readD _ xs ld (Nat.le_refl _) hbits hd
        have HD : Hid (El.ReadDelta xs = (ld, 0)) := by show _ = _; rw [El.ReadDelta, hc0, hd]; rfl
        have HDL := Lib.hid hdl
        have HDIN := Lib.hid hdin
        clear hdl hdin hd
        refine (ReadDelta_ok _ xs _ (hr.later hB3) hc0).mono ?_
        rw [HD.out]
        rintro e wd ⟨ad, cd, rfl, hod, hbd⟩
        simp only [errOf, if_true]
        have hBd := below_c hB3 hbd
        have hrd := rd_of_owns hod
        obtain ⟨_, _, hv, hncd, hcmd, _, hcelld⟩ := id hrd
        cases hv
        unfold maxLen at hcmd
        clear hod hbd hB3
        go_wp2_with fail
        go_loopw [10, 11] (fun u i wr => ∃ k : Nat, k ≤ (ld).length ∧ i = .int .i64 k ∧ AppTo wd wd.heap.size 3 1 (.slice none 0 0) wr u (El.deltas ((ld).take k)).length (ints (El.deltas ((ld).take k)))) (fun _ i _ => (ld).length - (intOf i).toNat)
        case atStart => exact ⟨0, by omega, rfl, AppTo.refl (World.ownsRow_nil _ _ _ _)⟩
        case round =>
          obtain ⟨k, hk, rfl, hA⟩ := hrel
          have hlen := El.deltas_take_le ld k
          rw [HDL.out] at hlen
          by_cases hlt : k < (ld).length
          · obtain ⟨b, off, rfl, hbb, hc⟩ := hcelld (by omega)
            have hck := (hA.of_nil.cell (p := ⟨b, off + k, none⟩) hbb).trans (hc k _ (ints_get hlt))
            have hin := HDIN.out _ (List.getElem_mem hlt)
            have hdl2 := El.deltas_take_le ld (k + 1)
            have HT := Lib.hid (El.deltas_take ld k hlt)
            rw [HT.out, HDL.out, List.length_append] at hdl2
            go_wp2_with fail
            refine (Delta_in _ _ hin.1 hin.2).mono ?_
            rintro e w2 ⟨a2, c2, rfl, ho2, hb2⟩
            have hA1 := hA.later hb2
            have hr2 := rd_of_owns ho2
            have hpos := El.delta_pos ((ld)[k]).toNat
            clear hA ho2 hck hlen hb2
            go_wp2_with (at_builtin; go_must (refine wpl_appL _ _ _ hA1 hr2 (by simp [ints]) hpos rfl rfl Try.underlying27 hi hz0 hz1 hz2 rfl (by decide) rfl rfl (ints_one _) (by decide) (by omega) (Nat.le_refl _) ?_); intro v' w' hA' hne hst)
            go_roundw
            case rel => exact ⟨k + 1, by omega, by go_num, by rw [HT.out, List.length_append]; simpa [ints] using hA'⟩
            case measure => simp [intOf]; omega
          · have hk2 : Hid ((ld).take k = ld) := by show _ = _; exact List.take_of_length_le (by omega)
            have hro : Rd wr u10 xs.length (ints xs) := by
              have := rd_of_owns hA.own
              rw [hk2.out, HDL.out] at this
              exact this
            have hrx := (hr.later hBd).later hA.of_nil
            have hbn := hA.of_nil
            clear hA hlen hcelld hrd
            go_wp2_with fail
            refine (ints_b _ _ xs xs _ hro hrx).mono ?_
            rintro e w3 ⟨rfl, hb3⟩
            have hB3 := below_c (below_c hBd hbn) hb3
            rw [decide_eq_true rfl]
            go_wp2
            go_ret
            exact ⟨rfl, hB3⟩

theorem eliasOnly_walk {v : Value} {xs : List Int} {w : World} (hr : Rd w v xs.length (ints xs)) : Calls Try.prog 11 #[v] w fun e w' => e = .returned (.bool true) ∧ Below w.heap.size w w' := by
  by_cases hc : El.chk xs = 0
  · cases hg : El.readG xs with
    | none => exact eliasOnly_noG v xs w hr hc hg
    | some lg => exact eliasOnly_G v xs lg w hr hc hg
  · exact eliasOnly_bad v xs w hr (El.chk xs : Int) (by rw [errOf, if_neg hc])

end Go.Proofs.Ytfpignebafgloaa
