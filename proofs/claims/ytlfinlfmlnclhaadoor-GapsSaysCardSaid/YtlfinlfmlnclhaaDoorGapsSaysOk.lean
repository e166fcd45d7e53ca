/- GapsSays returns true where the numbers are a list of gaps: the walk. Conditions: the listed variable holds its handle. -/
import Derived.Test.YtlfinlfmlnclhaaDoorGapsSays
namespace Go.Proofs.YtlfinlfmlnclhaaDoor
open Go.RowKit
open El (at0 gapsErr GapsOk runsOf)

-- the error and the numbers are held against the document's answer
-- what is read


-- a run was counted: is it the beginning of one?

set_option maxRecDepth 100000 in
set_option maxHeartbeats 16000000 in
theorem gapsSays_ok {w : World} (hh : Handle w) {v v' : Value} {xs ys : List Int} (hr : Rd w v xs.length (ints xs)) (hr' : Rd w v' ys.length (ints ys)) (hg : GapsOk xs) :
    Calls Tryd.prog 8 #[v, v'] w fun e w' => e = .returned (.bool true) ∧ Below w.heap.size w w' := by
  obtain ⟨av, cv, rfl⟩ : ∃ av cv, v = .slice av xs.length cv := by obtain ⟨av, cv, hv, _⟩ := hr; exact ⟨av, cv, hv⟩
  obtain ⟨av', cv', rfl⟩ : ∃ av cv, v' = .slice av ys.length cv := by obtain ⟨av, cv, hv, _⟩ := hr'; exact ⟨av, cv, hv⟩
  obtain ⟨i0, hi, hz0, hz1, hz2⟩ := info_parts info_pair
  have HI : Hid (El.RunsI xs xs.length (runsOf xs)) := El.runs_inv hg xs.length (Nat.le_refl _)
  have HG := Lib.hid hg
  have HE := Lib.hid (El.gapsErr_ok hg)
  have hl30 := hg.len
  have HV : Hid (∀ k, k < xs.length → 0 ≤ at0 xs k ∧ at0 xs k ≤ 999999) := fun k hk => by obtain ⟨a, b, _⟩ := El.gAt_zero (hg.all k hk); exact ⟨a, b⟩
  have K3 : ∀ w1 : World, Below w.heap.size w w1 → _ := fun w1 h => runs_ok _ xs w1 (hr.later h) hg
  clear hg
  generalize runsOf xs = r at *
  have hfew := HI.out.few
  go_enter Tryd.func8, Tryd.ntmps8
  go_wp2_with fail
  refine (refGaps_any _ xs _ hr).mono ?_
  rintro e w1 ⟨rfl, hB1⟩
  rw [HE.out]
  go_wp2_with fail
  refine (gapsCheck_any _ xs _ (hr.later hB1)).mono ?_
  rintro e w2 ⟨rfl, rfl⟩
  rw [HE.out, show errOf 0 = .nilIface from rfl]
  go_wp2_with fail
  refine (errorNil 0 _ (hh.later hB1)).mono ?_
  rintro e w2 ⟨rfl, hB2⟩
  rw [decide_eq_true rfl]
  have hB12 := below_c hB1 hB2
  clear hB1 hB2
  go_wp2_with fail
  refine (refWriteGaps_ok _ xs _ (hr.later hB12) HG.out).mono ?_
  rintro e w3 ⟨a3, c3, rfl, ho3, hB3⟩
  have hB13 := below_c hB12 hB3
  have hw3 := rd_of_owns ho3
  clear hB12 hB3 ho3
  go_wp2_with fail
  go_loopw [8, 9] (fun o i wr => ∃ k q : Nat, k ≤ xs.length ∧ i = .int .i64 k ∧ Hid (El.RunPos r k q) ∧ wr.ownsRow w3.heap.size 68 2 o q (pairsV (r.take q)) ∧ Below w3.heap.size w3 wr) (fun _ i _ => xs.length - (intOf i).toNat)
  case atStart => exact ⟨0, 0, by omega, rfl, ⟨by omega, .inl ⟨rfl, rfl⟩⟩, World.ownsRow_nil _ _ _ _, Below.refl _ _⟩
  case round =>
    obtain ⟨k, q, hk, rfl, HP, ho, hbr⟩ := hrel
    have hqr := HP.out.1
    by_cases hlt : k < xs.length
    · have hki : (k : Int) < (xs.length : Int) := by omega
      go_wp2_with fail
      go_loopw [10] (fun m wr2 => ∃ t : Nat, 1 ≤ t ∧ k + t ≤ xs.length ∧ m = .int .i64 t ∧ Hid (∀ j, j < t → at0 xs (k + j) = at0 xs k + (j : Int)) ∧ wr2.ownsRow w3.heap.size 68 2 u8 q (pairsV (r.take q)) ∧ Below w3.heap.size w3 wr2) (fun m _ => xs.length - (intOf m).toNat)
      case atStart => exact ⟨1, by omega, by omega, rfl, fun j hj => by obtain rfl : j = 0 := (by omega); simp, ho, hbr⟩
      case round =>
        obtain ⟨t, ht1, htl, rfl, HT, ho2, hb2⟩ := hrel
        have hrx := hr.later (below_c hB13 hb2)
        obtain ⟨b, off, rfl, _, _, hb, hcx⟩ := rd_cells0 hrx rfl (by omega)
        have hck := hcx k hlt
        obtain ⟨hvk1, hvk2⟩ := HV.out k hlt
        have wkt : IntKind.i64.wrap ((k : Int) + (t : Int)) = (k : Int) + (t : Int) := IntWalk.i64_in _ (by omega)
        have hkt0 : (0 : Int) ≤ (k : Int) + (t : Int) := by omega
        have hktn : ((k : Int) + (t : Int)).toNat = k + t := by omega
        have wyt : IntKind.i64.wrap (at0 xs k + (t : Int)) = at0 xs k + (t : Int) := IntWalk.i64_in _ (by omega)
        by_cases hend : k + t < xs.length
        · have hct := hcx (k + t) hend
          have hktl : (k : Int) + (t : Int) < (xs.length : Int) := by omega
          by_cases heq : at0 xs (k + t) = at0 xs k + (t : Int)
          · have HTT : Hid (∀ j, j < t + 1 → at0 xs (k + j) = at0 xs k + (j : Int)) := fun j hj => by
              by_cases e : j = t
              · subst e; exact heq
              · exact HT.out j (by omega)
            have heb : (at0 xs (k + t) == at0 xs k + (t : Int)) = true := by simp [heq]
            clear hcx heq
            generalize at0 xs (k + t) = x at *
            generalize hy : at0 xs k = y at *
            go_wp2
            go_quiet (fail)
            go_wp2
            go_roundw
            case rel => exact ⟨t + 1, by omega, by omega, by go_num, HTT, owns_later ho2 (below_drewN' _ _), hb2.trans ((below_drewN' _ _).mono hb2.size)⟩
            case measure => simp [intOf]; omega
          · have hstop : k + t = xs.length ∨ at0 xs (k + t) ≠ at0 xs k + t := .inr heq
            have heb : (at0 xs (k + t) == at0 xs k + (t : Int)) = false := by simp [heq]
            clear heq
            go_wp2
            go_quiet (fail)
            go_wp2_with fail
            by_cases hst : k = El.runAt r q
            · have hq := El.pos_in HI.out HP.out hlt hst
              obtain ⟨e1, e2⟩ := El.pos_start HI.out HP.out hst hq
              have hmany := El.pos_many HI.out hq hst htl HT.out hstop
              have HNX := Lib.hid (El.pos_next HI.out hq hst)
              have HTK : Hid (pairsV (r.take (q + 1)) = pairsV (r.take q) ++ [.int .i64 (at0 xs k), .int .i64 (t : Int)]) := by
                show _ = _
                rw [List.take_succ_eq_append_getElem hq, pairsV_append, e1, hmany]; simp [pairsV]
              have hq30 : q ≤ 30 := by omega
              clear hmany hst
              rcases Nat.eq_zero_or_pos k with h0 | h0
              · subst h0
                rw [Nat.add_zero] at hck
                generalize hy : at0 xs 0 = y at *
                clear e1 e2 hq hcx
                go_quiet (fail)
                go_wp2_with (at_builtin; go_must (refine wpl_app _ _ _ (AppTo.refl (owns_later ho2 (below_drewN' _ _))) rfl rfl Tryd.underlying66 hi hz0 hz1 hz2 rfl (by decide) rfl rfl rfl (by simp [Value.oneCell']) (by decide) (by omega) hb2.size ?_); intro v3 w7 hA3 hne3 hst3)
                go_roundw
                case rel => exact ⟨0 + 1, q + 1, by omega, by go_num, HNX, by rw [HTK.out]; exact hA3.own, (hb2.trans ((below_drewN' _ _).mono hb2.size)).trans hst3⟩
                case measure => simp [intOf]; omega
              · have hz := e2 h0
                obtain ⟨j, rfl⟩ : ∃ j, k = j + 1 := ⟨k - 1, by omega⟩
                have hcj := hcx j (by omega)
                obtain ⟨hv1, hv2⟩ := HV.out j (by omega)
                have hji : (j : Int) < (xs.length : Int) := by omega
                have wj : IntKind.i64.wrap (((j + 1 : Nat) : Int) - 1) = (j : Int) := by rw [IntWalk.i64_in _ (by omega)]; omega
                have wj2 : IntKind.i64.wrap ((j : Int) + 1 - 1) = (j : Int) := by rw [IntWalk.i64_in _ (by omega)]; omega
                have wj3 : IntKind.i64.wrap (j : Int) = (j : Int) := IntWalk.i64_in _ (by omega)
                have hj0 : (((j + 1 : Nat) : Int) == 0) = false := by rw [beq_eq_false_iff_ne]; omega
                have hj0' : ((j : Int) + 1 == 0) = false := by rw [beq_eq_false_iff_ne]; omega
                rw [Nat.add_sub_cancel] at hz
                generalize hy : at0 xs (j + 1) = y at *
                generalize hzz : at0 xs j = z at *
                have wz : IntKind.i64.wrap (z + 1) = z + 1 := IntWalk.i64_in _ (by omega)
                clear hcx hzz
                have hzb : (z + 1 != y) = true := by simp; exact hz
                clear e1 e2 hq hz
                go_quiet (fail)
                go_wp2_with (at_builtin; go_must (refine wpl_app _ _ _ (AppTo.refl (owns_later ho2 (below_drewN' _ _))) rfl rfl Tryd.underlying66 hi hz0 hz1 hz2 rfl (by decide) rfl rfl rfl (by simp [Value.oneCell']) (by decide) (by omega) hb2.size ?_); intro v3 w7 hA3 hne3 hst3)
                go_roundw
                case rel => exact ⟨j + 1 + 1, q + 1, by omega, by go_num, HNX, by rw [HTK.out]; exact hA3.own, (hb2.trans ((below_drewN' _ _).mono hb2.size)).trans hst3⟩
                case measure => simp [intOf]; omega
            · obtain ⟨h0, hz⟩ := El.pos_inner HI.out HP.out hst
              have HNX := Lib.hid (El.pos_stay HP.out hst)
              clear hst
              obtain ⟨j, rfl⟩ : ∃ j, k = j + 1 := ⟨k - 1, by omega⟩
              have hcj := hcx j (by omega)
              obtain ⟨hv1, hv2⟩ := HV.out j (by omega)
              have hji : (j : Int) < (xs.length : Int) := by omega
              have wj : IntKind.i64.wrap (((j + 1 : Nat) : Int) - 1) = (j : Int) := by rw [IntWalk.i64_in _ (by omega)]; omega
              have wj2 : IntKind.i64.wrap ((j : Int) + 1 - 1) = (j : Int) := by rw [IntWalk.i64_in _ (by omega)]; omega
              have wj3 : IntKind.i64.wrap (j : Int) = (j : Int) := IntWalk.i64_in _ (by omega)
              have hj0 : (((j + 1 : Nat) : Int) == 0) = false := by rw [beq_eq_false_iff_ne]; omega
              have hj0' : ((j : Int) + 1 == 0) = false := by rw [beq_eq_false_iff_ne]; omega
              rw [Nat.add_sub_cancel] at hz
              generalize hy : at0 xs (j + 1) = y at *
              generalize hzz : at0 xs j = z at *
              have wz : IntKind.i64.wrap (z + 1) = z + 1 := IntWalk.i64_in _ (by omega)
              clear hcx hzz
              have hzb : (z + 1 != y) = false := by simp; exact hz
              clear hz
              go_quiet (fail)
              go_wp2
              go_roundw
              case rel => exact ⟨j + 1 + 1, q, by omega, by go_num, HNX, owns_later ho2 (below_drewN' _ _), hb2.trans ((below_drewN' _ _).mono hb2.size)⟩
              case measure => simp [intOf]; omega
        · have hktl : (xs.length : Int) ≤ (k : Int) + (t : Int) := by omega
          have hktd : decide ((k : Int) + (t : Int) < (xs.length : Int)) = false := by simp; omega
          have hstop : k + t = xs.length ∨ at0 xs (k + t) ≠ at0 xs k + t := .inl (by omega)
          go_wp2
          go_quiet (fail)
          go_wp2_with fail
          by_cases hst : k = El.runAt r q
          · have hq := El.pos_in HI.out HP.out hlt hst
            obtain ⟨e1, e2⟩ := El.pos_start HI.out HP.out hst hq
            have hmany := El.pos_many HI.out hq hst htl HT.out hstop
            have HNX := Lib.hid (El.pos_next HI.out hq hst)
            have HTK : Hid (pairsV (r.take (q + 1)) = pairsV (r.take q) ++ [.int .i64 (at0 xs k), .int .i64 (t : Int)]) := by
              show _ = _
              rw [List.take_succ_eq_append_getElem hq, pairsV_append, e1, hmany]; simp [pairsV]
            have hq30 : q ≤ 30 := by omega
            clear hmany hst
            rcases Nat.eq_zero_or_pos k with h0 | h0
            · subst h0
              rw [Nat.add_zero] at hck
              generalize hy : at0 xs 0 = y at *
              clear e1 e2 hq hcx
              go_quiet (fail)
              go_wp2_with (at_builtin; go_must (refine wpl_app _ _ _ (AppTo.refl (owns_later ho2 (below_drewN' _ _))) rfl rfl Tryd.underlying66 hi hz0 hz1 hz2 rfl (by decide) rfl rfl rfl (by simp [Value.oneCell']) (by decide) (by omega) hb2.size ?_); intro v3 w7 hA3 hne3 hst3)
              go_roundw
              case rel => exact ⟨0 + 1, q + 1, by omega, by go_num, HNX, by rw [HTK.out]; exact hA3.own, (hb2.trans ((below_drewN' _ _).mono hb2.size)).trans hst3⟩
              case measure => simp [intOf]; omega
            · have hz := e2 h0
              obtain ⟨j, rfl⟩ : ∃ j, k = j + 1 := ⟨k - 1, by omega⟩
              have hcj := hcx j (by omega)
              obtain ⟨hv1, hv2⟩ := HV.out j (by omega)
              have hji : (j : Int) < (xs.length : Int) := by omega
              have wj : IntKind.i64.wrap (((j + 1 : Nat) : Int) - 1) = (j : Int) := by rw [IntWalk.i64_in _ (by omega)]; omega
              have wj2 : IntKind.i64.wrap ((j : Int) + 1 - 1) = (j : Int) := by rw [IntWalk.i64_in _ (by omega)]; omega
              have wj3 : IntKind.i64.wrap (j : Int) = (j : Int) := IntWalk.i64_in _ (by omega)
              have hj0 : (((j + 1 : Nat) : Int) == 0) = false := by rw [beq_eq_false_iff_ne]; omega
              have hj0' : ((j : Int) + 1 == 0) = false := by rw [beq_eq_false_iff_ne]; omega
              rw [Nat.add_sub_cancel] at hz
              generalize hy : at0 xs (j + 1) = y at *
              generalize hzz : at0 xs j = z at *
              have wz : IntKind.i64.wrap (z + 1) = z + 1 := IntWalk.i64_in _ (by omega)
              clear hcx hzz
              have hzb : (z + 1 != y) = true := by simp; exact hz
              clear e1 e2 hq hz
              go_quiet (fail)
              go_wp2_with (at_builtin; go_must (refine wpl_app _ _ _ (AppTo.refl (owns_later ho2 (below_drewN' _ _))) rfl rfl Tryd.underlying66 hi hz0 hz1 hz2 rfl (by decide) rfl rfl rfl (by simp [Value.oneCell']) (by decide) (by omega) hb2.size ?_); intro v3 w7 hA3 hne3 hst3)
              go_roundw
              case rel => exact ⟨j + 1 + 1, q + 1, by omega, by go_num, HNX, by rw [HTK.out]; exact hA3.own, (hb2.trans ((below_drewN' _ _).mono hb2.size)).trans hst3⟩
              case measure => simp [intOf]; omega
          · obtain ⟨h0, hz⟩ := El.pos_inner HI.out HP.out hst
            have HNX := Lib.hid (El.pos_stay HP.out hst)
            clear hst
            obtain ⟨j, rfl⟩ : ∃ j, k = j + 1 := ⟨k - 1, by omega⟩
            have hcj := hcx j (by omega)
            obtain ⟨hv1, hv2⟩ := HV.out j (by omega)
            have hji : (j : Int) < (xs.length : Int) := by omega
            have wj : IntKind.i64.wrap (((j + 1 : Nat) : Int) - 1) = (j : Int) := by rw [IntWalk.i64_in _ (by omega)]; omega
            have wj2 : IntKind.i64.wrap ((j : Int) + 1 - 1) = (j : Int) := by rw [IntWalk.i64_in _ (by omega)]; omega
            have wj3 : IntKind.i64.wrap (j : Int) = (j : Int) := IntWalk.i64_in _ (by omega)
            have hj0 : (((j + 1 : Nat) : Int) == 0) = false := by rw [beq_eq_false_iff_ne]; omega
            have hj0' : ((j : Int) + 1 == 0) = false := by rw [beq_eq_false_iff_ne]; omega
            rw [Nat.add_sub_cancel] at hz
            generalize hy : at0 xs (j + 1) = y at *
            generalize hzz : at0 xs j = z at *
            have wz : IntKind.i64.wrap (z + 1) = z + 1 := IntWalk.i64_in _ (by omega)
            clear hcx hzz
            have hzb : (z + 1 != y) = false := by simp; exact hz
            clear hz
            go_quiet (fail)
            go_wp2
            go_roundw
            case rel => exact ⟨j + 1 + 1, q, by omega, by go_num, HNX, owns_later ho2 (below_drewN' _ _), hb2.trans ((below_drewN' _ _).mono hb2.size)⟩
            case measure => simp [intOf]; omega
    · have hke : k = xs.length := by omega
      subst hke
      have hqe := El.pos_end HI.out HP.out
      subst hqe
      rw [List.take_length] at ho
      have hw4 := hw3.later hbr
      have hB14 := below_c hB13 hbr
      have hrr := rd_of_owns ho
      obtain ⟨ar, cr, rfl⟩ := owns_slice ho
      clear ho hw3 hbr hB13
      go_wp2_with fail
      refine (gapsWrite_ok _ xs _ (hr.later hB14) HG.out).mono ?_
      rintro e w5 ⟨a5, c5, rfl, ho5, hB5⟩
      have hB15 := below_c hB14 hB5
      have hrr5 := hrr.later hB5
      have hw5 := hw4.later hB5
      have hm5 := rd_of_owns ho5
      clear ho5 hB5 hw4 hrr hB14
      go_wp2_with fail
      refine (errorNil 0 _ (hh.later hB15)).mono ?_
      rintro e w6 ⟨rfl, hB6⟩
      rw [decide_eq_true rfl]
      have hB16 := below_c hB15 hB6
      have hrr6 := hrr5.later hB6
      have hw6 := hw5.later hB6
      have hm6 := hm5.later hB6
      clear hB6 hB15 hrr5 hw5 hm5
      go_wp2_with fail
      refine (ints_b _ _ _ _ _ hm6 hw6).mono ?_
      rintro e w7 ⟨rfl, hB7⟩
      rw [decide_eq_true rfl]
      have hB17 := below_c hB16 hB7
      have hrr7 := hrr6.later hB7
      clear hB7 hB16 hrr6 hw6 hm6
      go_wp2_with fail
      refine (K3 _ hB17).mono ?_
      rintro e w8 ⟨u, rfl, ho8, hB8⟩
      have hB18 := below_c hB17 hB8
      have hrr8 := hrr7.later hB8
      have hk8 := rd_of_owns ho8
      obtain ⟨ak, ck, rfl⟩ := owns_slice ho8
      clear ho8 hB8 hB17 hrr7
      have hlb : ((r.length : Int) == (r.length : Int)) = true := by simp
      go_wp2_with fail
      go_loopw [15, 16] (fun s i wr => s = .bool true ∧ ∃ k : Nat, k ≤ r.length ∧ i = .int .i64 k ∧ Below w8.heap.size w8 wr) (fun _ i _ => r.length - (intOf i).toNat)
      case atStart => exact ⟨by first | rfl | simp, 0, by omega, rfl, Below.refl _ _⟩
      case round =>
        obtain ⟨rfl, k, hk, rfl, hbr⟩ := hrel
        by_cases hlt : k < r.length
        · have hki : (k : Int) < (r.length : Int) := by omega
          obtain ⟨b1, off1, rfl, _, _, hx1⟩ := pairs_in (hk8.later hbr) rfl (by omega)
          obtain ⟨b2, off2, rfl, _, _, hx2⟩ := pairs_in (hrr8.later hbr) rfl (by omega)
          have hp : r[k]? = some r[k] := by simp [hlt]
          obtain ⟨g1, g2⟩ := hx1 k r[k] hp
          obtain ⟨g3, g4⟩ := hx2 k r[k] hp
          generalize r[k] = p at *
          have heq := eq_pair p.1 p.2
          clear hx1 hx2
          go_wp2
          go_quiet (fail)
          go_wp2
          go_roundw
          case rel => exact ⟨by first | rfl | simp, k + 1, by omega, by go_num, hbr.trans ((below_drewN' _ _).mono hbr.size)⟩
          case measure => simp [intOf]; omega
        · have hke : (r.length : Int) ≤ (k : Int) := by omega
          have hB19 := below_c hB18 hbr
          clear hbr hB18
          go_wp2_with fail
          refine (errorNil 0 _ (hh.later hB19)).mono ?_
          rintro e w9 ⟨rfl, hB9⟩
          rw [decide_eq_true rfl]
          have hB110 := below_c hB19 hB9
          clear hB9 hB19
          go_wp2_with fail
          refine (refReadGaps_any _ ys _ (hr'.later hB110)).mono ?_
          rintro e wa ⟨aa, ca, rfl, hoa, hBa⟩
          have hba := below_c hB110 hBa
          have hra := rd_of_owns hoa
          go_wp2_with fail
          refine (gapsRead_both _ ys _ (hr'.later hba)).mono ?_
          rintro e wb ⟨ab, cb, rfl, hob, hBb⟩
          have hbb := below_c hba hBb
          have hra2 := hra.later hBb
          have hrb := rd_of_owns hob
          clear hBb hBa hoa hob hra
          go_wp2_with fail
          refine (errorIs _ _ _ (hh.later hbb)).mono ?_
          rintro e wE ⟨rfl, hBE⟩
          first | rw [decide_eq_true rfl] | skip
          have hbE := below_c hbb hBE
          have hRL := Rd.later hrb hBE
          have hRW := Rd.later hra2 hBE
          clear hBE
          go_wp2_with fail
          refine (ints_b _ _ _ _ _ hRL hRW).mono ?_
          rintro e wI ⟨rfl, hBI⟩
          rw [decide_eq_true rfl]
          have hbz := below_c hbE hBI
          clear hbE hBI hRL hRW
          go_wp2
          go_ret
          exact ⟨rfl, hbz⟩

theorem gapsSays_any {w : World} (hh : Handle w) {v v' : Value} {xs ys : List Int} (hr : Rd w v xs.length (ints xs)) (hr' : Rd w v' ys.length (ints ys)) :
    Calls Tryd.prog 8 #[v, v'] w fun e w' => e = .returned (.bool true) ∧ Below w.heap.size w w' := by
  by_cases he : gapsErr xs = 0
  · exact gapsSays_ok hh hr hr' (El.gapsOk_of he)
  · exact gapsSays_bad hh hr hr' he

end Go.Proofs.YtlfinlfmlnclhaaDoor
