/- What R.Trail returns where there is a way: the walk. Conditions: in each statement. -/
import Derived.Test.YtoomdnbbbaooeaaDoorRefLined
import Derived.Test.YtoomdnbbbaooeaaDoorTrailPos
import Derived.Test.YtoomdnbbbaooeaaDoorTrailMore
namespace Go.Proofs.YtoomdnbbbaooeaaDoor
open Go.RowKit Gr

theorem rd_kept {w w' : World} {v : Value} {n : Nat} {cs : List Value} {row : Option Nat} (h : Rd w v n cs) (hg : w.grownBy w' row) (hr : ∀ g, row = some g → v.ownBlock ≠ some g) : Rd w' v n cs := by
  obtain ⟨a, c, rfl, h2, h3, h4, h5⟩ := h
  refine ⟨a, c, rfl, h2, h3, h4, fun hn => ?_⟩
  obtain ⟨b, off, rfl, hb, hc⟩ := h5 hn
  refine ⟨b, off, rfl, Nat.lt_of_lt_of_le hb hg.size, fun j u hu => ?_⟩
  rw [← hc j u hu]
  have := hg.block b hb (fun e => hr b e.symm rfl)
  simp [World.cell?, this]

-- line k of what is left ends at a; b' is its other end

-- from the first point on

open Classical in
set_option maxRecDepth 100000 in
set_option maxHeartbeats 40000000 in
theorem refTrail_ok (n : Nat) (v : Value) (ls : List Ln) (w : World) (hr : LinesRd w v ls) (hg : GoodG n ls) {a0 t : Nat} (hw : GoodWay n ls a0 t) :
    Calls Tryd.prog 12 #[.int .i64 (n : Int), v] w fun e w' => ∃ a c, e = .returned (.tuple #[.slice a (ls.length + 1) c, .bool true]) ∧ Rd w' (.slice a (ls.length + 1) c) (ls.length + 1) (nats (wayUp n ls a0 ls.length)) ∧ Below w.heap.size w w' := by
  obtain ⟨i0, hi, hz0, hz1, hz2⟩ := info_parts info_int
  have hne := hw.some
  have he := hw.few
  have ha := hw.lt
  have HINV := Lib.hid (go_inv hg hw.par hw.tlt hw.lt hw.join)
  have HG := Lib.hid hg
  have HJ := Lib.hid hw.join
  have HT := Lib.hid hw.tlt
  have HS := Lib.hid hw.start
  have hn1 := hg.1
  have hn8 := hg.2.1
  have hl24 := hg.2.2.1
  have KE := refEnds_ok n v ls w hr hg
  clear hg hw
  obtain ⟨av, cv, rfl, _⟩ := id hr
  have hl0 : ((ls.length : Int) == 0) = false := by rw [beq_eq_false_iff_ne]; omega
  go_enter Tryd.func12, Tryd.ntmps12
  go_wp2_with fail
  refine KE.mono ?_
  rintro e w1 ⟨ae, ce, rfl, oe, hB1⟩
  have re := rd_of_owns oe
  have HSS : Hid (startP n ls = ((endsUp ls n).map fun (i : Nat) => (i : Int)).head?.getD (minPt n ls)) := rfl
  generalize endsUp ls n = Q at *
  have hd2 : decide ((Q.length : Int) > 2) = false := by simp; omega
  have hle := he
  clear oe he KE
  go_wp2_with fail
  go_loopw [7, 8] (fun aa kk wr => ∃ k : Nat, k ≤ ls.length ∧ kk = .int .i64 k ∧ aa = .int .i64 (minPt n (ls.take k)) ∧ Below w1.heap.size w1 wr) (fun _ kk _ => ls.length - (intOf kk).toNat)
  case atStart => exact ⟨0, by omega, rfl, rfl, Below.refl _ _⟩
  case round =>
    obtain ⟨k, hk, rfl, rfl, hB⟩ := hrel
    by_cases hlt : k < ls.length
    · have hki : (k : Int) < (ls.length : Int) := by omega
      obtain ⟨_, _, e, _, _, _, hcell⟩ := hr.later (below_c hB1 hB)
      cases e
      obtain ⟨bv, ov, rfl, hbv, hcx⟩ := hcell (by omega)
      obtain ⟨g1, g2⟩ := lines_at hcx hlt
      have HM : Hid (minPt n (ls.take (k + 1)) = min3 (minPt n (ls.take k)) ls[k]) := by
        show _ = _
        unfold minPt
        rw [List.take_succ_eq_append_getElem hlt, List.foldl_append]; rfl
      clear hcx hcell
      generalize minPt n (ls.take k) = m at *
      generalize ls[k] = l at *
      obtain ⟨x, y⟩ := l
      simp only at g1 g2
      by_cases h1 : x < m
      · by_cases h2 : y < x
        · have HM2 : Hid (minPt n (ls.take (k + 1)) = y) := by show _ = _; rw [HM.out]; unfold min3; simp only; rw [if_pos h1, if_pos h2]
          go_wp2
          go_roundw
          case rel => exact ⟨k + 1, by omega, by go_num, by rw [HM2.out], hB⟩
          case measure => simp [intOf]; omega
        · have HM2 : Hid (minPt n (ls.take (k + 1)) = x) := by show _ = _; rw [HM.out]; unfold min3; simp only; rw [if_pos h1, if_neg h2]
          go_wp2
          go_roundw
          case rel => exact ⟨k + 1, by omega, by go_num, by rw [HM2.out], hB⟩
          case measure => simp [intOf]; omega
      · by_cases h2 : y < m
        · have HM2 : Hid (minPt n (ls.take (k + 1)) = y) := by show _ = _; rw [HM.out]; unfold min3; simp only; rw [if_neg h1, if_pos h2]
          go_wp2
          go_roundw
          case rel => exact ⟨k + 1, by omega, by go_num, by rw [HM2.out], hB⟩
          case measure => simp [intOf]; omega
        · have HM2 : Hid (minPt n (ls.take (k + 1)) = m) := by show _ = _; rw [HM.out]; unfold min3; simp only; rw [if_neg h1, if_neg h2]
          go_wp2
          go_roundw
          case rel => exact ⟨k + 1, by omega, by go_num, by rw [HM2.out], hB⟩
          case measure => simp [intOf]; omega
    · have e : ls.take k = ls := List.take_of_length_le (by omega)
      rw [e]
      clear e
      obtain ⟨wa, hwa⟩ : ∃ wa, wa = wr := ⟨wr, rfl⟩
      subst hwa
      have hB0a := below_c hB1 hB
      cases Q with
      | nil =>
        have e0 : minPt n ls = (a0 : Int) := by rw [← HS.out, HSS.out]; rfl
        rw [e0]
        clear e0
        go_wp2_with fail
        refine (refLined_ok n _ ls a0 wa (hr.later hB0a) HG.out ha).mono ?_
        rintro e w5 ⟨b, rfl, hb, hB5⟩
        have hbt : b = true := hb.2 HJ.out
        subst hbt
        have hB05 := below_c hB0a hB5
        have o5 : (w5.alloc (.cells #[.int .i64 (a0 : Int)] 3)).ownsRow w5.heap.size 3 1 (.slice (some ⟨w5.heap.size, 0, none⟩) 1 1) 1 (nats (wayUp n ls a0 0)) := World.ownsRow_lit _ _ 1 (Nat.le_refl _) (by decide) rfl
        have hb5 := below_alloc' w5 (.cells #[.int .i64 (a0 : Int)] 3)
        have r5 := (hr.later hB05).later hb5
        have hd5 : ∀ g, (Value.slice (some ⟨w5.heap.size, 0, none⟩) 1 1).ownBlock = some g → (Value.slice av ls.length cv).ownBlock ≠ some g := by
          intro g hg1 hg2
          obtain ⟨_, _, e, _, _, _, hcx⟩ := hr.later hB05
          cases e
          obtain ⟨bv, ov, rfl, hbv, _⟩ := hcx hne
          simp [Value.ownBlock] at hg1 hg2
          omega
        have e0 : leftL ls (goSt n ls a0 0).1 = ls := leftL_none ls
        clear hb
        go_wp2_with fail
        go_loopw [1, 7, 9] (fun lv aa oo wr => ∃ j : Nat, j ≤ ls.length ∧ aa = .int .i64 (((goSt n ls a0 j).2 : Nat) : Int) ∧ LinesRd wr lv (leftL ls (goSt n ls a0 j).1) ∧ wr.ownsRow w5.heap.size 3 1 oo (j + 1) (nats (wayUp n ls a0 j)) ∧ (∀ g, oo.ownBlock = some g → lv.ownBlock ≠ some g) ∧ Below w5.heap.size w5 wr) (fun lv _ _ _ => lenOf lv)
        case atStart => exact ⟨0, by omega, rfl, by rw [e0]; exact r5, o5, hd5, hb5⟩
        case round =>
          clear o5 r5 hd5 hb5 e0
          obtain ⟨j, hj, rfl, hrL, ho, hdis, hB⟩ := hrel
          obtain ⟨ao, co, rfl⟩ := owns_slice ho
          have hinv := HINV.out j hj
          obtain ⟨al, cl, rfl, _⟩ := id hrL
          have hLlen := hinv.left
          by_cases hlj : j < ls.length
          · obtain ⟨i, b, hpk, hcg, hmin⟩ := hinv.pick HG.out HT.out hlj
            obtain ⟨q, hpq, herase⟩ := pick_same HG.out hinv.len hcg hmin
            have HNX : Hid (goSt n ls a0 (j + 1) = ((goSt n ls a0 j).1.set i true, b)) := by show _ = _; rw [goSt, hpk]; simp
            have HWX := Lib.hid (wayUp_succ n ls a0 j)
            have han := hinv.lt
            have HGL := Lib.hid (leftL_good (goSt n ls a0 j).1 HG.out)
            have HER := Lib.hid herase
            have HPQ := Lib.hid hpq
            have HLN : Hid (((leftL ls (goSt n ls a0 j).1).eraseIdx q).length = ls.length - (j + 1) ∧ (leftL ls (goSt n ls a0 j).1).length = ls.length - j) := by
              have h2 := (HINV.out (j + 1) (by omega)).left
              rw [HNX.out] at h2
              exact ⟨by rw [herase]; simp only at h2; omega, by omega⟩
            generalize hLe : leftL ls (goSt n ls a0 j).1 = L at *
            generalize (goSt n ls a0 j).2 = a at *
            generalize wayUp n ls a0 j = Y at *
            have hL0 : 0 < L.length := by omega
            have hL24 : L.length ≤ 24 := by omega
            have hLd : decide ((L.length : Int) > 0) = true := by simp; exact hL0
            obtain ⟨_, _, e, _, _, _, hcx⟩ := id hrL
            cases e
            obtain ⟨bv, ov, rfl, hbv, hcell0⟩ := hcx hL0
            obtain ⟨wi, hwi⟩ : ∃ wi, wi = wr := ⟨wr, rfl⟩
            subst hwi
            have hU0 : (List.replicate L.length false).length = L.length := by simp
            clear hpk hcg hmin hpq herase hLe hcx hcell0 hinv hLlen
            go_wp2_with fail
            go_loopw [10, 11, 12] (fun bb nn kk wx => ∃ k : Nat, k ≤ L.length ∧ kk = .int .i64 k ∧ bb = .int .i64 (pickUp n L (List.replicate L.length false) a k).1 ∧ nn = .int .i64 (pickUp n L (List.replicate L.length false) a k).2 ∧ Below wi.heap.size wi wx) (fun _ _ kk _ => L.length - (intOf kk).toNat)
            case atStart => exact ⟨0, by omega, rfl, rfl, rfl, Below.refl _ _⟩
            case round =>
              obtain ⟨k, hk, rfl, rfl, rfl, hBi⟩ := hrel
              by_cases hlk : k < L.length
              · have hki : (k : Int) < (L.length : Int) := by omega
                obtain ⟨_, _, e, _, _, _, hcell⟩ := hrL.later hBi
                cases e
                obtain ⟨bv', ov', e', hbv', hcx⟩ := hcell (by omega)
                cases e'
                obtain ⟨g1, g2⟩ := lines_at hcx hlk
                obtain ⟨x, y, hxy, h1, h2, h3, h4⟩ := good_line HGL.out (List.getElem_mem hlk)
                rw [hxy] at g1 g2
                simp only at g1 g2
                have hget : L[k]?.getD (0, 0) = ((x : Int), (y : Int)) := by rw [List.getElem?_eq_getElem hlk, hxy]; rfl
                have HST : Hid (pickUp n L (List.replicate L.length false) a (k + 1) = pickStep n L (List.replicate L.length false) a (pickUp n L (List.replicate L.length false) a k) k) := pickUp_succ n L _ a k
                have hLO := left_one L hlk
                have HGE : Hid (GoodG n (L.eraseIdx k)) := by
                  have := leftL_good ((List.replicate L.length false).set k true) HGL.out
                  rwa [hLO] at this
                have hub : (List.replicate L.length false)[k]?.getD false = false := by simp [hlk]
                generalize pickUp n L (List.replicate L.length false) a k = bn at *
                obtain ⟨bb, nx⟩ := bn
                clear hcx hcell
                by_cases hinc : x = a ∨ y = a
                · obtain ⟨b', hb', hbn'⟩ : ∃ b' : Nat, (x : Int) + y - a = (b' : Int) ∧ b' < n := by
                    rcases hinc with e | e
                    · exact ⟨y, by omega, h4⟩
                    · exact ⟨x, by omega, h3⟩
                  have HSTEP : Hid (pickUp n L (List.replicate L.length false) a (k + 1) = if (b' : Int) < nx ∧ Joined n (L.eraseIdx k) b' then ((k : Int), (b' : Int)) else (bb, nx)) := by
                    show _ = _
                    rw [HST.out]; unfold pickStep
                    rw [if_neg (by rw [hub]; simp), hget]
                    simp only
                    rw [if_neg (by omega), hb', hLO]
                    simp
                  have HYES : Hid ((b' : Int) < nx ∧ Joined n (L.eraseIdx k) b' → pickUp n L (List.replicate L.length false) a (k + 1) = ((k : Int), (b' : Int))) := fun h => by rw [HSTEP.out, if_pos h]
                  have HNO : Hid (¬ ((b' : Int) < nx ∧ Joined n (L.eraseIdx k) b') → pickUp n L (List.replicate L.length false) a (k + 1) = (bb, nx)) := fun h => by rw [HSTEP.out, if_neg h]
                  have hbd : decide ((b' : Int) ≥ 0) = true := by simp
                  clear hLO hub
                  by_cases hxa : x = a
                  · have hxb : ((x : Int) == (a : Int)) = true := by simp [hxa]
                    have hyb : ((y : Int) == (a : Int)) = false := by rw [beq_eq_false_iff_ne]; omega
                    obtain rfl : b' = y := by omega
                    clear hinc hxa hb'
                    by_cases hlt2 : (b' : Int) < nx
                    · have KB := refBut_ok (.slice (some ⟨bv, ov, none⟩) L.length cl) L k _ (hrL.later hBi) hL24
                      go_wp2_with fail
                      refine KB.mono ?_
                      rintro e w6 ⟨a6, c6, rfl, o6, hB6⟩
                      have KJ := refLined_ok n (.slice a6 (L.eraseIdx k).length c6) (L.eraseIdx k) b' w6 (rd_of_owns o6) HGE.out hbn'
                      have hB06 := below_c hBi hB6
                      clear o6 KB
                      go_wp2_with fail
                      refine KJ.mono ?_
                      rintro e w7 ⟨bj, rfl, hbj, hB7⟩
                      have hB07 := below_c hB06 hB7
                      have HBJ := Lib.hid hbj
                      clear hbj KJ
                      cases bj with
                      | true =>
                        have HP2 := Lib.hid (HYES.out ⟨hlt2, HBJ.out.1 rfl⟩)
                        go_wp2
                        go_roundw
                        case rel => exact ⟨k + 1, by omega, by go_num, by rw [HP2.out], by rw [HP2.out], hB07⟩
                        case measure => simp [intOf]; omega
                      | false =>
                        have HP2 := Lib.hid (HNO.out (fun h => by have := HBJ.out.2 h.2; cases this))
                        go_wp2
                        go_roundw
                        case rel => exact ⟨k + 1, by omega, by go_num, by rw [HP2.out], by rw [HP2.out], hB07⟩
                        case measure => simp [intOf]; omega
                    · have HP2 := Lib.hid (HNO.out (fun h => hlt2 h.1))
                      go_wp2
                      go_roundw
                      case rel => exact ⟨k + 1, by omega, by go_num, by rw [HP2.out], by rw [HP2.out], hBi⟩
                      case measure => simp [intOf]; omega
                  · have hxb : ((x : Int) == (a : Int)) = false := by rw [beq_eq_false_iff_ne]; omega
                    have hyb : ((y : Int) == (a : Int)) = true := by simp; omega
                    obtain rfl : b' = x := by omega
                    clear hinc hxa hb'
                    by_cases hlt2 : (b' : Int) < nx
                    · have KB := refBut_ok (.slice (some ⟨bv, ov, none⟩) L.length cl) L k _ (hrL.later hBi) hL24
                      go_wp2_with fail
                      refine KB.mono ?_
                      rintro e w6 ⟨a6, c6, rfl, o6, hB6⟩
                      have KJ := refLined_ok n (.slice a6 (L.eraseIdx k).length c6) (L.eraseIdx k) b' w6 (rd_of_owns o6) HGE.out hbn'
                      have hB06 := below_c hBi hB6
                      clear o6 KB
                      go_wp2_with fail
                      refine KJ.mono ?_
                      rintro e w7 ⟨bj, rfl, hbj, hB7⟩
                      have hB07 := below_c hB06 hB7
                      have HBJ := Lib.hid hbj
                      clear hbj KJ
                      cases bj with
                      | true =>
                        have HP2 := Lib.hid (HYES.out ⟨hlt2, HBJ.out.1 rfl⟩)
                        go_wp2
                        go_roundw
                        case rel => exact ⟨k + 1, by omega, by go_num, by rw [HP2.out], by rw [HP2.out], hB07⟩
                        case measure => simp [intOf]; omega
                      | false =>
                        have HP2 := Lib.hid (HNO.out (fun h => by have := HBJ.out.2 h.2; cases this))
                        go_wp2
                        go_roundw
                        case rel => exact ⟨k + 1, by omega, by go_num, by rw [HP2.out], by rw [HP2.out], hB07⟩
                        case measure => simp [intOf]; omega
                    · have HP2 := Lib.hid (HNO.out (fun h => hlt2 h.1))
                      go_wp2
                      go_roundw
                      case rel => exact ⟨k + 1, by omega, by go_num, by rw [HP2.out], by rw [HP2.out], hBi⟩
                      case measure => simp [intOf]; omega
                · have hxb : ((x : Int) == (a : Int)) = false := by rw [beq_eq_false_iff_ne]; omega
                  have hyb : ((y : Int) == (a : Int)) = false := by rw [beq_eq_false_iff_ne]; omega
                  have HP2 : Hid (pickUp n L (List.replicate L.length false) a (k + 1) = (bb, nx)) := by
                    show _ = _
                    rw [HST.out]; unfold pickStep
                    rw [if_neg (by rw [hub]; simp), hget, if_pos (by simp only; omega)]
                  clear hLO hub hinc
                  go_wp2
                  go_roundw
                  case rel => exact ⟨k + 1, by omega, by go_num, by rw [HP2.out], by rw [HP2.out], hBi⟩
                  case measure => simp [intOf]; omega
              · obtain rfl : k = L.length := by omega
                rw [HPQ.out]
                have ho1 := owns_later ho hBi
                have KB := refBut_ok (.slice (some ⟨bv, ov, none⟩) L.length cl) L q _ (hrL.later hBi) hL24
                have hB05i := below_c hB hBi
                go_wp2_with fail
                refine KB.mono ?_
                rintro e w6 ⟨a6, c6, rfl, o6, hB6⟩
                have ho6 := owns_later ho1 hB6
                have hd6 : ∀ g, (Value.slice ao (j + 1) co).ownBlock = some g → (Value.slice a6 (L.eraseIdx q).length c6).ownBlock ≠ some g := fun g h1 h2 => by
                  have := (ho1.lt g h1).2
                  have := (o6.lt g h2).1
                  omega
                have hB56 := below_c hB05i hB6
                have hs56 := hB56.size
                clear KB ho1 ho
                go_wp2_with (at_builtin; go_must (refine wpl_app _ _ _ (AppTo.refl ho6) rfl rfl Tryd.underlying24 hi hz0 hz1 hz2 rfl (by decide) rfl rfl rfl (by simp [Value.oneCell']) (by decide) (by omega) (by omega) ?_); intro v8 w8 hA8 hne8 hst8)
                go_roundw
                case rel =>
                  refine ⟨j + 1, by omega, by rw [HNX.out], ?_, ?_, ?_, hA8.below ho6 hB56 (Nat.le_refl _) (by omega)⟩
                  · rw [HNX.out, ← HER.out]
                    exact rd_kept (rd_of_owns o6) hA8.grown (fun g hg => hd6 g hg)
                  · rw [HWX.out, HNX.out]
                    simpa [nats] using hA8.own
                  · intro g h1 h2
                    rcases hA8.at_ with e | e
                    · rw [e] at h1; exact hd6 g h1 h2
                    · have := e g h1
                      have := (o6.lt g h2).2
                      omega
                case measure => simp [lenOf]; have := HLN.out.1; have := HLN.out.2; omega
          · obtain rfl : j = ls.length := by omega
            have hL0 : (leftL ls (goSt n ls a0 ls.length).1).length = 0 := by omega
            generalize leftL ls (goSt n ls a0 ls.length).1 = L at *
            obtain rfl : L = [] := List.eq_nil_of_length_eq_zero hL0
            have e00 : ([] : List Ln).length = 0 := rfl
            rw [e00] at *
            clear hL0 hLlen e00
            go_wp2
            go_ret2
            exact ⟨ao, co, rfl, rd_of_owns ho, below_c hB05 hB⟩
      | cons p q =>
        have e0 : a0 = p := by
          have h := HSS.out
          rw [HS.out] at h
          simp only [List.map_cons, List.head?_cons, Option.getD_some] at h
          omega
        subst e0
        obtain ⟨_, _, e, _, _, _, hce⟩ := re.later hB
        cases e
        obtain ⟨be, oe, rfl, hbe, hcx⟩ := hce (by simp)
        have cp := hcx 0 (.int .i64 (a0 : Int)) rfl
        have e0 : oe + 0 = oe := rfl
        rw [e0] at cp
        have hqp : decide (((q.length : Int) + 1) > 0) = true := by first | (simp; omega) | simp
        have hqi : (0 : Int) < (q.length : Int) + 1 := by omega
        clear hcx hce re e0
        simp only [List.length_cons] at hd2 hle ⊢
        go_wp2_with fail
        refine (refLined_ok n _ ls a0 wa (hr.later hB0a) HG.out ha).mono ?_
        rintro e w5 ⟨b, rfl, hb, hB5⟩
        have hbt : b = true := hb.2 HJ.out
        subst hbt
        have hB05 := below_c hB0a hB5
        have o5 : (w5.alloc (.cells #[.int .i64 (a0 : Int)] 3)).ownsRow w5.heap.size 3 1 (.slice (some ⟨w5.heap.size, 0, none⟩) 1 1) 1 (nats (wayUp n ls a0 0)) := World.ownsRow_lit _ _ 1 (Nat.le_refl _) (by decide) rfl
        have hb5 := below_alloc' w5 (.cells #[.int .i64 (a0 : Int)] 3)
        have r5 := (hr.later hB05).later hb5
        have hd5 : ∀ g, (Value.slice (some ⟨w5.heap.size, 0, none⟩) 1 1).ownBlock = some g → (Value.slice av ls.length cv).ownBlock ≠ some g := by
          intro g hg1 hg2
          obtain ⟨_, _, e, _, _, _, hcx⟩ := hr.later hB05
          cases e
          obtain ⟨bv, ov, rfl, hbv, _⟩ := hcx hne
          simp [Value.ownBlock] at hg1 hg2
          omega
        have e0 : leftL ls (goSt n ls a0 0).1 = ls := leftL_none ls
        clear hb
        go_wp2_with fail
        go_loopw [1, 7, 9] (fun lv aa oo wr => ∃ j : Nat, j ≤ ls.length ∧ aa = .int .i64 (((goSt n ls a0 j).2 : Nat) : Int) ∧ LinesRd wr lv (leftL ls (goSt n ls a0 j).1) ∧ wr.ownsRow w5.heap.size 3 1 oo (j + 1) (nats (wayUp n ls a0 j)) ∧ (∀ g, oo.ownBlock = some g → lv.ownBlock ≠ some g) ∧ Below w5.heap.size w5 wr) (fun lv _ _ _ => lenOf lv)
        case atStart => exact ⟨0, by omega, rfl, by rw [e0]; exact r5, o5, hd5, hb5⟩
        case round =>
          clear o5 r5 hd5 hb5 e0
          obtain ⟨j, hj, rfl, hrL, ho, hdis, hB⟩ := hrel
          obtain ⟨ao, co, rfl⟩ := owns_slice ho
          have hinv := HINV.out j hj
          obtain ⟨al, cl, rfl, _⟩ := id hrL
          have hLlen := hinv.left
          by_cases hlj : j < ls.length
          · obtain ⟨i, b, hpk, hcg, hmin⟩ := hinv.pick HG.out HT.out hlj
            obtain ⟨q, hpq, herase⟩ := pick_same HG.out hinv.len hcg hmin
            have HNX : Hid (goSt n ls a0 (j + 1) = ((goSt n ls a0 j).1.set i true, b)) := by show _ = _; rw [goSt, hpk]; simp
            have HWX := Lib.hid (wayUp_succ n ls a0 j)
            have han := hinv.lt
            have HGL := Lib.hid (leftL_good (goSt n ls a0 j).1 HG.out)
            have HER := Lib.hid herase
            have HPQ := Lib.hid hpq
            have HLN : Hid (((leftL ls (goSt n ls a0 j).1).eraseIdx q).length = ls.length - (j + 1) ∧ (leftL ls (goSt n ls a0 j).1).length = ls.length - j) := by
              have h2 := (HINV.out (j + 1) (by omega)).left
              rw [HNX.out] at h2
              exact ⟨by rw [herase]; simp only at h2; omega, by omega⟩
            generalize hLe : leftL ls (goSt n ls a0 j).1 = L at *
            generalize (goSt n ls a0 j).2 = a at *
            generalize wayUp n ls a0 j = Y at *
            have hL0 : 0 < L.length := by omega
            have hL24 : L.length ≤ 24 := by omega
            have hLd : decide ((L.length : Int) > 0) = true := by simp; exact hL0
            obtain ⟨_, _, e, _, _, _, hcx⟩ := id hrL
            cases e
            obtain ⟨bv, ov, rfl, hbv, hcell0⟩ := hcx hL0
            obtain ⟨wi, hwi⟩ : ∃ wi, wi = wr := ⟨wr, rfl⟩
            subst hwi
            have hU0 : (List.replicate L.length false).length = L.length := by simp
            clear hpk hcg hmin hpq herase hLe hcx hcell0 hinv hLlen
            go_wp2_with fail
            go_loopw [10, 11, 12] (fun bb nn kk wx => ∃ k : Nat, k ≤ L.length ∧ kk = .int .i64 k ∧ bb = .int .i64 (pickUp n L (List.replicate L.length false) a k).1 ∧ nn = .int .i64 (pickUp n L (List.replicate L.length false) a k).2 ∧ Below wi.heap.size wi wx) (fun _ _ kk _ => L.length - (intOf kk).toNat)
            case atStart => exact ⟨0, by omega, rfl, rfl, rfl, Below.refl _ _⟩
            case round =>
              obtain ⟨k, hk, rfl, rfl, rfl, hBi⟩ := hrel
              by_cases hlk : k < L.length
              · have hki : (k : Int) < (L.length : Int) := by omega
                obtain ⟨_, _, e, _, _, _, hcell⟩ := hrL.later hBi
                cases e
                obtain ⟨bv', ov', e', hbv', hcx⟩ := hcell (by omega)
                cases e'
                obtain ⟨g1, g2⟩ := lines_at hcx hlk
                obtain ⟨x, y, hxy, h1, h2, h3, h4⟩ := good_line HGL.out (List.getElem_mem hlk)
                rw [hxy] at g1 g2
                simp only at g1 g2
                have hget : L[k]?.getD (0, 0) = ((x : Int), (y : Int)) := by rw [List.getElem?_eq_getElem hlk, hxy]; rfl
                have HST : Hid (pickUp n L (List.replicate L.length false) a (k + 1) = pickStep n L (List.replicate L.length false) a (pickUp n L (List.replicate L.length false) a k) k) := pickUp_succ n L _ a k
                have hLO := left_one L hlk
                have HGE : Hid (GoodG n (L.eraseIdx k)) := by
                  have := leftL_good ((List.replicate L.length false).set k true) HGL.out
                  rwa [hLO] at this
                have hub : (List.replicate L.length false)[k]?.getD false = false := by simp [hlk]
                generalize pickUp n L (List.replicate L.length false) a k = bn at *
                obtain ⟨bb, nx⟩ := bn
                clear hcx hcell
                by_cases hinc : x = a ∨ y = a
                · obtain ⟨b', hb', hbn'⟩ : ∃ b' : Nat, (x : Int) + y - a = (b' : Int) ∧ b' < n := by
                    rcases hinc with e | e
                    · exact ⟨y, by omega, h4⟩
                    · exact ⟨x, by omega, h3⟩
                  have HSTEP : Hid (pickUp n L (List.replicate L.length false) a (k + 1) = if (b' : Int) < nx ∧ Joined n (L.eraseIdx k) b' then ((k : Int), (b' : Int)) else (bb, nx)) := by
                    show _ = _
                    rw [HST.out]; unfold pickStep
                    rw [if_neg (by rw [hub]; simp), hget]
                    simp only
                    rw [if_neg (by omega), hb', hLO]
                    simp
                  have HYES : Hid ((b' : Int) < nx ∧ Joined n (L.eraseIdx k) b' → pickUp n L (List.replicate L.length false) a (k + 1) = ((k : Int), (b' : Int))) := fun h => by rw [HSTEP.out, if_pos h]
                  have HNO : Hid (¬ ((b' : Int) < nx ∧ Joined n (L.eraseIdx k) b') → pickUp n L (List.replicate L.length false) a (k + 1) = (bb, nx)) := fun h => by rw [HSTEP.out, if_neg h]
                  have hbd : decide ((b' : Int) ≥ 0) = true := by simp
                  clear hLO hub
                  by_cases hxa : x = a
                  · have hxb : ((x : Int) == (a : Int)) = true := by simp [hxa]
                    have hyb : ((y : Int) == (a : Int)) = false := by rw [beq_eq_false_iff_ne]; omega
                    obtain rfl : b' = y := by omega
                    clear hinc hxa hb'
                    by_cases hlt2 : (b' : Int) < nx
                    · have KB := refBut_ok (.slice (some ⟨bv, ov, none⟩) L.length cl) L k _ (hrL.later hBi) hL24
                      go_wp2_with fail
                      refine KB.mono ?_
                      rintro e w6 ⟨a6, c6, rfl, o6, hB6⟩
                      have KJ := refLined_ok n (.slice a6 (L.eraseIdx k).length c6) (L.eraseIdx k) b' w6 (rd_of_owns o6) HGE.out hbn'
                      have hB06 := below_c hBi hB6
                      clear o6 KB
                      go_wp2_with fail
                      refine KJ.mono ?_
                      rintro e w7 ⟨bj, rfl, hbj, hB7⟩
                      have hB07 := below_c hB06 hB7
                      have HBJ := Lib.hid hbj
                      clear hbj KJ
                      cases bj with
                      | true =>
                        have HP2 := Lib.hid (HYES.out ⟨hlt2, HBJ.out.1 rfl⟩)
                        go_wp2
                        go_roundw
                        case rel => exact ⟨k + 1, by omega, by go_num, by rw [HP2.out], by rw [HP2.out], hB07⟩
                        case measure => simp [intOf]; omega
                      | false =>
                        have HP2 := Lib.hid (HNO.out (fun h => by have := HBJ.out.2 h.2; cases this))
                        go_wp2
                        go_roundw
                        case rel => exact ⟨k + 1, by omega, by go_num, by rw [HP2.out], by rw [HP2.out], hB07⟩
                        case measure => simp [intOf]; omega
                    · have HP2 := Lib.hid (HNO.out (fun h => hlt2 h.1))
                      go_wp2
                      go_roundw
                      case rel => exact ⟨k + 1, by omega, by go_num, by rw [HP2.out], by rw [HP2.out], hBi⟩
                      case measure => simp [intOf]; omega
                  · have hxb : ((x : Int) == (a : Int)) = false := by rw [beq_eq_false_iff_ne]; omega
                    have hyb : ((y : Int) == (a : Int)) = true := by simp; omega
                    obtain rfl : b' = x := by omega
                    clear hinc hxa hb'
                    by_cases hlt2 : (b' : Int) < nx
                    · have KB := refBut_ok (.slice (some ⟨bv, ov, none⟩) L.length cl) L k _ (hrL.later hBi) hL24
                      go_wp2_with fail
                      refine KB.mono ?_
                      rintro e w6 ⟨a6, c6, rfl, o6, hB6⟩
                      have KJ := refLined_ok n (.slice a6 (L.eraseIdx k).length c6) (L.eraseIdx k) b' w6 (rd_of_owns o6) HGE.out hbn'
                      have hB06 := below_c hBi hB6
                      clear o6 KB
                      go_wp2_with fail
                      refine KJ.mono ?_
                      rintro e w7 ⟨bj, rfl, hbj, hB7⟩
                      have hB07 := below_c hB06 hB7
                      have HBJ := Lib.hid hbj
                      clear hbj KJ
                      cases bj with
                      | true =>
                        have HP2 := Lib.hid (HYES.out ⟨hlt2, HBJ.out.1 rfl⟩)
                        go_wp2
                        go_roundw
                        case rel => exact ⟨k + 1, by omega, by go_num, by rw [HP2.out], by rw [HP2.out], hB07⟩
                        case measure => simp [intOf]; omega
                      | false =>
                        have HP2 := Lib.hid (HNO.out (fun h => by have := HBJ.out.2 h.2; cases this))
                        go_wp2
                        go_roundw
                        case rel => exact ⟨k + 1, by omega, by go_num, by rw [HP2.out], by rw [HP2.out], hB07⟩
                        case measure => simp [intOf]; omega
                    · have HP2 := Lib.hid (HNO.out (fun h => hlt2 h.1))
                      go_wp2
                      go_roundw
                      case rel => exact ⟨k + 1, by omega, by go_num, by rw [HP2.out], by rw [HP2.out], hBi⟩
                      case measure => simp [intOf]; omega
                · have hxb : ((x : Int) == (a : Int)) = false := by rw [beq_eq_false_iff_ne]; omega
                  have hyb : ((y : Int) == (a : Int)) = false := by rw [beq_eq_false_iff_ne]; omega
                  have HP2 : Hid (pickUp n L (List.replicate L.length false) a (k + 1) = (bb, nx)) := by
                    show _ = _
                    rw [HST.out]; unfold pickStep
                    rw [if_neg (by rw [hub]; simp), hget, if_pos (by simp only; omega)]
                  clear hLO hub hinc
                  go_wp2
                  go_roundw
                  case rel => exact ⟨k + 1, by omega, by go_num, by rw [HP2.out], by rw [HP2.out], hBi⟩
                  case measure => simp [intOf]; omega
              · obtain rfl : k = L.length := by omega
                rw [HPQ.out]
                have ho1 := owns_later ho hBi
                have KB := refBut_ok (.slice (some ⟨bv, ov, none⟩) L.length cl) L q _ (hrL.later hBi) hL24
                have hB05i := below_c hB hBi
                go_wp2_with fail
                refine KB.mono ?_
                rintro e w6 ⟨a6, c6, rfl, o6, hB6⟩
                have ho6 := owns_later ho1 hB6
                have hd6 : ∀ g, (Value.slice ao (j + 1) co).ownBlock = some g → (Value.slice a6 (L.eraseIdx q).length c6).ownBlock ≠ some g := fun g h1 h2 => by
                  have := (ho1.lt g h1).2
                  have := (o6.lt g h2).1
                  omega
                have hB56 := below_c hB05i hB6
                have hs56 := hB56.size
                clear KB ho1 ho
                go_wp2_with (at_builtin; go_must (refine wpl_app _ _ _ (AppTo.refl ho6) rfl rfl Tryd.underlying24 hi hz0 hz1 hz2 rfl (by decide) rfl rfl rfl (by simp [Value.oneCell']) (by decide) (by omega) (by omega) ?_); intro v8 w8 hA8 hne8 hst8)
                go_roundw
                case rel =>
                  refine ⟨j + 1, by omega, by rw [HNX.out], ?_, ?_, ?_, hA8.below ho6 hB56 (Nat.le_refl _) (by omega)⟩
                  · rw [HNX.out, ← HER.out]
                    exact rd_kept (rd_of_owns o6) hA8.grown (fun g hg => hd6 g hg)
                  · rw [HWX.out, HNX.out]
                    simpa [nats] using hA8.own
                  · intro g h1 h2
                    rcases hA8.at_ with e | e
                    · rw [e] at h1; exact hd6 g h1 h2
                    · have := e g h1
                      have := (o6.lt g h2).2
                      omega
                case measure => simp [lenOf]; have := HLN.out.1; have := HLN.out.2; omega
          · obtain rfl : j = ls.length := by omega
            have hL0 : (leftL ls (goSt n ls a0 ls.length).1).length = 0 := by omega
            generalize leftL ls (goSt n ls a0 ls.length).1 = L at *
            obtain rfl : L = [] := List.eq_nil_of_length_eq_zero hL0
            have e00 : ([] : List Ln).length = 0 := rfl
            rw [e00] at *
            clear hL0 hLlen e00
            go_wp2
            go_ret2
            exact ⟨ao, co, rfl, rd_of_owns ho, below_c hB05 hB⟩

end Go.Proofs.YtoomdnbbbaooeaaDoor
