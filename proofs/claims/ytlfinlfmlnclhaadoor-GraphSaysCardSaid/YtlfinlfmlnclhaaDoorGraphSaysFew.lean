/- GraphSays returns true where points and lines are good and few lines are not there: the walk. Conditions: the listed variable holds its handle. -/
import Derived.Test.YtlfinlfmlnclhaaDoorGraphSaysOk
import Derived.Test.YtlfinlfmlnclhaaDoorAppB
namespace Go.Proofs.YtlfinlfmlnclhaaDoor
open Go.RowKit Gr

-- the last loop and what follows, where there is something left
-- the points are bad: nothing is left
-- behind graph.Other: which points are left

set_option maxRecDepth 100000 in
set_option maxHeartbeats 8000000 in
theorem graphSays_few {w : World} (hh : Handle w) (m : Nat) {v : Value} {ls : List Ln} (hr : LinesRd w v ls) (i : Int) (hg : GoodG m ls) (h24 : ¬ 24 < (otherL m ls).length) :
    Calls Tryd.prog 6 #[.int .i64 (m : Int), v, .int .i64 i] w fun e w' => e = .returned (.bool true) ∧ Below w.heap.size w w' := by
  obtain ⟨i0, hi, hz0, hz1, hz2⟩ := info_parts info_ints
  obtain ⟨i1, hi', hy0, hy1, hy2⟩ := info_parts info_line
  have HG := Lib.hid hg
  have HC := Lib.hid (chk_good hg)
  have hm8 := hg.2.1
  have hm1 := hg.1
  have hl24 := hg.2.2.1
  have w1' : IntKind.i64.wrap ((m : Int) - 1) = (m : Int) - 1 := IntWalk.i64_in _ (by omega)
  have hlen := beside_length m ls
  have HNB : Hid (∀ a b : Nat, near ls a b = ((beside m ls)[a]?.getD 0).testBit b) := fun a b => by
    rw [Bool.eq_iff_iff]; exact (adj_near hg a b).symm
  have HNR := Lib.hid (nearRows m ls hg)
  obtain ⟨av, cv, rfl⟩ : ∃ av cv, v = .slice av ls.length cv := by obtain ⟨av, cv, hv, _⟩ := hr; exact ⟨av, cv, hv⟩
  clear hg
  go_enter Tryd.func6, Tryd.ntmps6
  go_wp2_with fail
  refine (refLines_any m _ ls _ hr).mono ?_
  rintro e w1 ⟨rfl, hB1⟩
  rw [HC.out]
  go_wp2_with fail
  refine (graphCheck_any m _ ls _ (hr.later hB1)).mono ?_
  rintro e w2 ⟨rfl, hB2⟩
  rw [HC.out]
  have hB12 := below_c hB1 hB2
  clear hB1 hB2
  go_wp2_with fail
  refine (errorIs 0 0 _ (hh.later hB12)).mono ?_
  rintro e w3 ⟨rfl, hB3⟩
  rw [show decide (((0 : Nat) : Int) = 0) = true from rfl]
  have hB13 := below_c hB12 hB3
  clear hB3 hB12
  go_wp2_with fail
  go_loopw [9, 11, 12] (fun g d j wr => ∃ (a : Nat) (us : List Value), a ≤ m ∧ j = .int .i64 a ∧ wr.ownsRow w.heap.size 36 1 g a us ∧ RowsOwn wr w.heap.size g us ((List.range a).map fun (a : Nat) => nearU ls (a : Int) m) ∧
    wr.ownsRow w.heap.size 56 2 d (otherUpto (beside m ls) m a).length (cellsOf (otherUpto (beside m ls) m a)) ∧ RowsOwn wr w.heap.size d us ((List.range a).map fun (a : Nat) => nearU ls (a : Int) m) ∧ (g.ownBlock = none ∨ g.ownBlock ≠ d.ownBlock) ∧ Below w.heap.size w wr) (fun _ _ j _ => m - (intOf j).toNat)
  case atStart => exact ⟨0, [], by omega, rfl, World.ownsRow_nil _ _ _ _, .nil, World.ownsRow_nil _ _ _ _, .nil, .inl rfl, hB13⟩
  case round =>
    obtain ⟨a, us, ha, rfl, hog, hrg, hod, hrd, hne, hbr⟩ := hrel
    by_cases hlt : a < m
    · have hai : (a : Int) < (m : Int) := by omega
      have hol := otherUpto_length (beside m ls) m a
      have ham : a * m ≤ 64 := Nat.mul_le_mul (show a ≤ 8 by omega) hm8
      have HSU := Lib.hid (otherUpto_succ (beside m ls) m a)
      have wa : IntKind.i64.wrap ((a : Int) + 1) = (a : Int) + 1 := IntWalk.i64_in _ (by omega)
      go_wp2_with fail
      refine (refNear_any m _ ls a _ (hr.later hbr) hm8).mono ?_
      rintro e w4 ⟨ad, cd, rfl, ho4, hB4⟩
      have hog4 := owns_later hog hB4
      have hod4 := owns_later hod hB4
      have hrg4 := rowsOwn_later hrg hB4
      have hrd4 := rowsOwn_later hrd hB4
      have hap := apart_new hog ho4 (Nat.le_refl _)
      have hap2 := apart_new hod ho4 (Nat.le_refl _)
      have hbr4 := below_c hbr hB4
      have ho4' := owns_mono ho4 hbr.size
      have hbs4 := hbr4.size
      clear hog hod hrg hrd ho4 hB4
      go_wp2_with (at_builtin; go_must (refine wpl_app _ _ _ (AppTo.refl hog4) rfl rfl Tryd.underlying31 hi hz0 hz1 hz2 rfl (by decide) rfl rfl rfl (by simp [Value.oneCell']) (by decide) (by omega) hbs4 ?_); intro g5 w5 hA5 hne5 hst5)
      obtain ⟨hod5, hne5'⟩ := owns_beside hA5 hod4 hne
      have hrd5 := rowsOwn_two hA5 hrg4 hrd4
      have hrg5 := rowsOwn_step hA5 hrg4
      obtain ⟨hn5, hap5⟩ := owns_beside hA5 ho4' hap
      have hog5 := hA5.own
      have hbr5 := hbr4.trans hst5
      have hrg6 : RowsOwn w5 w.heap.size g5 (us ++ [.slice ad (nearU ls (a : Int) m).length cd]) ((List.range (a + 1)).map fun (a : Nat) => nearU ls (a : Int) m) := by
        rw [List.range_succ, List.map_append]
        exact All2.append hrg5 (.cons ⟨⟨ad, cd, rfl⟩, hn5, hap5⟩ .nil)
      have hrd6 : RowsOwn w5 w.heap.size u11 (us ++ [.slice ad (nearU ls (a : Int) m).length cd]) ((List.range (a + 1)).map fun (a : Nat) => nearU ls (a : Int) m) := by
        rw [List.range_succ, List.map_append]
        exact All2.append hrd5 (.cons ⟨⟨ad, cd, rfl⟩, hn5, hap2⟩ .nil)
      generalize hus : us ++ [.slice ad (nearU ls (a : Int) m).length cd] = us2 at *
      have hog6 : w5.ownsRow w.heap.size 36 1 g5 (a + 1) us2 := by simpa using hog5
      clear hus hog4 hod4 hrg4 hrd4 hap hap2 ho4' hA5 hst5 hrg5 hrd5 hn5 hap5 hog5 hbr4 hne hbr hbs4 hne5
      go_wp2_with fail
      go_loopw [11, 13] (fun d j wr => ∃ b : Nat, a + 1 + b ≤ m ∧ j = .int .i64 ((a + 1 + b : Nat) : Int) ∧ wr.ownsRow w.heap.size 36 1 g5 (a + 1) us2 ∧ RowsOwn wr w.heap.size g5 us2 ((List.range (a + 1)).map fun (a : Nat) => nearU ls (a : Int) m) ∧
        wr.ownsRow w.heap.size 56 2 d (otherUpto (beside m ls) m a ++ otherRow ((beside m ls)[a]?.getD 0) a (a + 1) b).length (cellsOf (otherUpto (beside m ls) m a ++ otherRow ((beside m ls)[a]?.getD 0) a (a + 1) b)) ∧
        RowsOwn wr w.heap.size d us2 ((List.range (a + 1)).map fun (a : Nat) => nearU ls (a : Int) m) ∧ (g5.ownBlock = none ∨ g5.ownBlock ≠ d.ownBlock) ∧ Below w.heap.size w wr) (fun _ j _ => m - (intOf j).toNat)
      case atStart => exact ⟨0, by omega, by simp, hog6, hrg6, by simpa [otherRow] using hod5, hrd6, hne5', hbr5⟩
      case round =>
        obtain ⟨b, hb, rfl, hog, hrg, hod, hrd, hne, hbr⟩ := hrel
        by_cases hlb : a + 1 + b < m
        · have hbi : ((a + 1 + b : Nat) : Int) < (m : Int) := by omega
          have hbs := hbr.size
          have HSR : Hid (otherUpto (beside m ls) m a ++ otherRow ((beside m ls)[a]?.getD 0) a (a + 1) (b + 1) = (otherUpto (beside m ls) m a ++ otherRow ((beside m ls)[a]?.getD 0) a (a + 1) b) ++ (if ((beside m ls)[a]?.getD 0).testBit (a + 1 + b) then [] else [((a : Int), ((a + 1 + b : Nat) : Int))])) := by
            show _ = _; rw [otherRow_succ, List.append_assoc]
          have hrl := otherRow_length ((beside m ls)[a]?.getD 0) a (a + 1) b
          have HNE := Lib.hid (HNB.out a (a + 1 + b))
          have hlt2 : (otherUpto (beside m ls) m a ++ otherRow ((beside m ls)[a]?.getD 0) a (a + 1) b).length ≤ 100 := by rw [List.length_append]; omega
          generalize otherUpto (beside m ls) m a ++ otherRow ((beside m ls)[a]?.getD 0) a (a + 1) b = L at *
          cases hnr : near ls (a : Int) ((a + 1 + b : Nat) : Int) with
          | true =>
            have HN := Lib.hid hnr
            clear hnr
            go_wp2_with fail
            refine (refBeside_any _ ls (a : Int) ((a + 1 + b : Nat) : Int) _ (hr.later hbr)).mono ?_
            rintro e w6 ⟨rfl, rfl⟩
            rw [HN.out]
            go_wp2
            go_roundw
            case rel => exact ⟨b + 1, by omega, by go_num, hog, hrg, by rw [HSR.out, if_pos (by rw [← HNE.out]; exact HN.out), List.append_nil]; exact hod, hrd, hne, hbr⟩
            case measure => simp [intOf]; omega
          | false =>
            have HN := Lib.hid hnr
            clear hnr
            go_wp2_with (first
              | (go_at_call 12; refine (refBeside_any _ ls (a : Int) ((a + 1 + b : Nat) : Int) _ (hr.later hbr)).mono ?_; rintro e w6 ⟨rfl, rfl⟩; rw [HN.out])
              | (at_builtin; go_must (refine wpl_app _ _ _ (AppTo.refl hod) rfl rfl Tryd.underlying22 hi' hy0 hy1 hy2 rfl (by decide) rfl rfl rfl (by simp [Value.oneCell']) (by decide) (by omega) hbs ?_); intro d7 w7 hA7 hne7 hst7))
            obtain ⟨hog7, hne7'⟩ := owns_beside hA7 hog (apart_symm hne)
            have hrg7 := rowsOwn_two hA7 hrd hrg
            have hrd7 := rowsOwn_step hA7 hrd
            go_roundw
            case rel => exact ⟨b + 1, by omega, by go_num, hog7, hrg7, by rw [HSR.out, if_neg (by rw [← HNE.out, HN.out]; simp), cellsOf_append]; simpa [cellsOf] using hA7.own, hrd7, apart_symm hne7', hbr.trans hst7⟩
            case measure => simp [intOf]; omega
        · have hbe : b = m - (a + 1) := by omega
          go_wp2
          go_roundw
          case rel => exact ⟨a + 1, us2, by omega, by go_num, hog, hrg, by rw [HSU.out, ← hbe]; exact hod, hrd, hne, hbr⟩
          case measure => simp [intOf]; omega
    · have hae : m = a := by omega
      subst hae
      have hO : otherUpto (beside m ls) m m = otherL m ls := rfl
      rw [hO] at hod
      have hrows : RowsRd wr u9 (besideRows m ls) := by
        have h := rowsRd_of (rows := (List.range m).map fun (b : Nat) => nearU ls (b : Int) m) (by simpa using hog) hrg
        rwa [HNR.out] at h
      have hrd0 : LinesRd wr u11 (otherL m ls) := rd_of_owns hod
      obtain ⟨ao, co, rfl⟩ := owns_slice hod
      clear hog hrg hod hrd hne hO
      go_wp2_with fail
      refine (graphBeside_ok m _ ls _ (hr.later hbr) HG.out HC.out).mono ?_
      rintro e w4 ⟨u4, rfl, hrows4, hB4⟩
      have hB14 := below_c hbr hB4
      have hrows' := hrows.later hB4
      have hrd4 := hrd0.later hB4
      clear hB4 hrows hrd0
      go_wp2_with fail
      refine (errorNil 0 _ (hh.later hB14)).mono ?_
      rintro e w5 ⟨rfl, hB5⟩
      rw [decide_eq_true rfl]
      have hB15 := below_c hB14 hB5
      have hrows5 := hrows4.later hB5
      have hrows5' := hrows'.later hB5
      have hrd5 := hrd4.later hB5
      clear hB5 hrows4 hrows' hrd4 hB14
      go_wp2_with fail
      refine (rows_b _ _ _ _ _ hrows5 hrows5').mono ?_
      rintro e w6 ⟨rfl, hB6⟩
      rw [decide_eq_true rfl]
      have hB16 := below_c hB15 hB6
      have hrd6 := hrd5.later hB6
      clear hB6 hrows5 hrows5' hrd5 hB15
      have h24' : ¬ 24 < ((otherL m ls).length : Int) := by omega
      go_wp2_with fail
      refine (other_ok m _ ls _ (hr.later hB16) HG.out).mono ?_
      rintro e w7 ⟨hB7, ⟨hx, _⟩ | ⟨_, u7, rfl, ho7⟩⟩
      · omega
      · have hB17 := below_c hB16 hB7
        have hrd7 := hrd6.later hB7
        have hru7 : LinesRd w7 u7 _ := rd_of_owns ho7
        clear hB7 ho7 hrd6 hB16
        go_wp2_with fail
        refine (errorNil 0 _ (hh.later hB17)).mono ?_
        rintro e w8 ⟨rfl, hB8⟩
        rw [decide_eq_true rfl]
        have hB18 := below_c hB17 hB8
        have hrd8 := hrd7.later hB8
        have hru8 := hru7.later hB8
        clear hB8 hB17 hrd7 hru7
        go_wp2_with fail
        refine (lines_b _ _ _ _ _ hru8 hrd8).mono ?_
        rintro e w8' ⟨rfl, hB9⟩
        rw [decide_eq_true rfl]
        have hB19 := below_c hB18 hB9
        clear hB9 hB18 hrd8 hru8
        by_cases h1 : m = 1
        · have h1b : ((m : Int) == 1) = true := by simp; omega
          have hout : m = 1 ∨ ¬ (0 ≤ i ∧ i ≤ (m : Int) - 1) := .inl h1
          clear h1
          go_wp2_with fail
          go_loopw [10, 20] (fun l j wr => l = .slice none 0 0 ∧ j = .int .i64 0 ∧ Below w.heap.size w wr) (fun _ _ _ => 0)
          case atStart => exact ⟨rfl, rfl, hB19⟩
          case round =>
            obtain ⟨rfl, rfl, hbr⟩ := hrel
            by_cases hl : (0 : Int) < (ls.length : Int)
            all_goals
              go_wp2_with fail
              refine (without_out m _ ls i _ (hr.later hbr) HG.out hout).mono ?_
              rintro e w10 ⟨rfl, hB10⟩
              have hB110 := below_c hbr hB10
              clear hB10
              go_wp2_with fail
              refine (errorV 1 1 _ (by decide) (hh.later hB110)).mono ?_
              rintro e w11 ⟨rfl, hB11⟩
              rw [show decide (((1 : Nat) : Int) = 1) = true from rfl]
              have hB111 := below_c hB110 hB11
              go_wp2_with fail
              refine (lines_b _ _ [] [] _ (lines_nil _) (lines_nil _)).mono ?_
              rintro e w12 ⟨rfl, hB12⟩
              rw [decide_eq_true rfl]
              go_wp2
              go_ret
              exact ⟨rfl, below_c hB111 hB12⟩
        · have h1b : ((m : Int) == 1) = false := by simp; omega
          by_cases hin : 0 ≤ i ∧ i ≤ (m : Int) - 1
          · have HIN := Lib.hid (decide_eq_true hin)
            have hm2 : 2 ≤ m := by omega
            clear h1
            go_wp2_with fail
            refine (in_any _ _ _ _).mono ?_
            rintro e w9 ⟨rfl, rfl⟩
            first | rw [HIN.out] | (rw [w1', HIN.out])
            go_wp2_with fail
            go_loopw [10, 20] (fun l j wr => ∃ k : Nat, k ≤ ls.length ∧ j = .int .i64 k ∧ wr.ownsRow w.heap.size 56 2 l (withoutL i (ls.take k)).length (cellsOf (withoutL i (ls.take k))) ∧ Below w.heap.size w wr) (fun _ j _ => ls.length - (intOf j).toNat)
            case atStart => exact ⟨0, by omega, rfl, by simpa [withoutL, cellsOf] using World.ownsRow_nil _ w.heap.size 56 2, hB19⟩
            case round =>
              obtain ⟨k, hk, rfl, ho, hbr⟩ := hrel
              have hbs := hbr.size
              by_cases hlt : k < ls.length
              · have hki : (k : Int) < (ls.length : Int) := by omega
                have hrr := hr.later hbr
                obtain ⟨a', c', e, _, _, _, hcell⟩ := hrr
                cases e
                obtain ⟨bv, ov, rfl, hbv, hcx⟩ := hcell (by omega)
                obtain ⟨g1, g2⟩ := lines_at hcx hlt
                have hgk := HG.out.2.2.2 ls[k] (List.getElem_mem hlt)
                have HSN := Lib.hid (withoutL_snoc i ls k hlt)
                have hwl : (withoutL i (ls.take k)).length ≤ 24 := Nat.le_trans (withoutL_length i _) (by simp; omega)
                clear hcx hcell
                generalize ls[k] = l at *
                obtain ⟨x, y⟩ := l
                simp only at g1 g2 hgk
                have wx : IntKind.i64.wrap (x - 1) = x - 1 := IntWalk.i64_in _ (by omega)
                have wy : IntKind.i64.wrap (y - 1) = y - 1 := IntWalk.i64_in _ (by omega)
                by_cases hx : x = i
                · have hxb : (x == i) = true := by simp [hx]
                  have HK : Hid (keeps i (x, y) = false) := by show _ = _; simp [keeps, hx]
                  clear hx
                  go_wp2
                  go_roundw
                  case rel => exact ⟨k + 1, by omega, by go_num, by rw [HSN.out, if_neg (by rw [HK.out]; simp), List.append_nil]; exact owns_later ho (below_alloc' _ _), below_c hbr (below_alloc' _ _)⟩
                  case measure => simp [intOf]; omega
                · have hxb : (x == i) = false := by simp [hx]
                  by_cases hy : y = i
                  · have hyb : (y == i) = true := by simp [hy]
                    have HK : Hid (keeps i (x, y) = false) := by show _ = _; simp [keeps, hy]
                    clear hx hy
                    go_wp2
                    go_roundw
                    case rel => exact ⟨k + 1, by omega, by go_num, by rw [HSN.out, if_neg (by rw [HK.out]; simp), List.append_nil]; exact owns_later ho (below_alloc' _ _), below_c hbr (below_alloc' _ _)⟩
                    case measure => simp [intOf]; omega
                  · have hyb : (y == i) = false := by simp [hy]
                    have HK : Hid (keeps i (x, y) = true) := by show _ = _; simp [keeps, hx, hy]
                    clear hx hy
                    by_cases h1 : i < x
                    · have hl1 : less i x = x - 1 := by simp [less, h1]
                      by_cases h2 : i < y
                      · have hl2 : less i y = y - 1 := by simp [less, h2]
                        have hA0 := owns_later ho (below_alloc' wr (.cells #[.int .i64 (x - 1), .int .i64 (y - 1)] 56))
                        have hb0 := below_c hbr (below_alloc' wr (.cells #[.int .i64 (x - 1), .int .i64 (y - 1)] 56))
                        rw [hl1, hl2] at HSN
                        clear hl1 hl2
                        go_wp2_with (at_builtin; go_must (refine wpl_appB _ _ _ (b := wr.heap.size + 1) (by simp) (AppTo.refl hA0) rfl rfl Tryd.underlying22 hi' hy0 hy1 hy2 rfl (by decide) rfl rfl rfl (by simp [Value.oneCell']) (by decide) (by omega) hb0.size ?_); intro l7 w7 hA7 hne7 hst7)
                        go_roundw
                        case rel => exact ⟨k + 1, by omega, by go_num, by rw [HSN.out, if_pos HK.out, cellsOf_append]; simpa [cellsOf] using hA7.own, hb0.trans hst7⟩
                        case measure => simp [intOf]; omega
                      · have hl2 : less i y = y := by simp [less, h2]
                        have hA0 := owns_later ho (below_alloc' wr (.cells #[.int .i64 (x - 1), .int .i64 y] 56))
                        have hb0 := below_c hbr (below_alloc' wr (.cells #[.int .i64 (x - 1), .int .i64 y] 56))
                        rw [hl1, hl2] at HSN
                        clear hl1 hl2
                        go_wp2_with (at_builtin; go_must (refine wpl_appB _ _ _ (b := wr.heap.size + 1) (by simp) (AppTo.refl hA0) rfl rfl Tryd.underlying22 hi' hy0 hy1 hy2 rfl (by decide) rfl rfl rfl (by simp [Value.oneCell']) (by decide) (by omega) hb0.size ?_); intro l7 w7 hA7 hne7 hst7)
                        go_roundw
                        case rel => exact ⟨k + 1, by omega, by go_num, by rw [HSN.out, if_pos HK.out, cellsOf_append]; simpa [cellsOf] using hA7.own, hb0.trans hst7⟩
                        case measure => simp [intOf]; omega
                    · have hl1 : less i x = x := by simp [less, h1]
                      by_cases h2 : i < y
                      · have hl2 : less i y = y - 1 := by simp [less, h2]
                        have hA0 := owns_later ho (below_alloc' wr (.cells #[.int .i64 x, .int .i64 (y - 1)] 56))
                        have hb0 := below_c hbr (below_alloc' wr (.cells #[.int .i64 x, .int .i64 (y - 1)] 56))
                        rw [hl1, hl2] at HSN
                        clear hl1 hl2
                        go_wp2_with (at_builtin; go_must (refine wpl_appB _ _ _ (b := wr.heap.size + 1) (by simp) (AppTo.refl hA0) rfl rfl Tryd.underlying22 hi' hy0 hy1 hy2 rfl (by decide) rfl rfl rfl (by simp [Value.oneCell']) (by decide) (by omega) hb0.size ?_); intro l7 w7 hA7 hne7 hst7)
                        go_roundw
                        case rel => exact ⟨k + 1, by omega, by go_num, by rw [HSN.out, if_pos HK.out, cellsOf_append]; simpa [cellsOf] using hA7.own, hb0.trans hst7⟩
                        case measure => simp [intOf]; omega
                      · have hl2 : less i y = y := by simp [less, h2]
                        have hA0 := owns_later ho (below_alloc' wr (.cells #[.int .i64 x, .int .i64 y] 56))
                        have hb0 := below_c hbr (below_alloc' wr (.cells #[.int .i64 x, .int .i64 y] 56))
                        rw [hl1, hl2] at HSN
                        clear hl1 hl2
                        go_wp2_with (at_builtin; go_must (refine wpl_appB _ _ _ (b := wr.heap.size + 1) (by simp) (AppTo.refl hA0) rfl rfl Tryd.underlying22 hi' hy0 hy1 hy2 rfl (by decide) rfl rfl rfl (by simp [Value.oneCell']) (by decide) (by omega) hb0.size ?_); intro l7 w7 hA7 hne7 hst7)
                        go_roundw
                        case rel => exact ⟨k + 1, by omega, by go_num, by rw [HSN.out, if_pos HK.out, cellsOf_append]; simpa [cellsOf] using hA7.own, hb0.trans hst7⟩
                        case measure => simp [intOf]; omega
              · have hke : ls.take k = ls := List.take_of_length_le (by omega)
                rw [hke] at ho
                obtain ⟨al, cl, rfl⟩ := owns_slice ho
                have hrl : LinesRd wr _ (withoutL i ls) := rd_of_owns ho
                clear ho hke
                go_wp2_with fail
                obtain ⟨i', hi'⟩ := Int.eq_ofNat_of_zero_le hin.1
                subst hi'
                refine (without_ok m _ ls i' _ (hr.later hbr) HG.out (by omega) (by omega)).mono ?_
                rintro e w10 ⟨u10, rfl, ho10, hB10⟩
                have hB110 := below_c hbr hB10
                have hrl2 := hrl.later hB10
                have hru : LinesRd w10 u10 _ := rd_of_owns ho10
                clear hB10 ho10 hrl
                go_wp2_with fail
                refine (errorNil 0 _ (hh.later hB110)).mono ?_
                rintro e w11 ⟨rfl, hB11⟩
                rw [decide_eq_true rfl]
                have hB111 := below_c hB110 hB11
                have hrl3 := hrl2.later hB11
                have hru3 := hru.later hB11
                clear hB11 hrl2 hru hB110
                go_wp2_with fail
                refine (lines_b _ _ _ _ _ hru3 hrl3).mono ?_
                rintro e w12 ⟨rfl, hB12⟩
                rw [decide_eq_true rfl]
                go_wp2
                go_ret
                exact ⟨rfl, below_c hB111 hB12⟩
          · have HIN := Lib.hid (decide_eq_false hin)
            have hout : m = 1 ∨ ¬ (0 ≤ i ∧ i ≤ (m : Int) - 1) := .inr hin
            clear h1
            go_wp2_with fail
            refine (in_any _ _ _ _).mono ?_
            rintro e w9 ⟨rfl, rfl⟩
            first | rw [HIN.out] | (rw [w1', HIN.out])
            go_wp2_with fail
            go_loopw [10, 20] (fun l j wr => l = .slice none 0 0 ∧ j = .int .i64 0 ∧ Below w.heap.size w wr) (fun _ _ _ => 0)
            case atStart => exact ⟨rfl, rfl, hB19⟩
            case round =>
              obtain ⟨rfl, rfl, hbr⟩ := hrel
              by_cases hl : (0 : Int) < (ls.length : Int)
              all_goals
                go_wp2_with fail
                refine (without_out m _ ls i _ (hr.later hbr) HG.out hout).mono ?_
                rintro e w10 ⟨rfl, hB10⟩
                have hB110 := below_c hbr hB10
                clear hB10
                go_wp2_with fail
                refine (errorV 1 1 _ (by decide) (hh.later hB110)).mono ?_
                rintro e w11 ⟨rfl, hB11⟩
                rw [show decide (((1 : Nat) : Int) = 1) = true from rfl]
                have hB111 := below_c hB110 hB11
                go_wp2_with fail
                refine (lines_b _ _ [] [] _ (lines_nil _) (lines_nil _)).mono ?_
                rintro e w12 ⟨rfl, hB12⟩
                rw [decide_eq_true rfl]
                go_wp2
                go_ret
                exact ⟨rfl, below_c hB111 hB12⟩

end Go.Proofs.YtlfinlfmlnclhaaDoor
