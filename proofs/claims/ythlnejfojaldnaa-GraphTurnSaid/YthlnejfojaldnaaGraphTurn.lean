/- GraphTurn returns true for every input: the walk. Conditions: none. -/
import Derived.Test.YthlnejfojaldnaaGraphFact
import Derived.Test.YthlnejfojaldnaaBack
namespace Go.Proofs.Ythlnejfojaldnaa
namespace Gr
theorem turn_fact {n : Nat} {ls : List Ln} (hg : GoodG n ls) {i : Nat} (hi : i < (besideRows n ls).length) {k : Nat} (hk : k < (besideRows n ls)[i].length) :
    ∃ j : Nat, (besideRows n ls)[i][k] = (j : Int) ∧ j < n ∧ j ≠ i ∧ ∃ hj : j < (besideRows n ls).length, (i : Int) ∈ (besideRows n ls)[j] := by
  have hlen : (besideRows n ls).length = n := by simp [besideRows, beside_length]
  have hib : i < (beside n ls).length := by rw [beside_length]; omega
  have hrow : (besideRows n ls)[i] = ptInts (beside n ls)[i] := by simp [besideRows]
  have hm0 : ∀ y ∈ (besideRows n ls)[i], y ∈ ptInts (beside n ls)[i] := fun y hy => by rw [hrow] at hy; exact hy
  have hm := hm0 _ (List.getElem_mem hk)
  obtain ⟨x, hx, he⟩ := List.mem_map.1 hm
  have ha : adjS (beside n ls) i x.val := by
    unfold adjS; rw [List.getElem?_eq_getElem hib]; exact mem_elems.1 hx
  have hb := adj_bounded hg _ _ ha
  have hs := adj_symm hg ha
  have hjb : x.val < (beside n ls).length := by rw [beside_length]; exact hb.2
  refine ⟨x.val, ?_, hb.2, fun e => adj_ne hg ha e.symm, by omega, ?_⟩
  · exact he.symm
  · have hrow2 : (besideRows n ls)[x.val]'(by omega) = ptInts (beside n ls)[x.val] := by simp [besideRows]
    rw [hrow2]
    refine List.mem_map.2 ⟨⟨i, by have := hg.2.1; omega⟩, mem_elems.2 ?_, rfl⟩
    unfold adjS at hs
    rw [List.getElem?_eq_getElem hjb] at hs
    exact hs
end Gr
open Go.RowKit Gr

theorem rowsRd_slice {w : World} {v : Value} {rows : List (List Int)} (h : RowsRd w v rows) : ∃ a c us, v = .slice a rows.length c ∧ c ≤ maxLen ∧ rows.length ≤ c ∧
    (0 < rows.length → ∃ b off, a = some ⟨b, off, none⟩ ∧ ∀ j u, us[j]? = some u → w.cell? ⟨b, off + j, none⟩ = some u) ∧ All2 (fun u xs => Rd w u xs.length (ints xs)) us rows := by
  obtain ⟨us, ⟨a, c, rfl, h1, h2, _, h3⟩, h4⟩ := h
  refine ⟨a, c, us, rfl, h2, h1, fun hp => ?_, h4⟩
  obtain ⟨b, off, rfl, _, hc⟩ := h3 hp
  exact ⟨b, off, rfl, hc⟩

set_option maxRecDepth 100000 in
set_option maxHeartbeats 4000000 in
theorem graphTurn_any (n : Int) {v : Value} {ls : List Ln} {w : World} (hr : LinesRd w v ls) :
    Calls Try.prog 5 #[.int .i64 n, v] w fun e w' => e = .returned (.bool true) ∧ Below w.heap.size w w' := by
  by_cases hc : chk n ls = 0
  · obtain ⟨m, rfl, hg⟩ := good_of hc
    have HG := Lib.hid hg
    have hlen : (besideRows m ls).length = m := by simp [besideRows, beside_length]
    have hl24 := hg.2.2.1
    have hm8 := hg.2.1
    have HBk : Hid (besideRows m (backL ls) = besideRows m ls) := by show _ = _; simp only [besideRows, beside_back hg]
    have HTF : Hid (∀ (i : Nat) (hi : i < (besideRows m ls).length) (k : Nat) (hk : k < (besideRows m ls)[i].length),
      ∃ j : Nat, (besideRows m ls)[i][k] = (j : Int) ∧ j < m ∧ j ≠ i ∧ ∃ hj : j < (besideRows m ls).length, (i : Int) ∈ (besideRows m ls)[j]) := fun i hi k hk => turn_fact hg hi hk
    have hbl : ls.length = (backL ls).length := by simp [backL]
    clear hc hg
    go_enter Try.func5, Try.ntmps5
    go_wp2_with fail
    refine (graphFact_any _).mono ?_
    rintro e w1 ⟨rfl, hB1⟩
    go_wp2_with fail
    refine (graphBeside_ok m _ ls _ (hr.later hB1) HG.out (chk_good HG.out)).mono ?_
    rintro e w2 ⟨u, rfl, hrows, hB2⟩
    have hB12 := below_c hB1 hB2
    go_wp2_with fail
    refine (back_any _ ls _ (hr.later hB12) hl24).mono ?_
    rintro e w3 ⟨u3, rfl, ho3, hB3⟩
    have hB13 := below_c hB12 hB3
    have hr3 := rd_of_owns ho3
    rw [hbl] at hr3
    go_wp2_with fail
    refine (graphBeside_ok m _ (backL ls) _ hr3 (good_back HG.out) (chk_good (good_back HG.out))).mono ?_
    rintro e w4 ⟨u4, rfl, hrows4, hB4⟩
    have hB14 := below_c hB13 hB4
    rw [HBk.out] at hrows4
    have hrows4' := (hrows.later hB3).later hB4
    clear hr3 ho3 hB3 hB4 hB13 hB12 hB2 hB1 hrows hbl
    go_wp2_with fail
    refine (rows_b _ _ _ _ _ hrows4' hrows4).mono ?_
    rintro e w5 ⟨rfl, hB5⟩
    rw [decide_eq_true rfl]
    have hB15 := below_c hB14 hB5
    have hrows5 := hrows4'.later hB5
    clear hB14 hB5 hrows4' hrows4
    generalize besideRows m ls = rows at *
    obtain ⟨a, c, us, rfl, hcm, hrc, hcells, hall⟩ := rowsRd_slice hrows5
    unfold maxLen at hcm
    rw [hlen]
    have hbm : ((m : Int) != (m : Int)) = false := by simp
    go_wp2_with fail
    go_loop [9] (fun i => ∃ k : Nat, k ≤ m ∧ i = .int .i64 k) (fun i => m - (intOf i).toNat)
    case atStart => exact ⟨0, by omega, rfl⟩
    case round =>
      obtain ⟨i, hi, rfl⟩ := hrel
      by_cases hlt : i < m
      · have hir : i < rows.length := by omega
        obtain ⟨ui, gi, di⟩ := hall.at hir
        obtain ⟨b, off, rfl, hc⟩ := hcells (by omega)
        have hci := hc i _ gi
        obtain ⟨ai, ci, hui, hi1, hi2, _, hic⟩ := di
        subst hui
        unfold maxLen at hi2
        have hlti : (i : Int) < (m : Int) := by omega
        go_wp2
        go_loop [10] (fun j => ∃ k : Nat, k ≤ rows[i].length ∧ j = .int .i64 k) (fun j => rows[i].length - (intOf j).toNat)
        case atStart => exact ⟨0, by omega, rfl⟩
        case round =>
          obtain ⟨k, hk, rfl⟩ := hrel
          by_cases hltk : k < rows[i].length
          · obtain ⟨j, hj1, hj2, hj3, hj4, hj5⟩ := HTF.out i hir k hltk
            obtain ⟨uj, gj, dj⟩ := hall.at hj4
            have hcj := hc j _ gj
            obtain ⟨bi, oi, rfl, _, hcc⟩ := hic (by omega)
            have hck := hcc k _ (ints_get hltk)
            rw [hj1] at hck
            have HI : Hid (decide ((0 : Int) ≤ (j : Int) ∧ (j : Int) ≤ (m : Int) - 1) = true) := by show _ = _; exact decide_eq_true (by omega)
            have HM := Lib.hid (decide_eq_true hj5)
            have w1' : IntKind.i64.wrap ((m : Int) - 1) = (m : Int) - 1 := IntWalk.i64_in _ (by omega)
            have hji : ((j : Int) == (i : Int)) = false := by simp; omega
            have hjm : (j : Int) < (m : Int) := by omega
            clear hj1 hj5 hcc
            go_wp2_with fail
            refine (in_any _ _ _ _).mono ?_
            rintro e w6 ⟨rfl, rfl⟩
            first | rw [HI.out] | (rw [w1', HI.out])
            go_wp2_with fail
            refine (refHas_any _ _ _ _ dj).mono ?_
            rintro e w6 ⟨rfl, rfl⟩
            rw [HM.out]
            go_wp2
            go_round
            case rel => exact ⟨k + 1, by omega, by go_num⟩
            case measure => simp [intOf]; omega
          · go_wp2
            go_round
            case rel => exact ⟨i + 1, by omega, by go_num⟩
            case measure => simp [intOf]; omega
      · go_wp2
        go_ret
        exact ⟨rfl, hB15⟩
  · go_enter Try.func5, Try.ntmps5
    go_wp2_with fail
    refine (graphFact_any _).mono ?_
    rintro e w1 ⟨rfl, hB1⟩
    go_wp2_with fail
    refine (graphBeside_bad n _ ls _ (hr.later hB1) hc).mono ?_
    rintro e w2 ⟨rfl, hB2⟩
    go_wp2
    go_ret
    exact ⟨rfl, below_c hB1 hB2⟩

end Go.Proofs.Ythlnejfojaldnaa
