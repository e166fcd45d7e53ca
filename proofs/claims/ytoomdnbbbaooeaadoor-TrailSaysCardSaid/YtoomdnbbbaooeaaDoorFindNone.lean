/- What trail.Find returns where there is no way: the walks. Conditions: in each statement. -/
import Derived.Test.YtoomdnbbbaooeaaDoorFind
namespace Go.Proofs.YtoomdnbbbaooeaaDoor
open Go.RowKit Gr

set_option maxRecDepth 100000 in
set_option maxHeartbeats 1000000 in
theorem find_bad (n : Int) (v : Value) (ls : List Ln) (w : World) (hr : LinesRd w v ls) (hc : chk n ls ≠ 0) :
    Calls Tryd.prog 13 #[.int .i64 n, v] w fun e w' => e = .returned (.tuple #[.slice none 0 0, errV (chk n ls)]) ∧ Below w.heap.size w w' := by
  have K := ends_bad n v ls w hr hc
  clear hc
  go_enter Tryd.func13, Tryd.ntmps13
  go_wp2_with fail
  refine K.mono ?_
  rintro e w1 ⟨rfl, hB⟩
  go_wp2
  go_ret2
  exact ⟨rfl, hB⟩

set_option maxRecDepth 100000 in
set_option maxHeartbeats 1000000 in
theorem find_few (n : Nat) (v : Value) (ls : List Ln) (w : World) (hr : LinesRd w v ls) (hg : GoodG n ls) (h : ls.length = 0 ∨ 2 < (endsUp ls n).length) :
    Calls Tryd.prog 13 #[.int .i64 (n : Int), v] w fun e w' => e = .returned (.tuple #[.slice none 0 0, errV 5]) ∧ Below w.heap.size w w' := by
  have KE := ends_ok n v ls w hr hg
  have hl24 := hg.2.2.1
  have hQ : ((endsUp ls n).map fun (i : Nat) => (i : Int)).length = (endsUp ls n).length := by simp
  obtain ⟨av, cv, rfl, _⟩ := id hr
  clear hg
  go_enter Tryd.func13, Tryd.ntmps13
  go_wp2_with fail
  refine KE.mono ?_
  rintro e w1 ⟨ae, ce, rfl, oe, hB⟩
  rw [hQ]
  generalize (endsUp ls n).length = q at *
  clear oe KE hQ
  by_cases h0 : ls.length = 0
  · have hl0 : ((ls.length : Int) == 0) = true := by simp [h0]
    clear h0 h
    go_wp2
    go_ret2
    exact ⟨rfl, hB⟩
  · have hl0 : ((ls.length : Int) == 0) = false := by rw [beq_eq_false_iff_ne]; omega
    have hd2 : decide ((q : Int) > 2) = true := by simp; omega
    clear h0 h
    go_wp2
    go_ret2
    exact ⟨rfl, hB⟩


set_option maxRecDepth 100000 in
set_option maxHeartbeats 4000000 in
theorem find_apart (n : Nat) (v : Value) (ls : List Ln) (w : World) (hr : LinesRd w v ls) (hg : GoodG n ls) (a0 : Nat) (hne : 0 < ls.length) (he : (endsUp ls n).length ≤ 2) (hs : startP n ls = (a0 : Int)) (ha : a0 < n) (hJ : ¬ Joined n ls a0) :
    Calls Tryd.prog 13 #[.int .i64 (n : Int), v] w fun e w' => e = .returned (.tuple #[.slice none 0 0, errV 5]) ∧ Below w.heap.size w w' := by
  obtain ⟨i1, hi1, hy0, hy1, hy2⟩ := info_parts info_bool'
  have HG := Lib.hid hg
  have HJ := Lib.hid hJ
  have HS := Lib.hid hs
  have hn1 := hg.1
  have hn8 := hg.2.1
  have hl24 := hg.2.2.1
  have KE := ends_ok n v ls w hr hg
  clear hg hJ hs
  obtain ⟨av, cv, rfl, _⟩ := id hr
  have hlp : (0 : Int) < (ls.length : Int) := by omega
  have hl0 : ((ls.length : Int) == 0) = false := by rw [beq_eq_false_iff_ne]; omega
  go_enter Tryd.func13, Tryd.ntmps13
  go_wp2_with fail
  refine KE.mono ?_
  rintro e w1 ⟨ae, ce, rfl, oe, hB1⟩
  have re := rd_of_owns oe
  have hle : ((endsUp ls n).map fun (i : Nat) => (i : Int)).length ≤ 2 := by simpa using he
  have HSS : Hid (startP n ls = ((endsUp ls n).map fun (i : Nat) => (i : Int)).head?.getD (minPt n ls)) := rfl
  generalize (endsUp ls n).map (fun (i : Nat) => (i : Int)) = Q at *
  have hd2 : decide ((Q.length : Int) > 2) = false := by simp; omega
  clear oe he KE
  go_wp2_with fail
  go_loopw [8, 39] (fun aa kk wr => ∃ k : Nat, k ≤ ls.length ∧ kk = .int .i64 k ∧ aa = .int .i64 (minPt n (ls.take k)) ∧ Below w1.heap.size w1 wr) (fun _ kk _ => ls.length - (intOf kk).toNat)
  case atStart => exact ⟨0, by omega, rfl, rfl, Below.refl _ _⟩
  case round =>
    obtain ⟨k, hk, rfl, rfl, hB⟩ := hrel
    by_cases hlt : k < ls.length
    · have hki : (k : Int) < (ls.length : Int) := by omega
      obtain ⟨_, _, e, _, _, _, hcell⟩ := hr.later (below_c hB1 hB)
      cases e
      obtain ⟨bv, ov, rfl, hbv, hcx⟩ := hcell (by omega)
      obtain ⟨g1, g2⟩ := lines_at hcx hlt
      have HM : Hid (minPt n (ls.take (k + 1)) = min3 (minPt n (ls.take k)) ls[k]) := by
        show _ = _
        unfold minPt
        rw [List.take_succ_eq_append_getElem hlt, List.foldl_append]; rfl
      have hC := below_c hB (below_alloc' wr (.cells #[.int .i64 (ls[k]).1, .int .i64 (ls[k]).2] 38))
      clear hcx hcell
      generalize minPt n (ls.take k) = m at *
      generalize ls[k] = l at *
      obtain ⟨x, y⟩ := l
      simp only at g1 g2 hC
      go_wp2
      go_roundw
      case rel => exact ⟨k + 1, by omega, by go_num, by rw [HM.out]; rfl, hC⟩
      case measure => simp [intOf]; omega
    · have e : ls.take k = ls := List.take_of_length_le (by omega)
      rw [e]
      clear e
      obtain ⟨wa, hwa⟩ : ∃ wa, wa = wr := ⟨wr, rfl⟩
      subst hwa
      have hB0a := below_c hB1 hB
      cases Q with
      | nil =>
        have e0 : minPt n ls = (a0 : Int) := by rw [← HS.out, HSS.out]; rfl
        rw [e0]
        clear e0
        go_wp2_with (at_make; go_must (refine wpList_make_full _ rfl _ _ _ rfl wa.heap.size 4 i1 (.bool false) 1 Tryd.underlying47 hi1 hy0 hy1 .i64 .i64 _ _ ls.length rfl rfl rfl rfl (by rw [hy2]; omega) (by unfold maxLen; omega) (Nat.le_refl _) ?_); intro w3 hown hgr)
        have ez : (madeCells (Value.bool false).cells (ls.length * 1)).toList = (List.replicate ls.length false).map Value.bool := by
          rw [Nat.mul_one]; show (madeCells #[Value.bool false] ls.length).toList = _
          rw [toList_madeCells_one]; simp
        rw [ez] at hown
        have hB3 := below_iff_grown.2 hgr
        clear ez hgr
        refine (joined_ok n _ _ ls (List.replicate ls.length false) a0 w3 (hr.later (below_c hB0a hB3)) HG.out (rd_of_owns hown) (by simp) ha).mono ?_
        rintro e w5 ⟨b, rfl, hb, hB5⟩
        have hbt : b = false := by
          cases b with
          | false => rfl
          | true => exact absurd (by have := hb.1 rfl; rwa [leftL_none] at this) HJ.out
        subst hbt
        have hFin := below_c (below_c hB0a hB3) hB5
        clear hb hown hB3
        go_wp2
        go_ret2
        exact ⟨rfl, hFin⟩
      | cons p q =>
        have e0 : p = (a0 : Int) := by rw [← HS.out, HSS.out]; rfl
        subst e0
        obtain ⟨_, _, e, _, _, _, hce⟩ := re.later hB
        cases e
        obtain ⟨be, oe, rfl, hbe, hcx⟩ := hce (by simp)
        have cp := hcx 0 _ rfl
        have e0 : oe + 0 = oe := rfl
        rw [e0] at cp
        have hqp : decide (((q.length : Int) + 1) > 0) = true := by first | (simp; omega) | simp
        have hqi : (0 : Int) < (q.length : Int) + 1 := by omega
        clear hcx hce re e0
        simp only [List.length_cons] at hd2 hle ⊢
        go_wp2_with (at_make; go_must (refine wpList_make_full _ rfl _ _ _ rfl wa.heap.size 4 i1 (.bool false) 1 Tryd.underlying47 hi1 hy0 hy1 .i64 .i64 _ _ ls.length rfl rfl rfl rfl (by rw [hy2]; omega) (by unfold maxLen; omega) (Nat.le_refl _) ?_); intro w3 hown hgr)
        have ez : (madeCells (Value.bool false).cells (ls.length * 1)).toList = (List.replicate ls.length false).map Value.bool := by
          rw [Nat.mul_one]; show (madeCells #[Value.bool false] ls.length).toList = _
          rw [toList_madeCells_one]; simp
        rw [ez] at hown
        have hB3 := below_iff_grown.2 hgr
        clear ez hgr
        refine (joined_ok n _ _ ls (List.replicate ls.length false) a0 w3 (hr.later (below_c hB0a hB3)) HG.out (rd_of_owns hown) (by simp) ha).mono ?_
        rintro e w5 ⟨b, rfl, hb, hB5⟩
        have hbt : b = false := by
          cases b with
          | false => rfl
          | true => exact absurd (by have := hb.1 rfl; rwa [leftL_none] at this) HJ.out
        subst hbt
        have hFin := below_c (below_c hB0a hB3) hB5
        clear hb hown hB3
        go_wp2
        go_ret2
        exact ⟨rfl, hFin⟩

end Go.Proofs.YtoomdnbbbaooeaaDoor
