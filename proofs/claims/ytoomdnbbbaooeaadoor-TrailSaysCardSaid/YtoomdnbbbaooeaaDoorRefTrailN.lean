/- What R.Trail returns where there is no way: the walks. Conditions: in each statement. -/
import Derived.Test.YtoomdnbbbaooeaaDoorRefLined
import Derived.Test.YtoomdnbbbaooeaaDoorFindNone
namespace Go.Proofs.YtoomdnbbbaooeaaDoor
open Go.RowKit Gr

set_option maxRecDepth 100000 in
set_option maxHeartbeats 1000000 in
theorem refTrail_few (n : Nat) (v : Value) (ls : List Ln) (w : World) (hr : LinesRd w v ls) (hg : GoodG n ls) (h : ls.length = 0 ∨ 2 < (endsUp ls n).length) :
    Calls Tryd.prog 12 #[.int .i64 (n : Int), v] w fun e w' => e = .returned (.tuple #[.slice none 0 0, .bool false]) ∧ Below w.heap.size w w' := by
  have KE := refEnds_ok n v ls w hr hg
  have hl24 := hg.2.2.1
  obtain ⟨av, cv, rfl, _⟩ := id hr
  clear hg
  go_enter Tryd.func12, Tryd.ntmps12
  go_wp2_with fail
  refine KE.mono ?_
  rintro e w1 ⟨ae, ce, rfl, oe, hB⟩
  generalize (endsUp ls n).length = q at *
  clear oe KE
  by_cases h0 : ls.length = 0
  · have hl0 : ((ls.length : Int) == 0) = true := by simp [h0]
    clear h0 h
    go_wp2
    go_ret2
    exact ⟨rfl, hB⟩
  · have hl0 : ((ls.length : Int) == 0) = false := by rw [beq_eq_false_iff_ne]; omega
    have hd2 : decide ((q : Int) > 2) = true := by simp; omega
    clear h0 h
    go_wp2
    go_ret2
    exact ⟨rfl, hB⟩


set_option maxRecDepth 100000 in
set_option maxHeartbeats 4000000 in
theorem refTrail_apart (n : Nat) (v : Value) (ls : List Ln) (w : World) (hr : LinesRd w v ls) (hg : GoodG n ls) (a0 : Nat) (hne : 0 < ls.length) (he : (endsUp ls n).length ≤ 2) (hs : startP n ls = (a0 : Int)) (ha : a0 < n) (hJ : ¬ Joined n ls a0) :
    Calls Tryd.prog 12 #[.int .i64 (n : Int), v] w fun e w' => e = .returned (.tuple #[.slice none 0 0, .bool false]) ∧ Below w.heap.size w w' := by
  have HG := Lib.hid hg
  have HJ := Lib.hid hJ
  have HS := Lib.hid hs
  have hn1 := hg.1
  have hn8 := hg.2.1
  have hl24 := hg.2.2.1
  have KE := refEnds_ok n v ls w hr hg
  clear hg hJ hs
  obtain ⟨av, cv, rfl, _⟩ := id hr
  have hl0 : ((ls.length : Int) == 0) = false := by rw [beq_eq_false_iff_ne]; omega
  go_enter Tryd.func12, Tryd.ntmps12
  go_wp2_with fail
  refine KE.mono ?_
  rintro e w1 ⟨ae, ce, rfl, oe, hB1⟩
  have re := rd_of_owns oe
  have HSS : Hid (startP n ls = ((endsUp ls n).map fun (i : Nat) => (i : Int)).head?.getD (minPt n ls)) := rfl
  generalize endsUp ls n = Q at *
  have hd2 : decide ((Q.length : Int) > 2) = false := by simp; omega
  clear oe he KE
  go_wp2_with fail
  go_loopw [7, 8] (fun aa kk wr => ∃ k : Nat, k ≤ ls.length ∧ kk = .int .i64 k ∧ aa = .int .i64 (minPt n (ls.take k)) ∧ Below w1.heap.size w1 wr) (fun _ kk _ => ls.length - (intOf kk).toNat)
  case atStart => exact ⟨0, by omega, rfl, rfl, Below.refl _ _⟩
  case round =>
    obtain ⟨k, hk, rfl, rfl, hB⟩ := hrel
    by_cases hlt : k < ls.length
    · have hki : (k : Int) < (ls.length : Int) := by omega
      obtain ⟨_, _, e, _, _, _, hcell⟩ := hr.later (below_c hB1 hB)
      cases e
      obtain ⟨bv, ov, rfl, hbv, hcx⟩ := hcell (by omega)
      obtain ⟨g1, g2⟩ := lines_at hcx hlt
      have HM : Hid (minPt n (ls.take (k + 1)) = min3 (minPt n (ls.take k)) ls[k]) := by
        show _ = _
        unfold minPt
        rw [List.take_succ_eq_append_getElem hlt, List.foldl_append]; rfl
      clear hcx hcell
      generalize minPt n (ls.take k) = m at *
      generalize ls[k] = l at *
      obtain ⟨x, y⟩ := l
      simp only at g1 g2
      by_cases h1 : x < m
      · by_cases h2 : y < x
        · have HM2 : Hid (minPt n (ls.take (k + 1)) = y) := by show _ = _; rw [HM.out]; unfold min3; simp only; rw [if_pos h1, if_pos h2]
          go_wp2
          go_roundw
          case rel => exact ⟨k + 1, by omega, by go_num, by rw [HM2.out], hB⟩
          case measure => simp [intOf]; omega
        · have HM2 : Hid (minPt n (ls.take (k + 1)) = x) := by show _ = _; rw [HM.out]; unfold min3; simp only; rw [if_pos h1, if_neg h2]
          go_wp2
          go_roundw
          case rel => exact ⟨k + 1, by omega, by go_num, by rw [HM2.out], hB⟩
          case measure => simp [intOf]; omega
      · by_cases h2 : y < m
        · have HM2 : Hid (minPt n (ls.take (k + 1)) = y) := by show _ = _; rw [HM.out]; unfold min3; simp only; rw [if_neg h1, if_pos h2]
          go_wp2
          go_roundw
          case rel => exact ⟨k + 1, by omega, by go_num, by rw [HM2.out], hB⟩
          case measure => simp [intOf]; omega
        · have HM2 : Hid (minPt n (ls.take (k + 1)) = m) := by show _ = _; rw [HM.out]; unfold min3; simp only; rw [if_neg h1, if_neg h2]
          go_wp2
          go_roundw
          case rel => exact ⟨k + 1, by omega, by go_num, by rw [HM2.out], hB⟩
          case measure => simp [intOf]; omega
    · have e : ls.take k = ls := List.take_of_length_le (by omega)
      rw [e]
      clear e
      obtain ⟨wa, hwa⟩ : ∃ wa, wa = wr := ⟨wr, rfl⟩
      subst hwa
      have hB0a := below_c hB1 hB
      cases Q with
      | nil =>
        have e0 : minPt n ls = (a0 : Int) := by rw [← HS.out, HSS.out]; rfl
        rw [e0]
        clear e0
        go_wp2_with fail
        refine (refLined_ok n _ ls a0 wa (hr.later hB0a) HG.out ha).mono ?_
        rintro e w5 ⟨b, rfl, hb, hB5⟩
        have hbt : b = false := by
          cases b with
          | false => rfl
          | true => exact absurd (hb.1 rfl) HJ.out
        subst hbt
        have hB05 := below_c hB0a hB5
        clear hb
        go_wp2
        go_ret2
        exact ⟨rfl, hB05⟩
      | cons p q =>
        have e0 : a0 = p := by
          have h := HSS.out
          rw [HS.out] at h
          simp only [List.map_cons, List.head?_cons, Option.getD_some] at h
          omega
        subst e0
        obtain ⟨_, _, e, _, _, _, hce⟩ := re.later hB
        cases e
        obtain ⟨be, oe, rfl, hbe, hcx⟩ := hce (by simp)
        have cp := hcx 0 (.int .i64 (a0 : Int)) rfl
        have e0 : oe + 0 = oe := rfl
        rw [e0] at cp
        have hqp : decide (((q.length : Int) + 1) > 0) = true := by first | (simp; omega) | simp
        have hqi : (0 : Int) < (q.length : Int) + 1 := by omega
        clear hcx hce re e0
        simp only [List.length_cons] at hd2 ⊢
        go_wp2_with fail
        refine (refLined_ok n _ ls a0 wa (hr.later hB0a) HG.out ha).mono ?_
        rintro e w5 ⟨b, rfl, hb, hB5⟩
        have hbt : b = false := by
          cases b with
          | false => rfl
          | true => exact absurd (hb.1 rfl) HJ.out
        subst hbt
        have hB05 := below_c hB0a hB5
        clear hb
        go_wp2
        go_ret2
        exact ⟨rfl, hB05⟩

theorem refTrail_none (n : Nat) (v : Value) (ls : List Ln) (w : World) (hr : LinesRd w v ls) (hg : GoodG n ls) (h : (ls.length = 0 ∨ 2 < (endsUp ls n).length) ∨ (0 < ls.length ∧ (endsUp ls n).length ≤ 2 ∧ ∃ a0 : Nat, startP n ls = (a0 : Int) ∧ a0 < n ∧ ¬ Joined n ls a0)) :
    Calls Tryd.prog 12 #[.int .i64 (n : Int), v] w fun e w' => e = .returned (.tuple #[.slice none 0 0, .bool false]) ∧ Below w.heap.size w w' := by
  rcases h with h | ⟨h0, h2, a0, hs, ha, hj⟩
  · exact refTrail_few n v ls w hr hg h
  · exact refTrail_apart n v ls w hr hg a0 h0 h2 hs ha hj

end Go.Proofs.YtoomdnbbbaooeaaDoor
