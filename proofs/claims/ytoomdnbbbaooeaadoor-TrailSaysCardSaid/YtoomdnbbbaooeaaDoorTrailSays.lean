/- TrailSays returns true for every input: the walk. Conditions: the listed variable holds its handle. -/
import Derived.Test.YtoomdnbbbaooeaaDoorRefTrail2
import Derived.Test.YtoomdnbbbaooeaaDoorRefTrailN
import Derived.Test.YtoomdnbbbaooeaaDoorRefLines
import Derived.Test.YtoomdnbbbaooeaaDoorErr
namespace Go.Proofs.YtoomdnbbbaooeaaDoor
open Go.RowKit Gr

theorem ints_same' (v1 v2 : Value) (xs : List Int) (w : World) (hr1 : Rd w v1 xs.length (ints xs)) (hr2 : Rd w v2 xs.length (ints xs)) :
    Calls Tryd.prog 11 #[v1, v2] w fun e w' => e = .returned (.bool true) ∧ Below w.heap.size w w' := by
  have := ints_b v1 v2 xs xs w hr1 hr2
  rwa [decide_eq_true rfl] at this
theorem ints_nil (w : World) : Calls Tryd.prog 11 #[.slice none 0 0, .slice none 0 0] w fun e w' => e = .returned (.bool true) ∧ Below w.heap.size w w' := ints_same' _ _ [] w (Rd.nil _) (Rd.nil _)
theorem errorSame (q : Nat) (w : World) (hk : q ≠ 0) (hh : Handle w) : Calls Tryd.prog 10 #[errV q, .int .i64 (q : Int)] w fun r w' => r = .returned (.bool true) ∧ Below w.heap.size w w' := by
  have := errorV q q w hk hh
  rwa [decide_eq_true rfl] at this
theorem errorNone (w : World) (hh : Handle w) : Calls Tryd.prog 10 #[.nilIface, .int .i64 0] w fun r w' => r = .returned (.bool true) ∧ Below w.heap.size w w' := by
  have := errorNil 0 w hh
  rwa [decide_eq_true rfl] at this

theorem refEnds_i (n : Nat) (v : Value) (ls : List Ln) (w : World) (hr : LinesRd w v ls) (hg : GoodG n ls) :
    Calls Tryd.prog 8 #[.int .i64 (n : Int), v] w fun e w' => ∃ a c, e = .returned (.slice a ((endsUp ls n).map fun (i : Nat) => (i : Int)).length c) ∧ Rd w' (.slice a ((endsUp ls n).map fun (i : Nat) => (i : Int)).length c) ((endsUp ls n).map fun (i : Nat) => (i : Int)).length (ints ((endsUp ls n).map fun (i : Nat) => (i : Int))) ∧ Below w.heap.size w w' := by
  refine (refEnds_ok n v ls w hr hg).mono ?_
  rintro e w' ⟨a, c, rfl, ho, hB⟩
  rw [← nats_ints'] at ho
  rw [List.length_map]
  exact ⟨a, c, rfl, rd_of_owns ho, hB⟩
open Classical in
theorem refTrail_i (n : Nat) (v : Value) (ls : List Ln) (w : World) (hr : LinesRd w v ls) (hg : GoodG n ls) {a0 t : Nat} (hw : GoodWay n ls a0 t) :
    Calls Tryd.prog 12 #[.int .i64 (n : Int), v] w fun e w' => ∃ a c, e = .returned (.tuple #[.slice a ((wayUp n ls a0 ls.length).map fun (i : Nat) => (i : Int)).length c, .bool true]) ∧ Rd w' (.slice a ((wayUp n ls a0 ls.length).map fun (i : Nat) => (i : Int)).length c) ((wayUp n ls a0 ls.length).map fun (i : Nat) => (i : Int)).length (ints ((wayUp n ls a0 ls.length).map fun (i : Nat) => (i : Int))) ∧ Below w.heap.size w w' := by
  refine (refTrail_ok n v ls w hr hg hw).mono ?_
  rintro e w' ⟨a, c, rfl, ho, hB⟩
  rw [← nats_ints'] at ho
  rw [List.length_map, wayUp_length]
  exact ⟨a, c, rfl, ho, hB⟩

set_option maxRecDepth 100000 in
set_option maxHeartbeats 4000000 in
theorem trailSays_bad (n : Int) {v : Value} {ls : List Ln} {w : World} (hh : Handle w) (hr : LinesRd w v ls) (hc : chk n ls ≠ 0) :
    Calls Tryd.prog 3 #[.int .i64 n, v] w fun e w' => e = .returned (.bool true) ∧ Below w.heap.size w w' := by
  have HC := Lib.hid hc
  have KR := refLines_any n v ls
  have KE := ends_bad n v ls
  have KF := find_bad n v ls
  have hci : (((chk n ls : Nat) : Int) == 0) = false := by rw [beq_eq_false_iff_ne]; omega
  generalize chk n ls = q at *
  clear hc
  go_enter Tryd.func3, Tryd.ntmps3
  go_wp2_with fail
  refine (KR _ hr).mono ?_
  rintro e w0 ⟨rfl, hB0⟩
  go_wp2_with fail
  refine (KE _ (hr.later hB0) HC.out).mono ?_
  rintro e w1 ⟨rfl, hB1⟩
  have hB01 := below_c hB0 hB1
  go_wp2_with fail
  refine (errorSame q _ HC.out (hh.later hB01)).mono ?_
  rintro e w2 ⟨rfl, hB2⟩
  have hB02 := below_c hB01 hB2
  go_wp2_with fail
  refine (ints_nil _).mono ?_
  rintro e w3 ⟨rfl, hB3⟩
  have hB03 := below_c hB02 hB3
  go_wp2_with fail
  refine (KF _ (hr.later hB03) HC.out).mono ?_
  rintro e w4 ⟨rfl, hB4⟩
  have hB04 := below_c hB03 hB4
  go_wp2_with fail
  refine (errorSame q _ HC.out (hh.later hB04)).mono ?_
  rintro e w5 ⟨rfl, hB5⟩
  have hB05 := below_c hB04 hB5
  go_wp2_with fail
  refine (ints_nil _).mono ?_
  rintro e w6 ⟨rfl, hB6⟩
  have hB06 := below_c hB05 hB6
  go_wp2
  go_ret
  exact ⟨rfl, hB06⟩

-- the first half: good lines, who has an odd number

set_option maxRecDepth 100000 in
set_option maxHeartbeats 4000000 in
theorem trailSays_none (n : Nat) {v : Value} {ls : List Ln} {w : World} (hh : Handle w) (hr : LinesRd w v ls) (hg : GoodG n ls) (h : (ls.length = 0 ∨ 2 < (endsUp ls n).length) ∨ (0 < ls.length ∧ (endsUp ls n).length ≤ 2 ∧ ∃ a0 : Nat, startP n ls = (a0 : Int) ∧ a0 < n ∧ ¬ Joined n ls a0)) :
    Calls Tryd.prog 3 #[.int .i64 (n : Int), v] w fun e w' => e = .returned (.bool true) ∧ Below w.heap.size w w' := by
  have KRT := fun w hr => refTrail_none n v ls w hr hg h
  have KF := fun w hr => find_none n v ls w hr hg h
  clear h
  have KR := refLines_any n v ls
  rw [chk_good hg] at KR
  have KRE := fun w hr => refEnds_i n v ls w hr hg
  have KE := fun w hr => ends_ok n v ls w hr hg
  clear hg
  generalize (endsUp ls n).map (fun (i : Nat) => (i : Int)) = Q at *
  go_enter Tryd.func3, Tryd.ntmps3
  go_wp2_with fail
  refine (KR _ hr).mono ?_
  rintro e w0 ⟨rfl, hB0⟩
  go_wp2_with fail
  refine (KRE _ (hr.later hB0)).mono ?_
  rintro e w1 ⟨ar, cr, rfl, rr, hB1⟩
  have hB01 := below_c hB0 hB1
  go_wp2_with fail
  refine (KE _ (hr.later hB01)).mono ?_
  rintro e w2 ⟨ae, ce, rfl, oe, hB2⟩
  have hB02 := below_c hB01 hB2
  have re := rd_of_owns oe
  have rr2 := rr.later hB2
  clear oe rr KR KRE KE
  go_wp2_with fail
  refine (errorNone _ (hh.later hB02)).mono ?_
  rintro e w3 ⟨rfl, hB3⟩
  have hB03 := below_c hB02 hB3
  go_wp2_with fail
  refine (ints_same' _ _ Q w3 (re.later hB3) (rr2.later hB3)).mono ?_
  rintro e w4 ⟨rfl, hB4⟩
  have hB04 := below_c hB03 hB4
  clear re rr2
  go_wp2_with fail
  refine (KRT _ (hr.later hB04)).mono ?_
  rintro e w5 ⟨rfl, hB5⟩
  have hB05 := below_c hB04 hB5
  go_wp2_with fail
  refine (KF _ (hr.later hB05)).mono ?_
  rintro e w6 ⟨rfl, hB6⟩
  have hB06 := below_c hB05 hB6
  go_wp2_with fail
  refine (errorSame 5 _ (by omega) (hh.later hB06)).mono ?_
  rintro e w7 ⟨rfl, hB7⟩
  have hB07 := below_c hB06 hB7
  go_wp2_with fail
  refine (ints_nil _).mono ?_
  rintro e w8 ⟨rfl, hB8⟩
  have hB08 := below_c hB07 hB8
  go_wp2
  go_ret
  exact ⟨rfl, hB08⟩

set_option maxRecDepth 100000 in
set_option maxHeartbeats 4000000 in
theorem trailSays_way (n : Nat) {v : Value} {ls : List Ln} {w : World} (hh : Handle w) (hr : LinesRd w v ls) (hg : GoodG n ls) {a0 t : Nat} (h : GoodWay n ls a0 t) :
    Calls Tryd.prog 3 #[.int .i64 (n : Int), v] w fun e w' => e = .returned (.bool true) ∧ Below w.heap.size w w' := by
  have KRT := fun w hr => refTrail_i n v ls w hr hg h
  have KF := fun w hr => find_way n v ls w hr hg h
  clear h
  generalize (wayUp n ls a0 ls.length).map (fun (i : Nat) => (i : Int)) = Y at *
  have KR := refLines_any n v ls
  rw [chk_good hg] at KR
  have KRE := fun w hr => refEnds_i n v ls w hr hg
  have KE := fun w hr => ends_ok n v ls w hr hg
  clear hg
  generalize (endsUp ls n).map (fun (i : Nat) => (i : Int)) = Q at *
  go_enter Tryd.func3, Tryd.ntmps3
  go_wp2_with fail
  refine (KR _ hr).mono ?_
  rintro e w0 ⟨rfl, hB0⟩
  go_wp2_with fail
  refine (KRE _ (hr.later hB0)).mono ?_
  rintro e w1 ⟨ar, cr, rfl, rr, hB1⟩
  have hB01 := below_c hB0 hB1
  go_wp2_with fail
  refine (KE _ (hr.later hB01)).mono ?_
  rintro e w2 ⟨ae, ce, rfl, oe, hB2⟩
  have hB02 := below_c hB01 hB2
  have re := rd_of_owns oe
  have rr2 := rr.later hB2
  clear oe rr KR KRE KE
  go_wp2_with fail
  refine (errorNone _ (hh.later hB02)).mono ?_
  rintro e w3 ⟨rfl, hB3⟩
  have hB03 := below_c hB02 hB3
  go_wp2_with fail
  refine (ints_same' _ _ Q w3 (re.later hB3) (rr2.later hB3)).mono ?_
  rintro e w4 ⟨rfl, hB4⟩
  have hB04 := below_c hB03 hB4
  clear re rr2
  go_wp2_with fail
  refine (KRT _ (hr.later hB04)).mono ?_
  rintro e w5 ⟨at', ct, rfl, rt, hB5⟩
  have hB05 := below_c hB04 hB5
  go_wp2_with fail
  refine (KF _ (hr.later hB05)).mono ?_
  rintro e w6 ⟨aw, cw, rfl, ow, hB6⟩
  have hB06 := below_c hB05 hB6
  have rw6 := rd_of_owns ow
  have rt6 := rt.later hB6
  clear ow rt KRT KF
  go_wp2_with fail
  refine (errorNone _ (hh.later hB06)).mono ?_
  rintro e w7 ⟨rfl, hB7⟩
  have hB07 := below_c hB06 hB7
  go_wp2_with fail
  refine (ints_same' _ _ Y w7 (rw6.later hB7) (rt6.later hB7)).mono ?_
  rintro e w8 ⟨rfl, hB8⟩
  have hB08 := below_c hB07 hB8
  go_wp2
  go_ret
  exact ⟨rfl, hB08⟩

theorem trailSays_any {w : World} (hh : Handle w) (n : Int) {v : Value} {ls : List Ln} (hr : LinesRd w v ls) :
    Calls Tryd.prog 3 #[.int .i64 n, v] w fun e w' => e = .returned (.bool true) ∧ Below w.heap.size w w' := by
  by_cases hc : chk n ls = 0
  · obtain ⟨m, rfl, hg⟩ := good_of hc
    rcases way_or hg with ⟨a0, t, h⟩ | h
    · exact trailSays_way m hh hr hg h
    · exact trailSays_none m hh hr hg h
  · exact trailSays_bad n hh hr hc

end Go.Proofs.YtoomdnbbbaooeaaDoor
