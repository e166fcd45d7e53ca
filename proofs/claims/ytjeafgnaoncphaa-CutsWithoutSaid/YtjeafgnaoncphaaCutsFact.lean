/- The closed fact of the laws of package cuts: the walk. Conditions: none. -/
import Derived.Test.YtjeafgnaoncphaaBridges
import Derived.Test.YtjeafgnaoncphaaTopDeepQ
import Derived.Test.YtjeafgnaoncphaaGraphFact
import Derived.Test.YtjeafgnaoncphaaLinesEq
import Derived.Test.YtjeafgnaoncphaaLit
namespace Go.Proofs.Ytjeafgnaoncphaa
open Go.RowKit Gr

/-- the four lines of the fact -/
abbrev cf4 : List Ln := [(0, 1), (1, 2), (2, 0), (2, 3)]
theorem cf_good : GoodG 4 cf4 := by
  refine ⟨by decide, by decide, by decide, fun l hl => ?_⟩
  simp only [List.mem_cons, List.not_mem_nil, or_false] at hl
  rcases hl with rfl | rfl | rfl | rfl <;> decide
open Classical in
theorem cf_points : (cutsUp (beside 4 cf4) 4).map (fun (i : Nat) => (i : Int)) = [2] := by
  have h := deepWalk_is (n := 4) (by decide) (adj_bounded cf_good) (fun _ _ h => adj_symm cf_good h)
  have e : cutsUp (beside 4 cf4) 4 = [2] := by
    unfold cutsUp
    have : (List.range 4).filter (fun i => if at1 (deepWalk (beside 4 cf4) 4).frm i < 0 then decide (1 < kidsTo (deepWalk (beside 4 cf4) 4).frm i 4) else heldTo (deepWalk (beside 4 cf4) 4).met (deepWalk (beside 4 cf4) 4).frm (lows (beside 4 cf4) 4 (deepWalk (beside 4 cf4) 4).met (deepWalk (beside 4 cf4) 4).left (deepWalk (beside 4 cf4) 4).frm) i 4) = [2] := by decide +kernel
    rw [← this]
    refine List.filter_congr fun i hi => ?_
    rw [Bool.eq_iff_iff, decide_eq_true_iff]
    exact top_deep h (adj_bounded cf_good) (fun _ _ h => adj_symm cf_good h) (fun a h => adj_ne cf_good h rfl) (adj_nbs (by decide) (adj_bounded cf_good)) (List.mem_range.1 hi)
  rw [e]; rfl
theorem cf_bridges : bridgesL 4 cf4 = [(2, 3)] := by
  unfold bridgesL
  have : brUp cf4 (deepWalk (beside 4 cf4) 4).met (deepWalk (beside 4 cf4) 4).frm (lows (beside 4 cf4) 4 (deepWalk (beside 4 cf4) 4).met (deepWalk (beside 4 cf4) 4).left (deepWalk (beside 4 cf4) 4).frm) 4 = [(2, 3)] := by decide +kernel
  rw [this]
  simp [lsort]

set_option maxRecDepth 100000 in
set_option maxHeartbeats 2000000 in
theorem cutsFact_any (w : World) : Calls Try.prog 9 #[] w fun e w' => e = .returned (.bool true) ∧ Below w.heap.size w w' := by
  have KP := fun v w hr => points_ok 4 v cf4 w hr cf_good
  have KB := fun v w hr => bridges_ok 4 v cf4 w hr cf_good
  rw [cf_points] at KP
  rw [cf_bridges] at KB
  go_enter Try.func9, Try.ntmps9
  go_wp2_with fail
  have hl := lines_lit (w := w) cf4 (e := 33) rfl rfl rfl (by decide)
  refine (KP _ _ hl).mono ?_
  rintro e w1 ⟨a1, c1, rfl, o1, hB1⟩
  have r1 : Rd w1 (.slice a1 1 c1) 1 (ints [2]) := rd_of_owns o1
  have hl1 := hl.later hB1
  have hB01 := below_c (below_alloc' _ _) hB1
  clear o1 hB1
  go_wp2_with fail
  refine (KB _ _ hl1).mono ?_
  rintro e w2 ⟨a2, c2, rfl, o2, hB2⟩
  have r2 : LinesRd w2 (.slice a2 1 c2) [(2, 3)] := rd_of_owns o2
  have r12 := r1.later hB2
  have hB02 := below_c hB01 hB2
  clear o2
  go_wp2_with fail
  refine (ints_b _ _ [2] [2] _ (r12.later (below_alloc' _ _)) (ints_lit [2] rfl rfl rfl (by decide))).mono ?_
  rintro e w3 ⟨rfl, hB3⟩
  rw [decide_eq_true rfl]
  have hB3' := below_c (below_alloc' _ _) hB3
  have hB03 := below_c hB02 hB3'
  have r3 := r2.later hB3'
  clear hB3
  go_wp2_with fail
  refine (lines_b _ _ [(2, 3)] [(2, 3)] _ (r3.later (below_alloc' _ _)) (lines_lit [(2, 3)] rfl rfl rfl (by decide))).mono ?_
  rintro e w4 ⟨rfl, hB4⟩
  rw [decide_eq_true rfl]
  have hB04 := below_c hB03 (below_c (below_alloc' _ _) hB4)
  go_wp2
  go_ret
  exact ⟨rfl, hB04⟩
end Go.Proofs.Ytjeafgnaoncphaa
