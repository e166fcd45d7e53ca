/- The closed fact of the degree laws: the walk. Conditions: none. -/
import Derived.Test.YtmkdkjdbmnocoaaDegCan
import Derived.Test.YtmkdkjdbmnocoaaGraphFact
import Derived.Test.YtmkdkjdbmnocoaaSame
import Derived.Test.YtmkdkjdbmnocoaaLit
namespace Go.Proofs.Ytmkdkjdbmnocoaa
open Go.RowKit Gr

theorem perm_dsort {xs ys : List Int} (h : xs.Perm ys) (hs : ys.Pairwise fun x y => y ≤ x) : dsort xs = ys := by
  have h1 : (dsort xs).Pairwise fun x y => y ≤ x := by
    have := List.pairwise_mergeSort (le := fun x y : Int => decide (y ≤ x)) (fun a b c h1 h2 => by simp at *; omega) (fun a b => by simp; omega) xs
    exact this.imp fun h => by simpa using h
  exact List.Perm.eq_of_pairwise (le := fun x y : Int => y ≤ x) (fun a b _ _ h1 h2 => by omega) h1 hs ((dsort_perm xs).trans h)
theorem fact1 : canI (dsort [1, 2, 1]) = true := by
  rw [perm_dsort (ys := [2, 1, 1]) (List.Perm.swap 2 1 [1]) (by decide)]
  decide +kernel
theorem fact2 : canI (dsort [3, 1, 1]) = false := by
  rw [perm_dsort (ys := [3, 1, 1]) (List.Perm.refl _) (by decide)]
  decide +kernel
theorem fact3 : degI 3 [(0, 1), (1, 2)] = [1, 2, 1] := by decide +kernel
theorem dfact_good : GoodG 3 [(0, 1), (1, 2)] := by
  refine ⟨by decide, by decide, by decide, fun l hl => ?_⟩
  simp only [List.mem_cons, List.not_mem_nil, or_false] at hl
  rcases hl with rfl | rfl <;> decide

set_option maxRecDepth 100000 in
set_option maxHeartbeats 2000000 in
theorem degreeFact_any (w : World) : Calls Try.prog 7 #[] w fun e w' => e = .returned (.bool true) ∧ Below w.heap.size w w' := by
  have K1 := fun v w hr => can_ok v 3 [1, 2, 1] w hr rfl (by decide) (by decide) (by decide)
  have K2 := fun v w hr => can_ok v 3 [3, 1, 1] w hr rfl (by decide) (by decide) (by decide)
  have K3 := fun v w hr => degOf_ok 3 v [(0, 1), (1, 2)] w hr dfact_good (by decide +kernel)
  rw [fact1] at K1
  rw [fact2] at K2
  rw [fact3] at K3
  go_enter Try.func7, Try.ntmps7
  go_wp2_with fail
  refine (K1 _ _ (ints_lit [1, 2, 1] rfl rfl rfl (by decide))).mono ?_
  rintro e w1 ⟨rfl, hB1⟩
  have hB1' := below_c (below_alloc' _ _) hB1
  clear hB1
  go_wp2_with fail
  refine (K2 _ _ (ints_lit [3, 1, 1] rfl rfl rfl (by decide))).mono ?_
  rintro e w2 ⟨rfl, hB2⟩
  have hB2' := below_c hB1' (below_c (below_alloc' _ _) hB2)
  clear hB2 hB1'
  go_wp2_with fail
  refine (K3 _ _ (lines_lit [(0, 1), (1, 2)] rfl rfl rfl (by decide))).mono ?_
  rintro e w3 ⟨a3, c3, rfl, o3, hB3⟩
  have r3 : Rd w3 (.slice a3 3 c3) 3 (ints [1, 2, 1]) := rd_of_owns o3
  have hB3' := below_c hB2' (below_c (below_alloc' _ _) hB3)
  clear hB3 hB2' o3
  go_wp2_with fail
  refine (ints_b _ _ [1, 2, 1] [1, 2, 1] _ (r3.later (below_alloc' _ _)) (ints_lit [1, 2, 1] rfl rfl rfl (by decide))).mono ?_
  rintro e w4 ⟨rfl, hB4⟩
  rw [decide_eq_true rfl]
  have hB4' := below_c hB3' (below_c (below_alloc' _ _) hB4)
  go_wp2
  go_ret
  exact ⟨rfl, hB4'⟩
end Go.Proofs.Ytmkdkjdbmnocoaa
