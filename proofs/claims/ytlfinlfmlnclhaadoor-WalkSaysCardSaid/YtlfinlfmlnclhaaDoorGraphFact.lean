/- The closed fact of the graph laws: the walk. Conditions: none. -/
import Derived.Test.YtlfinlfmlnclhaaDoorOther
import Derived.Test.YtlfinlfmlnclhaaDoorLit
namespace Go.Proofs.YtlfinlfmlnclhaaDoor
open Go.RowKit Gr

theorem lines_lit {w : World} (ls : List Ln) {cs : Array Value} {e : TypeId} {g n : Nat} (hg : g = w.heap.size) (hn : n = ls.length) (hc : cs = (cellsOf ls).toArray) (hm : ls.length ≤ maxLen) :
    LinesRd (w.alloc (.cells cs e)) (.slice (some ⟨g, 0, none⟩) n n) ls := by
  subst hg hn
  exact rd_lit (cellsOf ls) hc hm (fun h => List.eq_nil_of_length_eq_zero (by rw [cellsOf_length, h]))
theorem fact_rows : besideRows 3 [(2, 0)] = [[2], [], [0]] := by decide +kernel
theorem fact_other : otherL 3 [(2, 0)] = [(0, 1), (1, 2)] := by decide +kernel
theorem fact_good : GoodG 3 [(2, 0)] := by
  refine ⟨by decide, by decide, by decide, fun l hl => ?_⟩
  rw [List.mem_singleton] at hl
  subst hl
  decide

set_option maxRecDepth 100000 in
set_option maxHeartbeats 1000000 in
theorem graphFact_any (w : World) : Calls Tryd.prog 9 #[] w fun e w' => e = .returned (.bool true) ∧ Below w.heap.size w w' := by
  go_enter Tryd.func9, Tryd.ntmps9
  go_wp2_with fail
  refine (graphBeside_ok 3 _ [(2, 0)] _ (lines_lit [(2, 0)] rfl rfl rfl (by decide)) fact_good (chk_good fact_good)).mono ?_
  rintro e w1 ⟨u, rfl, hrows, hB1⟩
  rw [fact_rows] at hrows
  have hB1' := below_c (below_alloc' _ _) hB1
  clear hB1
  go_wp2_with fail
  refine (other_ok 3 _ [(2, 0)] _ (lines_lit [(2, 0)] rfl rfl rfl (by decide)) fact_good).mono ?_
  rintro e w2 ⟨hB2, ⟨h, _⟩ | ⟨_, u2, rfl, ho⟩⟩
  · rw [fact_other] at h; exact absurd h (by decide)
  rw [fact_other] at ho
  have hB2' := below_c (below_alloc' _ _) hB2
  have hrows2 := hrows.later hB2'
  have hB12 := below_c hB1' hB2'
  have ho2 := rd_of_owns ho
  clear ho hB2 hB2' hrows hB1'
  go_wp2_with fail
  refine (rows_b _ _ [[2], [], [0]] [[2], [], [0]] _ ?_ ?_).mono ?_
  · exact hrows2.later (below_c (below_2 _ _ _) (below_2 _ _ _))
  · refine ⟨[_, _, _], vals_lit _ (by simp) rfl rfl (show (3 : Nat) ≤ maxLen by decide), .cons ?_ (.cons ?_ (.cons ?_ .nil))⟩
    · exact (ints_lit [2] rfl rfl rfl (by decide)).later (below_c (below_2 _ _ _) (below_alloc' _ _))
    · exact (ints_lit [] (by simp) rfl rfl (by decide)).later (below_2 _ _ _)
    · exact (ints_lit [0] (by simp) rfl rfl (by decide)).later (below_alloc' _ _)
  rintro e w3 ⟨rfl, hB3⟩
  have hB23 := below_c (below_c (below_2 _ _ _) (below_2 _ _ _)) hB3
  have hB13 := below_c hB12 hB23
  have ho3 := ho2.later hB23
  clear hB3 hB23 hrows2 ho2 hB12
  rw [decide_eq_true (rfl : [[(2 : Int)], [], [0]] = [[2], [], [0]])]
  go_wp2_with fail
  refine (lines_b _ _ [(0, 1), (1, 2)] [(0, 1), (1, 2)] _ (ho3.later (below_alloc' _ _)) (lines_lit [(0, 1), (1, 2)] rfl rfl rfl (by decide))).mono ?_
  rintro e w4 ⟨rfl, hB4⟩
  rw [decide_eq_true (rfl : [((0 : Int), (1 : Int)), (1, 2)] = [(0, 1), (1, 2)])]
  have hB14 := below_c (below_c hB13 (below_alloc' _ _)) hB4
  go_wp2
  go_ret
  exact ⟨rfl, hB14⟩

end Go.Proofs.YtlfinlfmlnclhaaDoor
