/- The closed fact of the deep laws, and deep.Walk where something is wrong: the walks. Conditions: in each statement. -/
import Derived.Test.YtjeafgnaoncphaaDeepW
import Derived.Test.YtjeafgnaoncphaaWalkFact
namespace Go.Proofs.Ytjeafgnaoncphaa
open Go.RowKit Gr

set_option maxRecDepth 100000 in
set_option maxHeartbeats 1000000 in
theorem deep_bad (n : Int) (v : Value) (ls : List Ln) (w : World) (hr : LinesRd w v ls) (hc : chk n ls ≠ 0) :
    Calls Try.prog 32 #[.int .i64 n, v] w fun e w' => e = .returned (.tuple #[.slice none 0 0, .slice none 0 0, .slice none 0 0, errV (chk n ls)]) ∧ Below w.heap.size w w' := by
  have HC := Lib.hid (errOf_pos hc)
  have hb3 : Below w.heap.size w (((w.alloc (.cells #[.slice none 0 0] 28)).alloc (.cells #[.slice none 0 0] 28)).alloc (.cells #[.slice none 0 0] 28)) := below_c (below_2 _ _ _) (below_alloc' _ _)
  have x40 : Boxed (((w.alloc (.cells #[.slice none 0 0] 28)).alloc (.cells #[.slice none 0 0] 28)).alloc (.cells #[.slice none 0 0] 28)) w.heap.size 28 (.slice none 0 0) := ((Boxed.new w 28 (.slice none 0 0)).alloc _).alloc _
  have x50 : Boxed (((w.alloc (.cells #[.slice none 0 0] 28)).alloc (.cells #[.slice none 0 0] 28)).alloc (.cells #[.slice none 0 0] 28)) (w.heap.size + 1) 28 (.slice none 0 0) := by
    have h := (Boxed.new (w.alloc (.cells #[.slice none 0 0] 28)) 28 (.slice none 0 0)).alloc (.cells #[.slice none 0 0] 28)
    rwa [World.size_alloc] at h
  have x60 : Boxed (((w.alloc (.cells #[.slice none 0 0] 28)).alloc (.cells #[.slice none 0 0] 28)).alloc (.cells #[.slice none 0 0] 28)) (w.heap.size + 1 + 1) 28 (.slice none 0 0) := by
    have h := (Boxed.new ((w.alloc (.cells #[.slice none 0 0] 28)).alloc (.cells #[.slice none 0 0] 28)) 28 (.slice none 0 0))
    rwa [World.size_alloc, World.size_alloc] at h
  have hr3 := hr.later hb3
  clear hc
  go_enter Try.func32, Try.ntmps32
  generalize hW : (((w.alloc (.cells #[.slice none 0 0] 28)).alloc (.cells #[.slice none 0 0] 28)).alloc (.cells #[.slice none 0 0] 28)) = W at *
  go_wp2_with fail
  refine (graphCheck_any n v ls _ hr3).mono ?_
  rintro e w1 ⟨rfl, hB⟩
  rw [HC.out]
  have d4 := boxed_later x40 hB
  have d5 := boxed_later x50 hB
  have d6 := boxed_later x60 hB
  have s4 := setCell_same d4
  have s5 := setCell_same d5
  have s6 := setCell_same d6
  have c4 := d4.cell
  have c5 := d5.cell
  have c6 := d6.cell
  have f4 := d4.frozen
  have f5 := d5.frozen
  have f6 := d6.frozen
  have hBw := hb3.trans (hB.mono (by rw [← hW]; simp; omega))
  clear hb3 hr3 hr
  go_wp2
  refine bodyPost_ret (results_c3t rfl _ _ (w := w1) (v1 := .slice none 0 0) (v2 := .slice none 0 0) (v3 := .slice none 0 0) (a1 := ⟨w.heap.size, 0, none⟩) (a2 := ⟨w.heap.size + 1, 0, none⟩) (a3 := ⟨w.heap.size + 1 + 1, 0, none⟩) rfl ?_ rfl ?_ rfl ?_) rfl ?_
  · go_simp
  · go_simp
  · go_simp
  exact ⟨rfl, hBw⟩

theorem deepf_good : GoodG 3 [(0, 2), (1, 2)] := by
  refine ⟨by decide, by decide, by decide, fun l hl => ?_⟩
  simp only [List.mem_cons, List.not_mem_nil, or_false] at hl
  rcases hl with rfl | rfl <;> decide
theorem deepf_met : (deepWalk (beside 3 [(0, 2), (1, 2)]) 3).met = [0, 2, 1] := by decide +kernel
theorem deepf_left : (deepWalk (beside 3 [(0, 2), (1, 2)]) 3).left = [5, 3, 4] := by decide +kernel
theorem deepf_frm : (deepWalk (beside 3 [(0, 2), (1, 2)]) 3).frm = [-1, 2, 0] := by decide +kernel

end Go.Proofs.Ytjeafgnaoncphaa
