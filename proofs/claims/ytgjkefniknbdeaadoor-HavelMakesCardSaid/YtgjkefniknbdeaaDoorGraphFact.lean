/- The closed fact of the graph laws: the walk. Conditions: none. -/
import Derived.Test.YtgjkefniknbdeaaDoorOther
import Derived.Test.YtgjkefniknbdeaaDoorLit
namespace Go.Proofs.YtgjkefniknbdeaaDoor
open Go.RowKit Gr

theorem lines_lit {w : World} (ls : List Ln) {cs : Array Value} {e : TypeId} {g n : Nat} (hg : g = w.heap.size) (hn : n = ls.length) (hc : cs = (cellsOf ls).toArray) (hm : ls.length ≤ maxLen) :
    LinesRd (w.alloc (.cells cs e)) (.slice (some ⟨g, 0, none⟩) n n) ls := by
  subst hg hn
  exact rd_lit (cellsOf ls) hc hm (fun h => List.eq_nil_of_length_eq_zero (by rw [cellsOf_length, h]))
theorem fact_rows : besideRows 3 [(2, 0)] = [[2], [], [0]] := by decide +kernel
theorem fact_other : otherL 3 [(2, 0)] = [(0, 1), (1, 2)] := by decide +kernel
theorem fact_good : GoodG 3 [(2, 0)] := by
  refine ⟨by decide, by decide, by decide, fun l hl => ?_⟩
  rw [List.mem_singleton] at hl
  subst hl
  decide

end Go.Proofs.YtgjkefniknbdeaaDoor
