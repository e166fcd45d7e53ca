/- What E.Back, E.Lines, graph.Other return: the walks. Conditions: in each statement. -/
import Derived.Test.YtjeafgnaoncphaaRowEq
import Derived.Test.YtjeafgnaoncphaaPlainA
import Derived.Deep.AppendLies
import Derived.Deep.RegionLaw
namespace Go.Proofs.Ytjeafgnaoncphaa
open Go.RowKit Gr

theorem info_line : (Try.prog.info? 33).map (fun i => (i.zero, i.size, i.bytes)) = some (some (.agg #[.int .i64 0, .int .i64 0]), 2, 16) := by kernel_rfl

theorem cellsOf_append (a b : List Ln) : cellsOf (a ++ b) = cellsOf a ++ cellsOf b := by simp [cellsOf]

end Go.Proofs.Ytjeafgnaoncphaa
