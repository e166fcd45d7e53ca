/- GraphSays returns true for every input: joined. Conditions: the listed variable holds its handle. -/
import Derived.Test.YtlfinlfmlnclhaaDoorGraphSaysFew
namespace Go.Proofs.YtlfinlfmlnclhaaDoor
open Go.RowKit Gr

theorem graphSays_any {w : World} (hh : Handle w) (n : Int) {v : Value} {ls : List Ln} (hr : LinesRd w v ls) (i : Int) :
    Calls Tryd.prog 6 #[.int .i64 n, v, .int .i64 i] w fun e w' => e = .returned (.bool true) ∧ Below w.heap.size w w' := by
  by_cases hc : chk n ls = 0
  · obtain ⟨m, rfl, hg⟩ := good_of hc
    by_cases h24 : 24 < (otherL m ls).length
    · exact graphSays_big hh m hr i hg h24
    · exact graphSays_few hh m hr i hg h24
  · exact graphSays_bad hh n hr i hc

end Go.Proofs.YtlfinlfmlnclhaaDoor
