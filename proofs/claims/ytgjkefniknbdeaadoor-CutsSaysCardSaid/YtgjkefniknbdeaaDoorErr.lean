/- What same.Error returns, of an error that is there and of none. Conditions: the listed variable holds its handle. -/
import Derived.Test.YtgjkefniknbdeaaDoorAs
import Derived.Test.YtgjkefniknbdeaaDoorCoreCheck
namespace Go.Proofs.YtgjkefniknbdeaaDoor
open Go.RowKit

theorem errorV (k : Nat) (e : Int) (w : World) (hk : k ≠ 0) (hh : Handle w) : Calls Tryd.prog 11 #[errV k, .int .i64 e] w fun r w' => r = .returned (.bool (decide ((k : Int) = e))) ∧ Below w.heap.size w w' := by
  have h := errorIs k e w hh
  rwa [errOf_pos hk] at h

theorem errorNil (e : Int) (w : World) (hh : Handle w) : Calls Tryd.prog 11 #[.nilIface, .int .i64 e] w fun r w' => r = .returned (.bool (decide ((0 : Int) = e))) ∧ Below w.heap.size w w' :=
  errorIs 0 e w hh

end Go.Proofs.YtgjkefniknbdeaaDoor
