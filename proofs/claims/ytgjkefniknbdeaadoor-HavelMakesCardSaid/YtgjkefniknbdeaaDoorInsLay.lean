/- The contracts of the shelf laid at this program: what the functions of the library are. Conditions: none. -/
import Derived.Shelf.SlLaysF
import Derived.Shelf.SlGeneric
import Derived.Test.YtgjkefniknbdeaaDoorMem
namespace Go.Proofs.YtgjkefniknbdeaaDoor
open Go.Shelf

def insF_ren : Go.Shelf.Ren := ⟨fun | 20 => 70 | n => n, fun | 24 => 3 | 22 => 22 | 3 => 3 | 25 => 59 | 4 => 4 | 0 => 0 | n => n, fun | n => n⟩

theorem insF : Go.Proofs.SlLaysF.n20 Tryd.prog insF_ren := {
  mixed := by kernel_rfl
  f20 := ⟨Tryd.f70.name, by decide, Tryd.func70.trans (congrArg some (by kernel_rfl))⟩
  t0 := Tryd.underlying0
  a0 := Tryd.isAgg0
  z0 := Tryd.sizeOf0
  v0 := Tryd.zeroValue0
  t3 := Tryd.underlying3
  a3 := Tryd.isAgg3
  z3 := Tryd.sizeOf3
  v3 := Tryd.zeroValue3
  t4 := Tryd.underlying4
  a4 := Tryd.isAgg4
  z4 := Tryd.sizeOf4
  v4 := Tryd.zeroValue4
  t22 := Tryd.underlying22
  a22 := Tryd.isAgg22
  z22 := Tryd.sizeOf22
  v22 := Tryd.zeroValue22
  a24 := Tryd.isAgg3
  z24 := Tryd.sizeOf3
  t25 := Tryd.underlying59
  a25 := Tryd.isAgg59
  z25 := Tryd.sizeOf59
  v25 := Tryd.zeroValue59 }

end Go.Proofs.YtgjkefniknbdeaaDoor
