/-
  No cell of these rows narrows 'for every input' (looked for: loops, veiled, ifaces, maps, wideKeys, modest, calm, conditions, laid).
  DERIVED. THE GIVEN ROWS OF THIS SEAT. 6 by the template 'for every input the law returns true; each argument reads behind the call as it read before'; 0 by the template 'total and deterministic' (their statements: YtjeafgnaoncphaaTotals.lean).
  GIVEN WITH THE SEED: the statements are not yours to turn. If you find one false, say at which input.
  Laid BY PROGRAM, IN A SANDBOX (cutbox-rows.mjs): the forced cells as the released guide's own fill.sh prints them over the translation c2cef0d6115e2398… (all of the seat's roots in one cut). By AI agents, Wed Nov 11 2026. No macro, syntax, notation, axiom, sorry.
-/
import Derived.Test.YtjeafgnaoncphaaChecked
import GoSem.Claim
import GoSem.ClaimJoined
import GoSem.ClaimMapViews
import Derived.JoinedTies
import Derived.KernelRfl
namespace Go.Proofs.Ytjeafgnaoncphaa
/- THE CELL 'sum', in the pinned program and in every row, IS THE sha256 OF THE DUMP (.gsa) THAT YtjeafgnaoncphaaProg.lean LOADS. Nothing in Lean hashes anything: it is a label: what it is worth is what the hold of that sum in a sandbox is worth. -/
noncomputable def Try.pinned : Pinned := { name := "ytjeafgnaoncphaa", sum := "c2cef0d6115e2398550d5cd7cef3d817e0f014872dcf553de91525d70f622ddc", checked := Try.checked }
namespace Rows
def none {H : Type} : Left H := { results := [], args := [] }

/-- 'brambleweirlaw1.CutsEnds': WHATEVER THE INPUT: true; the input reads as it did. -/
def cutsEndsSpec : ChangeSpec := { name := "cutsEnds", fn := fun _ => fun
  | [d1, d2] => { results := [.lit (.bool true)], args := [d1, d2] }
  | _ => none }
def cutsEndsRow : OpenClaim := { program := "ytjeafgnaoncphaa", sum := "c2cef0d6115e2398550d5cd7cef3d817e0f014872dcf553de91525d70f622ddc", func := "brambleweir/brambleweirlaw1.CutsEnds", spec := "cutsEnds", unfollowed := true, recurses := true, apart := false }
def CutsEndsSaid : Prop := cutsEndsRow.holds Try.pinned (OpenSpec.ofChange cutsEndsSpec)

/-- ITS FALSE NEIGHBOUR: 'it returns false'. Refute it at one input. -/
def cutsEndsWrong : ChangeSpec := { name := "cutsEnds", fn := fun _ => fun
  | [d1, d2] => { results := [.lit (.bool false)], args := [d1, d2] }
  | _ => none }
def CutsEndsWrongFalsely : Prop := cutsEndsRow.holds Try.pinned (OpenSpec.ofChange cutsEndsWrong)

/-- 'brambleweirlaw1.CutsTwo': WHATEVER THE INPUT: true; the input reads as it did. -/
def cutsTwoSpec : ChangeSpec := { name := "cutsTwo", fn := fun _ => fun
  | [d1, d2] => { results := [.lit (.bool true)], args := [d1, d2] }
  | _ => none }
def cutsTwoRow : OpenClaim := { program := "ytjeafgnaoncphaa", sum := "c2cef0d6115e2398550d5cd7cef3d817e0f014872dcf553de91525d70f622ddc", func := "brambleweir/brambleweirlaw1.CutsTwo", spec := "cutsTwo", unfollowed := true, recurses := true, apart := false }
def CutsTwoSaid : Prop := cutsTwoRow.holds Try.pinned (OpenSpec.ofChange cutsTwoSpec)

/-- ITS FALSE NEIGHBOUR: 'it returns false'. Refute it at one input. -/
def cutsTwoWrong : ChangeSpec := { name := "cutsTwo", fn := fun _ => fun
  | [d1, d2] => { results := [.lit (.bool false)], args := [d1, d2] }
  | _ => none }
def CutsTwoWrongFalsely : Prop := cutsTwoRow.holds Try.pinned (OpenSpec.ofChange cutsTwoWrong)

/-- 'brambleweirlaw1.CutsRing': WHATEVER THE INPUT: true; the input reads as it did. -/
def cutsRingSpec : ChangeSpec := { name := "cutsRing", fn := fun _ => fun
  | [d1, d2, d3] => { results := [.lit (.bool true)], args := [d1, d2, d3] }
  | _ => none }
def cutsRingRow : OpenClaim := { program := "ytjeafgnaoncphaa", sum := "c2cef0d6115e2398550d5cd7cef3d817e0f014872dcf553de91525d70f622ddc", func := "brambleweir/brambleweirlaw1.CutsRing", spec := "cutsRing", unfollowed := true, recurses := true, apart := false }
def CutsRingSaid : Prop := cutsRingRow.holds Try.pinned (OpenSpec.ofChange cutsRingSpec)

/-- ITS FALSE NEIGHBOUR: 'it returns false'. Refute it at one input. -/
def cutsRingWrong : ChangeSpec := { name := "cutsRing", fn := fun _ => fun
  | [d1, d2, d3] => { results := [.lit (.bool false)], args := [d1, d2, d3] }
  | _ => none }
def CutsRingWrongFalsely : Prop := cutsRingRow.holds Try.pinned (OpenSpec.ofChange cutsRingWrong)

/-- 'brambleweirlaw1.CutsWithout': WHATEVER THE INPUT: true; the input reads as it did. -/
def cutsWithoutSpec : ChangeSpec := { name := "cutsWithout", fn := fun _ => fun
  | [d1, d2, d3] => { results := [.lit (.bool true)], args := [d1, d2, d3] }
  | _ => none }
def cutsWithoutRow : OpenClaim := { program := "ytjeafgnaoncphaa", sum := "c2cef0d6115e2398550d5cd7cef3d817e0f014872dcf553de91525d70f622ddc", func := "brambleweir/brambleweirlaw1.CutsWithout", spec := "cutsWithout", unfollowed := true, recurses := true, apart := false }
def CutsWithoutSaid : Prop := cutsWithoutRow.holds Try.pinned (OpenSpec.ofChange cutsWithoutSpec)

/-- ITS FALSE NEIGHBOUR: 'it returns false'. Refute it at one input. -/
def cutsWithoutWrong : ChangeSpec := { name := "cutsWithout", fn := fun _ => fun
  | [d1, d2, d3] => { results := [.lit (.bool false)], args := [d1, d2, d3] }
  | _ => none }
def CutsWithoutWrongFalsely : Prop := cutsWithoutRow.holds Try.pinned (OpenSpec.ofChange cutsWithoutWrong)

/-- 'brambleweirtop.TopWays': WHATEVER THE INPUT: true; the input reads as it did. -/
def topWaysSpec : ChangeSpec := { name := "topWays", fn := fun _ => fun
  | [d1, d2, d3, d4] => { results := [.lit (.bool true)], args := [d1, d2, d3, d4] }
  | _ => none }
def topWaysRow : OpenClaim := { program := "ytjeafgnaoncphaa", sum := "c2cef0d6115e2398550d5cd7cef3d817e0f014872dcf553de91525d70f622ddc", func := "brambleweir/brambleweirtop.TopWays", spec := "topWays", unfollowed := true, recurses := true, apart := false }
def TopWaysSaid : Prop := topWaysRow.holds Try.pinned (OpenSpec.ofChange topWaysSpec)

/-- ITS FALSE NEIGHBOUR: 'it returns false'. Refute it at one input. -/
def topWaysWrong : ChangeSpec := { name := "topWays", fn := fun _ => fun
  | [d1, d2, d3, d4] => { results := [.lit (.bool false)], args := [d1, d2, d3, d4] }
  | _ => none }
def TopWaysWrongFalsely : Prop := topWaysRow.holds Try.pinned (OpenSpec.ofChange topWaysWrong)

/-- 'brambleweirtop.TopTrees': WHATEVER THE INPUT: true; the input reads as it did. -/
def topTreesSpec : ChangeSpec := { name := "topTrees", fn := fun _ => fun
  | [d1, d2] => { results := [.lit (.bool true)], args := [d1, d2] }
  | _ => none }
def topTreesRow : OpenClaim := { program := "ytjeafgnaoncphaa", sum := "c2cef0d6115e2398550d5cd7cef3d817e0f014872dcf553de91525d70f622ddc", func := "brambleweir/brambleweirtop.TopTrees", spec := "topTrees", unfollowed := true, recurses := true, apart := false }
def TopTreesSaid : Prop := topTreesRow.holds Try.pinned (OpenSpec.ofChange topTreesSpec)

/-- ITS FALSE NEIGHBOUR: 'it returns false'. Refute it at one input. -/
def topTreesWrong : ChangeSpec := { name := "topTrees", fn := fun _ => fun
  | [d1, d2] => { results := [.lit (.bool false)], args := [d1, d2] }
  | _ => none }
def TopTreesWrongFalsely : Prop := topTreesRow.holds Try.pinned (OpenSpec.ofChange topTreesWrong)

/- THE SECOND FORM. 'bulk': how many values and letters a reading holds, each counted each time it is reached (what is shared counts as often as it is met; a slice's spare places count too). A statement '..UptoSaid' is the law's where the arguments, and the package variables that the reading takes, are together of bulk at most 1048576: NARROWER than '..Said'. Prove '..Said' where nothing that the law and all that it calls make is longer than what came in: it says more and counts as full. Else prove '..UptoSaid'. A law counts once. -/
mutual
def uptoBulk {H : Type} : DataW H → Nat
  | .lit (.string bytes) => bytes.length + 1
  | .lit _ => 1
  | .nil => 1
  | .ptr d => uptoBulk d + 1
  | .slice elems spare => uptoBulkAll elems + uptoBulkAll spare + 1
  | .agg parts => uptoBulkAll parts + 1
  | .iface _ d => uptoBulk d + 1
  | .map entries => uptoBulkEntries entries + 1
  | .held _ => 1
def uptoBulkAll {H : Type} : List (DataW H) → Nat
  | [] => 0
  | d :: r => uptoBulk d + uptoBulkAll r
def uptoBulkEntries {H : Type} : List (Lit × DataW H) → Nat
  | [] => 0
  | x :: r => uptoBulkEntry x + uptoBulkEntries r
def uptoBulkEntry {H : Type} : Lit × DataW H → Nat
  | (.string bytes, d) => bytes.length + uptoBulk d + 1
  | (_, d) => uptoBulk d + 1
 end
def uptoSmall : (H : Type) → List (DataW H) → Bool := fun _ ds => decide (uptoBulkAll ds ≤ 1048576)
def OpenSpec.upto (s : _root_.Go.ChangeSpec) : _root_.Go.OpenSpec := { _root_.Go.OpenSpec.ofChange s with cond := some uptoSmall }

/-- 'brambleweirlaw1.CutsEnds', WHERE WHAT IT READS IS OF BULK AT MOST 1048576: true; the input reads as it did. -/
def cutsEndsUptoRow : OpenClaim := { program := "ytjeafgnaoncphaa", sum := "c2cef0d6115e2398550d5cd7cef3d817e0f014872dcf553de91525d70f622ddc", func := "brambleweir/brambleweirlaw1.CutsEnds", spec := "cutsEnds", unfollowed := true, recurses := true, apart := false, narrowed := true }
def CutsEndsUptoSaid : Prop := cutsEndsUptoRow.holds Try.pinned (OpenSpec.upto cutsEndsSpec)

/-- 'brambleweirlaw1.CutsTwo', WHERE WHAT IT READS IS OF BULK AT MOST 1048576: true; the input reads as it did. -/
def cutsTwoUptoRow : OpenClaim := { program := "ytjeafgnaoncphaa", sum := "c2cef0d6115e2398550d5cd7cef3d817e0f014872dcf553de91525d70f622ddc", func := "brambleweir/brambleweirlaw1.CutsTwo", spec := "cutsTwo", unfollowed := true, recurses := true, apart := false, narrowed := true }
def CutsTwoUptoSaid : Prop := cutsTwoUptoRow.holds Try.pinned (OpenSpec.upto cutsTwoSpec)

/-- 'brambleweirlaw1.CutsRing', WHERE WHAT IT READS IS OF BULK AT MOST 1048576: true; the input reads as it did. -/
def cutsRingUptoRow : OpenClaim := { program := "ytjeafgnaoncphaa", sum := "c2cef0d6115e2398550d5cd7cef3d817e0f014872dcf553de91525d70f622ddc", func := "brambleweir/brambleweirlaw1.CutsRing", spec := "cutsRing", unfollowed := true, recurses := true, apart := false, narrowed := true }
def CutsRingUptoSaid : Prop := cutsRingUptoRow.holds Try.pinned (OpenSpec.upto cutsRingSpec)

/-- 'brambleweirlaw1.CutsWithout', WHERE WHAT IT READS IS OF BULK AT MOST 1048576: true; the input reads as it did. -/
def cutsWithoutUptoRow : OpenClaim := { program := "ytjeafgnaoncphaa", sum := "c2cef0d6115e2398550d5cd7cef3d817e0f014872dcf553de91525d70f622ddc", func := "brambleweir/brambleweirlaw1.CutsWithout", spec := "cutsWithout", unfollowed := true, recurses := true, apart := false, narrowed := true }
def CutsWithoutUptoSaid : Prop := cutsWithoutUptoRow.holds Try.pinned (OpenSpec.upto cutsWithoutSpec)

/-- 'brambleweirtop.TopWays', WHERE WHAT IT READS IS OF BULK AT MOST 1048576: true; the input reads as it did. -/
def topWaysUptoRow : OpenClaim := { program := "ytjeafgnaoncphaa", sum := "c2cef0d6115e2398550d5cd7cef3d817e0f014872dcf553de91525d70f622ddc", func := "brambleweir/brambleweirtop.TopWays", spec := "topWays", unfollowed := true, recurses := true, apart := false, narrowed := true }
def TopWaysUptoSaid : Prop := topWaysUptoRow.holds Try.pinned (OpenSpec.upto topWaysSpec)

/-- 'brambleweirtop.TopTrees', WHERE WHAT IT READS IS OF BULK AT MOST 1048576: true; the input reads as it did. -/
def topTreesUptoRow : OpenClaim := { program := "ytjeafgnaoncphaa", sum := "c2cef0d6115e2398550d5cd7cef3d817e0f014872dcf553de91525d70f622ddc", func := "brambleweir/brambleweirtop.TopTrees", spec := "topTrees", unfollowed := true, recurses := true, apart := false, narrowed := true }
def TopTreesUptoSaid : Prop := topTreesUptoRow.holds Try.pinned (OpenSpec.upto topTreesSpec)

end Rows
end Go.Proofs.Ytjeafgnaoncphaa
