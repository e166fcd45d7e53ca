/-
  No cell of these rows narrows 'for every input' (looked for: loops, veiled, ifaces, maps, wideKeys, modest, calm, conditions, laid).
  DERIVED. THE GIVEN ROWS OF THIS SEAT. 10 by the template 'for every input the law returns true; each argument reads behind the call as it read before'; 0 by the template 'total and deterministic' (their statements: YthlnejfojaldnaaTotals.lean).
  GIVEN WITH THE SEED: the statements are not yours to turn. If you find one false, say at which input.
  Laid BY PROGRAM, IN A SANDBOX (cutbox-rows.mjs): the forced cells as the released guide's own fill.sh prints them over the translation 90e4cd9b8bd8aed9… (all of the seat's roots in one cut). By AI agents, Wed Nov 11 2026. No macro, syntax, notation, axiom, sorry.
-/
import Derived.Test.YthlnejfojaldnaaChecked
import GoSem.Claim
import GoSem.ClaimJoined
import GoSem.ClaimMapViews
import Derived.JoinedTies
import Derived.KernelRfl
namespace Go.Proofs.Ythlnejfojaldnaa
/- THE CELL 'sum', in the pinned program and in every row, IS THE sha256 OF THE DUMP (.gsa) THAT YthlnejfojaldnaaProg.lean LOADS. Nothing in Lean hashes anything: it is a label: what it is worth is what the hold of that sum in a sandbox is worth. -/
noncomputable def Try.pinned : Pinned := { name := "ythlnejfojaldnaa", sum := "90e4cd9b8bd8aed9c0a4783a367faa3b42e5e4150be5b513f06f4c4a6aa002cc", checked := Try.checked }
namespace Rows
def none {H : Type} : Left H := { results := [], args := [] }

/-- 'brambleweirlaw1.DeepBrackets': WHATEVER THE INPUT: true; the input reads as it did. -/
def deepBracketsSpec : ChangeSpec := { name := "deepBrackets", fn := fun _ => fun
  | [d1, d2] => { results := [.lit (.bool true)], args := [d1, d2] }
  | _ => none }
def deepBracketsRow : OpenClaim := { program := "ythlnejfojaldnaa", sum := "90e4cd9b8bd8aed9c0a4783a367faa3b42e5e4150be5b513f06f4c4a6aa002cc", func := "brambleweir/brambleweirlaw1.DeepBrackets", spec := "deepBrackets", unfollowed := true, recurses := true, apart := false }
def DeepBracketsSaid : Prop := deepBracketsRow.holds Try.pinned (OpenSpec.ofChange deepBracketsSpec)

/-- ITS FALSE NEIGHBOUR: 'it returns false'. Refute it at one input. -/
def deepBracketsWrong : ChangeSpec := { name := "deepBrackets", fn := fun _ => fun
  | [d1, d2] => { results := [.lit (.bool false)], args := [d1, d2] }
  | _ => none }
def DeepBracketsWrongFalsely : Prop := deepBracketsRow.holds Try.pinned (OpenSpec.ofChange deepBracketsWrong)

/-- 'brambleweirlaw1.DeepBack': WHATEVER THE INPUT: true; the input reads as it did. -/
def deepBackSpec : ChangeSpec := { name := "deepBack", fn := fun _ => fun
  | [d1, d2] => { results := [.lit (.bool true)], args := [d1, d2] }
  | _ => none }
def deepBackRow : OpenClaim := { program := "ythlnejfojaldnaa", sum := "90e4cd9b8bd8aed9c0a4783a367faa3b42e5e4150be5b513f06f4c4a6aa002cc", func := "brambleweir/brambleweirlaw1.DeepBack", spec := "deepBack", unfollowed := true, recurses := true, apart := false }
def DeepBackSaid : Prop := deepBackRow.holds Try.pinned (OpenSpec.ofChange deepBackSpec)

/-- ITS FALSE NEIGHBOUR: 'it returns false'. Refute it at one input. -/
def deepBackWrong : ChangeSpec := { name := "deepBack", fn := fun _ => fun
  | [d1, d2] => { results := [.lit (.bool false)], args := [d1, d2] }
  | _ => none }
def DeepBackWrongFalsely : Prop := deepBackRow.holds Try.pinned (OpenSpec.ofChange deepBackWrong)

/-- 'brambleweirlaw1.GraphTurn': WHATEVER THE INPUT: true; the input reads as it did. -/
def graphTurnSpec : ChangeSpec := { name := "graphTurn", fn := fun _ => fun
  | [d1, d2] => { results := [.lit (.bool true)], args := [d1, d2] }
  | _ => none }
def graphTurnRow : OpenClaim := { program := "ythlnejfojaldnaa", sum := "90e4cd9b8bd8aed9c0a4783a367faa3b42e5e4150be5b513f06f4c4a6aa002cc", func := "brambleweir/brambleweirlaw1.GraphTurn", spec := "graphTurn", unfollowed := true, recurses := true, apart := false }
def GraphTurnSaid : Prop := graphTurnRow.holds Try.pinned (OpenSpec.ofChange graphTurnSpec)

/-- ITS FALSE NEIGHBOUR: 'it returns false'. Refute it at one input. -/
def graphTurnWrong : ChangeSpec := { name := "graphTurn", fn := fun _ => fun
  | [d1, d2] => { results := [.lit (.bool false)], args := [d1, d2] }
  | _ => none }
def GraphTurnWrongFalsely : Prop := graphTurnRow.holds Try.pinned (OpenSpec.ofChange graphTurnWrong)

/-- 'brambleweirlaw1.WalkSteps': WHATEVER THE INPUT: true; the input reads as it did. -/
def walkStepsSpec : ChangeSpec := { name := "walkSteps", fn := fun _ => fun
  | [d1, d2, d3] => { results := [.lit (.bool true)], args := [d1, d2, d3] }
  | _ => none }
def walkStepsRow : OpenClaim := { program := "ythlnejfojaldnaa", sum := "90e4cd9b8bd8aed9c0a4783a367faa3b42e5e4150be5b513f06f4c4a6aa002cc", func := "brambleweir/brambleweirlaw1.WalkSteps", spec := "walkSteps", unfollowed := true, recurses := true, apart := false }
def WalkStepsSaid : Prop := walkStepsRow.holds Try.pinned (OpenSpec.ofChange walkStepsSpec)

/-- ITS FALSE NEIGHBOUR: 'it returns false'. Refute it at one input. -/
def walkStepsWrong : ChangeSpec := { name := "walkSteps", fn := fun _ => fun
  | [d1, d2, d3] => { results := [.lit (.bool false)], args := [d1, d2, d3] }
  | _ => none }
def WalkStepsWrongFalsely : Prop := walkStepsRow.holds Try.pinned (OpenSpec.ofChange walkStepsWrong)

/-- 'brambleweirlaw1.GraphWithout': WHATEVER THE INPUT: true; the input reads as it did. -/
def graphWithoutSpec : ChangeSpec := { name := "graphWithout", fn := fun _ => fun
  | [d1, d2, d3, d4] => { results := [.lit (.bool true)], args := [d1, d2, d3, d4] }
  | _ => none }
def graphWithoutRow : OpenClaim := { program := "ythlnejfojaldnaa", sum := "90e4cd9b8bd8aed9c0a4783a367faa3b42e5e4150be5b513f06f4c4a6aa002cc", func := "brambleweir/brambleweirlaw1.GraphWithout", spec := "graphWithout", unfollowed := true, recurses := true, apart := false }
def GraphWithoutSaid : Prop := graphWithoutRow.holds Try.pinned (OpenSpec.ofChange graphWithoutSpec)

/-- ITS FALSE NEIGHBOUR: 'it returns false'. Refute it at one input. -/
def graphWithoutWrong : ChangeSpec := { name := "graphWithout", fn := fun _ => fun
  | [d1, d2, d3, d4] => { results := [.lit (.bool false)], args := [d1, d2, d3, d4] }
  | _ => none }
def GraphWithoutWrongFalsely : Prop := graphWithoutRow.holds Try.pinned (OpenSpec.ofChange graphWithoutWrong)

/-- 'brambleweirlaw1.DeepParts': WHATEVER THE INPUT: true; the input reads as it did. -/
def deepPartsSpec : ChangeSpec := { name := "deepParts", fn := fun _ => fun
  | [d1, d2] => { results := [.lit (.bool true)], args := [d1, d2] }
  | _ => none }
def deepPartsRow : OpenClaim := { program := "ythlnejfojaldnaa", sum := "90e4cd9b8bd8aed9c0a4783a367faa3b42e5e4150be5b513f06f4c4a6aa002cc", func := "brambleweir/brambleweirlaw1.DeepParts", spec := "deepParts", unfollowed := true, recurses := true, apart := false }
def DeepPartsSaid : Prop := deepPartsRow.holds Try.pinned (OpenSpec.ofChange deepPartsSpec)

/-- ITS FALSE NEIGHBOUR: 'it returns false'. Refute it at one input. -/
def deepPartsWrong : ChangeSpec := { name := "deepParts", fn := fun _ => fun
  | [d1, d2] => { results := [.lit (.bool false)], args := [d1, d2] }
  | _ => none }
def DeepPartsWrongFalsely : Prop := deepPartsRow.holds Try.pinned (OpenSpec.ofChange deepPartsWrong)

/-- 'brambleweirlaw1.WalkParts': WHATEVER THE INPUT: true; the input reads as it did. -/
def walkPartsSpec : ChangeSpec := { name := "walkParts", fn := fun _ => fun
  | [d1, d2, d3, d4, d5] => { results := [.lit (.bool true)], args := [d1, d2, d3, d4, d5] }
  | _ => none }
def walkPartsRow : OpenClaim := { program := "ythlnejfojaldnaa", sum := "90e4cd9b8bd8aed9c0a4783a367faa3b42e5e4150be5b513f06f4c4a6aa002cc", func := "brambleweir/brambleweirlaw1.WalkParts", spec := "walkParts", unfollowed := true, recurses := true, apart := false }
def WalkPartsSaid : Prop := walkPartsRow.holds Try.pinned (OpenSpec.ofChange walkPartsSpec)

/-- ITS FALSE NEIGHBOUR: 'it returns false'. Refute it at one input. -/
def walkPartsWrong : ChangeSpec := { name := "walkParts", fn := fun _ => fun
  | [d1, d2, d3, d4, d5] => { results := [.lit (.bool false)], args := [d1, d2, d3, d4, d5] }
  | _ => none }
def WalkPartsWrongFalsely : Prop := walkPartsRow.holds Try.pinned (OpenSpec.ofChange walkPartsWrong)

/-- 'brambleweirlaw1.WalkRing': WHATEVER THE INPUT: true; the input reads as it did. -/
def walkRingSpec : ChangeSpec := { name := "walkRing", fn := fun _ => fun
  | [d1, d2] => { results := [.lit (.bool true)], args := [d1, d2] }
  | _ => none }
def walkRingRow : OpenClaim := { program := "ythlnejfojaldnaa", sum := "90e4cd9b8bd8aed9c0a4783a367faa3b42e5e4150be5b513f06f4c4a6aa002cc", func := "brambleweir/brambleweirlaw1.WalkRing", spec := "walkRing", unfollowed := true, recurses := true, apart := false }
def WalkRingSaid : Prop := walkRingRow.holds Try.pinned (OpenSpec.ofChange walkRingSpec)

/-- ITS FALSE NEIGHBOUR: 'it returns false'. Refute it at one input. -/
def walkRingWrong : ChangeSpec := { name := "walkRing", fn := fun _ => fun
  | [d1, d2] => { results := [.lit (.bool false)], args := [d1, d2] }
  | _ => none }
def WalkRingWrongFalsely : Prop := walkRingRow.holds Try.pinned (OpenSpec.ofChange walkRingWrong)

/-- 'brambleweirlaw1.WalkMore': WHATEVER THE INPUT: true; the input reads as it did. -/
def walkMoreSpec : ChangeSpec := { name := "walkMore", fn := fun _ => fun
  | [d1, d2, d3, d4] => { results := [.lit (.bool true)], args := [d1, d2, d3, d4] }
  | _ => none }
def walkMoreRow : OpenClaim := { program := "ythlnejfojaldnaa", sum := "90e4cd9b8bd8aed9c0a4783a367faa3b42e5e4150be5b513f06f4c4a6aa002cc", func := "brambleweir/brambleweirlaw1.WalkMore", spec := "walkMore", unfollowed := true, recurses := true, apart := false }
def WalkMoreSaid : Prop := walkMoreRow.holds Try.pinned (OpenSpec.ofChange walkMoreSpec)

/-- ITS FALSE NEIGHBOUR: 'it returns false'. Refute it at one input. -/
def walkMoreWrong : ChangeSpec := { name := "walkMore", fn := fun _ => fun
  | [d1, d2, d3, d4] => { results := [.lit (.bool false)], args := [d1, d2, d3, d4] }
  | _ => none }
def WalkMoreWrongFalsely : Prop := walkMoreRow.holds Try.pinned (OpenSpec.ofChange walkMoreWrong)

/-- 'brambleweirtop.TopDeep': WHATEVER THE INPUT: true; the input reads as it did. -/
def topDeepSpec : ChangeSpec := { name := "topDeep", fn := fun _ => fun
  | [d1, d2] => { results := [.lit (.bool true)], args := [d1, d2] }
  | _ => none }
def topDeepRow : OpenClaim := { program := "ythlnejfojaldnaa", sum := "90e4cd9b8bd8aed9c0a4783a367faa3b42e5e4150be5b513f06f4c4a6aa002cc", func := "brambleweir/brambleweirtop.TopDeep", spec := "topDeep", unfollowed := true, recurses := true, apart := false }
def TopDeepSaid : Prop := topDeepRow.holds Try.pinned (OpenSpec.ofChange topDeepSpec)

/-- ITS FALSE NEIGHBOUR: 'it returns false'. Refute it at one input. -/
def topDeepWrong : ChangeSpec := { name := "topDeep", fn := fun _ => fun
  | [d1, d2] => { results := [.lit (.bool false)], args := [d1, d2] }
  | _ => none }
def TopDeepWrongFalsely : Prop := topDeepRow.holds Try.pinned (OpenSpec.ofChange topDeepWrong)

/- THE SECOND FORM. 'bulk': how many values and letters a reading holds, each counted each time it is reached (what is shared counts as often as it is met; a slice's spare places count too). A statement '..UptoSaid' is the law's where the arguments, and the package variables that the reading takes, are together of bulk at most 1048576: NARROWER than '..Said'. Prove '..Said' where nothing that the law and all that it calls make is longer than what came in: it says more and counts as full. Else prove '..UptoSaid'. A law counts once. -/
mutual
def uptoBulk {H : Type} : DataW H → Nat
  | .lit (.string bytes) => bytes.length + 1
  | .lit _ => 1
  | .nil => 1
  | .ptr d => uptoBulk d + 1
  | .slice elems spare => uptoBulkAll elems + uptoBulkAll spare + 1
  | .agg parts => uptoBulkAll parts + 1
  | .iface _ d => uptoBulk d + 1
  | .map entries => uptoBulkEntries entries + 1
  | .held _ => 1
def uptoBulkAll {H : Type} : List (DataW H) → Nat
  | [] => 0
  | d :: r => uptoBulk d + uptoBulkAll r
def uptoBulkEntries {H : Type} : List (Lit × DataW H) → Nat
  | [] => 0
  | x :: r => uptoBulkEntry x + uptoBulkEntries r
def uptoBulkEntry {H : Type} : Lit × DataW H → Nat
  | (.string bytes, d) => bytes.length + uptoBulk d + 1
  | (_, d) => uptoBulk d + 1
 end
def uptoSmall : (H : Type) → List (DataW H) → Bool := fun _ ds => decide (uptoBulkAll ds ≤ 1048576)
def OpenSpec.upto (s : _root_.Go.ChangeSpec) : _root_.Go.OpenSpec := { _root_.Go.OpenSpec.ofChange s with cond := some uptoSmall }

/-- 'brambleweirlaw1.DeepBrackets', WHERE WHAT IT READS IS OF BULK AT MOST 1048576: true; the input reads as it did. -/
def deepBracketsUptoRow : OpenClaim := { program := "ythlnejfojaldnaa", sum := "90e4cd9b8bd8aed9c0a4783a367faa3b42e5e4150be5b513f06f4c4a6aa002cc", func := "brambleweir/brambleweirlaw1.DeepBrackets", spec := "deepBrackets", unfollowed := true, recurses := true, apart := false, narrowed := true }
def DeepBracketsUptoSaid : Prop := deepBracketsUptoRow.holds Try.pinned (OpenSpec.upto deepBracketsSpec)

/-- 'brambleweirlaw1.DeepBack', WHERE WHAT IT READS IS OF BULK AT MOST 1048576: true; the input reads as it did. -/
def deepBackUptoRow : OpenClaim := { program := "ythlnejfojaldnaa", sum := "90e4cd9b8bd8aed9c0a4783a367faa3b42e5e4150be5b513f06f4c4a6aa002cc", func := "brambleweir/brambleweirlaw1.DeepBack", spec := "deepBack", unfollowed := true, recurses := true, apart := false, narrowed := true }
def DeepBackUptoSaid : Prop := deepBackUptoRow.holds Try.pinned (OpenSpec.upto deepBackSpec)

/-- 'brambleweirlaw1.GraphTurn', WHERE WHAT IT READS IS OF BULK AT MOST 1048576: true; the input reads as it did. -/
def graphTurnUptoRow : OpenClaim := { program := "ythlnejfojaldnaa", sum := "90e4cd9b8bd8aed9c0a4783a367faa3b42e5e4150be5b513f06f4c4a6aa002cc", func := "brambleweir/brambleweirlaw1.GraphTurn", spec := "graphTurn", unfollowed := true, recurses := true, apart := false, narrowed := true }
def GraphTurnUptoSaid : Prop := graphTurnUptoRow.holds Try.pinned (OpenSpec.upto graphTurnSpec)

/-- 'brambleweirlaw1.WalkSteps', WHERE WHAT IT READS IS OF BULK AT MOST 1048576: true; the input reads as it did. -/
def walkStepsUptoRow : OpenClaim := { program := "ythlnejfojaldnaa", sum := "90e4cd9b8bd8aed9c0a4783a367faa3b42e5e4150be5b513f06f4c4a6aa002cc", func := "brambleweir/brambleweirlaw1.WalkSteps", spec := "walkSteps", unfollowed := true, recurses := true, apart := false, narrowed := true }
def WalkStepsUptoSaid : Prop := walkStepsUptoRow.holds Try.pinned (OpenSpec.upto walkStepsSpec)

/-- 'brambleweirlaw1.GraphWithout', WHERE WHAT IT READS IS OF BULK AT MOST 1048576: true; the input reads as it did. -/
def graphWithoutUptoRow : OpenClaim := { program := "ythlnejfojaldnaa", sum := "90e4cd9b8bd8aed9c0a4783a367faa3b42e5e4150be5b513f06f4c4a6aa002cc", func := "brambleweir/brambleweirlaw1.GraphWithout", spec := "graphWithout", unfollowed := true, recurses := true, apart := false, narrowed := true }
def GraphWithoutUptoSaid : Prop := graphWithoutUptoRow.holds Try.pinned (OpenSpec.upto graphWithoutSpec)

/-- 'brambleweirlaw1.DeepParts', WHERE WHAT IT READS IS OF BULK AT MOST 1048576: true; the input reads as it did. -/
def deepPartsUptoRow : OpenClaim := { program := "ythlnejfojaldnaa", sum := "90e4cd9b8bd8aed9c0a4783a367faa3b42e5e4150be5b513f06f4c4a6aa002cc", func := "brambleweir/brambleweirlaw1.DeepParts", spec := "deepParts", unfollowed := true, recurses := true, apart := false, narrowed := true }
def DeepPartsUptoSaid : Prop := deepPartsUptoRow.holds Try.pinned (OpenSpec.upto deepPartsSpec)

/-- 'brambleweirlaw1.WalkParts', WHERE WHAT IT READS IS OF BULK AT MOST 1048576: true; the input reads as it did. -/
def walkPartsUptoRow : OpenClaim := { program := "ythlnejfojaldnaa", sum := "90e4cd9b8bd8aed9c0a4783a367faa3b42e5e4150be5b513f06f4c4a6aa002cc", func := "brambleweir/brambleweirlaw1.WalkParts", spec := "walkParts", unfollowed := true, recurses := true, apart := false, narrowed := true }
def WalkPartsUptoSaid : Prop := walkPartsUptoRow.holds Try.pinned (OpenSpec.upto walkPartsSpec)

/-- 'brambleweirlaw1.WalkRing', WHERE WHAT IT READS IS OF BULK AT MOST 1048576: true; the input reads as it did. -/
def walkRingUptoRow : OpenClaim := { program := "ythlnejfojaldnaa", sum := "90e4cd9b8bd8aed9c0a4783a367faa3b42e5e4150be5b513f06f4c4a6aa002cc", func := "brambleweir/brambleweirlaw1.WalkRing", spec := "walkRing", unfollowed := true, recurses := true, apart := false, narrowed := true }
def WalkRingUptoSaid : Prop := walkRingUptoRow.holds Try.pinned (OpenSpec.upto walkRingSpec)

/-- 'brambleweirlaw1.WalkMore', WHERE WHAT IT READS IS OF BULK AT MOST 1048576: true; the input reads as it did. -/
def walkMoreUptoRow : OpenClaim := { program := "ythlnejfojaldnaa", sum := "90e4cd9b8bd8aed9c0a4783a367faa3b42e5e4150be5b513f06f4c4a6aa002cc", func := "brambleweir/brambleweirlaw1.WalkMore", spec := "walkMore", unfollowed := true, recurses := true, apart := false, narrowed := true }
def WalkMoreUptoSaid : Prop := walkMoreUptoRow.holds Try.pinned (OpenSpec.upto walkMoreSpec)

/-- 'brambleweirtop.TopDeep', WHERE WHAT IT READS IS OF BULK AT MOST 1048576: true; the input reads as it did. -/
def topDeepUptoRow : OpenClaim := { program := "ythlnejfojaldnaa", sum := "90e4cd9b8bd8aed9c0a4783a367faa3b42e5e4150be5b513f06f4c4a6aa002cc", func := "brambleweir/brambleweirtop.TopDeep", spec := "topDeep", unfollowed := true, recurses := true, apart := false, narrowed := true }
def TopDeepUptoSaid : Prop := topDeepUptoRow.holds Try.pinned (OpenSpec.upto topDeepSpec)

end Rows
end Go.Proofs.Ythlnejfojaldnaa
