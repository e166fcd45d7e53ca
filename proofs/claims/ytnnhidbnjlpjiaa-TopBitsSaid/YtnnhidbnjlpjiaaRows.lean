/-
  No cell of these rows narrows 'for every input' (looked for: loops, veiled, ifaces, maps, wideKeys, modest, calm, conditions, laid).
  DERIVED. THE GIVEN ROWS OF THIS SEAT. 5 by the template 'for every input the law returns true; each argument reads behind the call as it read before'; 0 by the template 'total and deterministic' (their statements: YtnnhidbnjlpjiaaTotals.lean).
  GIVEN WITH THE SEED: the statements are not yours to turn. If you find one false, say at which input.
  Laid BY PROGRAM, IN A SANDBOX (cutbox-rows.mjs): the forced cells as the released guide's own fill.sh prints them over the translation e7aea1b10079f71e… (all of the seat's roots in one cut). By AI agents, Wed Nov 11 2026. No macro, syntax, notation, axiom, sorry.
-/
import Derived.Test.YtnnhidbnjlpjiaaChecked
import GoSem.Claim
import GoSem.ClaimJoined
import GoSem.ClaimMapViews
import Derived.JoinedTies
import Derived.KernelRfl
namespace Go.Proofs.Ytnnhidbnjlpjiaa
/- THE CELL 'sum', in the pinned program and in every row, IS THE sha256 OF THE DUMP (.gsa) THAT YtnnhidbnjlpjiaaProg.lean LOADS. Nothing in Lean hashes anything: it is a label: what it is worth is what the hold of that sum in a sandbox is worth. -/
noncomputable def Try.pinned : Pinned := { name := "ytnnhidbnjlpjiaa", sum := "e7aea1b10079f71e410dc8954daa11669baac73119369d13feaeee7069acbc21", checked := Try.checked }
namespace Rows
def none {H : Type} : Left H := { results := [], args := [] }

/-- 'brambleweirtop.TopBits': WHATEVER THE INPUT: true; the input reads as it did. -/
def topBitsSpec : ChangeSpec := { name := "topBits", fn := fun _ => fun
  | [d1, d2] => { results := [.lit (.bool true)], args := [d1, d2] }
  | _ => none }
def topBitsRow : OpenClaim := { program := "ytnnhidbnjlpjiaa", sum := "e7aea1b10079f71e410dc8954daa11669baac73119369d13feaeee7069acbc21", func := "brambleweir/brambleweirtop.TopBits", spec := "topBits", unfollowed := true, recurses := true, apart := false }
def TopBitsSaid : Prop := topBitsRow.holds Try.pinned (OpenSpec.ofChange topBitsSpec)

/-- ITS FALSE NEIGHBOUR: 'it returns false'. Refute it at one input. -/
def topBitsWrong : ChangeSpec := { name := "topBits", fn := fun _ => fun
  | [d1, d2] => { results := [.lit (.bool false)], args := [d1, d2] }
  | _ => none }
def TopBitsWrongFalsely : Prop := topBitsRow.holds Try.pinned (OpenSpec.ofChange topBitsWrong)

/-- 'brambleweirlaw1.GapsBack': WHATEVER THE INPUT: true; the input reads as it did. -/
def gapsBackSpec : ChangeSpec := { name := "gapsBack", fn := fun _ => fun
  | [d1, d2] => { results := [.lit (.bool true)], args := [d1, d2] }
  | _ => none }
def gapsBackRow : OpenClaim := { program := "ytnnhidbnjlpjiaa", sum := "e7aea1b10079f71e410dc8954daa11669baac73119369d13feaeee7069acbc21", func := "brambleweir/brambleweirlaw1.GapsBack", spec := "gapsBack", apart := false }
def GapsBackSaid : Prop := gapsBackRow.holds Try.pinned (OpenSpec.ofChange gapsBackSpec)

/-- ITS FALSE NEIGHBOUR: 'it returns false'. Refute it at one input. -/
def gapsBackWrong : ChangeSpec := { name := "gapsBack", fn := fun _ => fun
  | [d1, d2] => { results := [.lit (.bool false)], args := [d1, d2] }
  | _ => none }
def GapsBackWrongFalsely : Prop := gapsBackRow.holds Try.pinned (OpenSpec.ofChange gapsBackWrong)

/-- 'brambleweirlaw1.GapsNear': WHATEVER THE INPUT: true; the input reads as it did. -/
def gapsNearSpec : ChangeSpec := { name := "gapsNear", fn := fun _ => fun
  | [d1, d2, d3] => { results := [.lit (.bool true)], args := [d1, d2, d3] }
  | _ => none }
def gapsNearRow : OpenClaim := { program := "ytnnhidbnjlpjiaa", sum := "e7aea1b10079f71e410dc8954daa11669baac73119369d13feaeee7069acbc21", func := "brambleweir/brambleweirlaw1.GapsNear", spec := "gapsNear", apart := false }
def GapsNearSaid : Prop := gapsNearRow.holds Try.pinned (OpenSpec.ofChange gapsNearSpec)

/-- ITS FALSE NEIGHBOUR: 'it returns false'. Refute it at one input. -/
def gapsNearWrong : ChangeSpec := { name := "gapsNear", fn := fun _ => fun
  | [d1, d2, d3] => { results := [.lit (.bool false)], args := [d1, d2, d3] }
  | _ => none }
def GapsNearWrongFalsely : Prop := gapsNearRow.holds Try.pinned (OpenSpec.ofChange gapsNearWrong)

/-- 'brambleweirlaw1.GapsRuns': WHATEVER THE INPUT: true; the input reads as it did. -/
def gapsRunsSpec : ChangeSpec := { name := "gapsRuns", fn := fun _ => fun
  | [d] => { results := [.lit (.bool true)], args := [d] }
  | _ => none }
def gapsRunsRow : OpenClaim := { program := "ytnnhidbnjlpjiaa", sum := "e7aea1b10079f71e410dc8954daa11669baac73119369d13feaeee7069acbc21", func := "brambleweir/brambleweirlaw1.GapsRuns", spec := "gapsRuns", apart := false }
def GapsRunsSaid : Prop := gapsRunsRow.holds Try.pinned (OpenSpec.ofChange gapsRunsSpec)

/-- ITS FALSE NEIGHBOUR: 'it returns false'. Refute it at one input. -/
def gapsRunsWrong : ChangeSpec := { name := "gapsRuns", fn := fun _ => fun
  | [d] => { results := [.lit (.bool false)], args := [d] }
  | _ => none }
def GapsRunsWrongFalsely : Prop := gapsRunsRow.holds Try.pinned (OpenSpec.ofChange gapsRunsWrong)

/-- 'brambleweirtop.TopKept': WHATEVER THE INPUT: true; the input reads as it did. -/
def topKeptSpec : ChangeSpec := { name := "topKept", fn := fun _ => fun
  | [d1, d2, d3] => { results := [.lit (.bool true)], args := [d1, d2, d3] }
  | _ => none }
def topKeptRow : OpenClaim := { program := "ytnnhidbnjlpjiaa", sum := "e7aea1b10079f71e410dc8954daa11669baac73119369d13feaeee7069acbc21", func := "brambleweir/brambleweirtop.TopKept", spec := "topKept", unfollowed := true, recurses := true, apart := false }
def TopKeptSaid : Prop := topKeptRow.holds Try.pinned (OpenSpec.ofChange topKeptSpec)

/-- ITS FALSE NEIGHBOUR: 'it returns false'. Refute it at one input. -/
def topKeptWrong : ChangeSpec := { name := "topKept", fn := fun _ => fun
  | [d1, d2, d3] => { results := [.lit (.bool false)], args := [d1, d2, d3] }
  | _ => none }
def TopKeptWrongFalsely : Prop := topKeptRow.holds Try.pinned (OpenSpec.ofChange topKeptWrong)

/- THE SECOND FORM. 'bulk': how many values and letters a reading holds, each counted each time it is reached (what is shared counts as often as it is met; a slice's spare places count too). A statement '..UptoSaid' is the law's where the arguments, and the package variables that the reading takes, are together of bulk at most 1048576: NARROWER than '..Said'. Prove '..Said' where nothing that the law and all that it calls make is longer than what came in: it says more and counts as full. Else prove '..UptoSaid'. A law counts once. -/
mutual
def uptoBulk {H : Type} : DataW H → Nat
  | .lit (.string bytes) => bytes.length + 1
  | .lit _ => 1
  | .nil => 1
  | .ptr d => uptoBulk d + 1
  | .slice elems spare => uptoBulkAll elems + uptoBulkAll spare + 1
  | .agg parts => uptoBulkAll parts + 1
  | .iface _ d => uptoBulk d + 1
  | .map entries => uptoBulkEntries entries + 1
  | .held _ => 1
def uptoBulkAll {H : Type} : List (DataW H) → Nat
  | [] => 0
  | d :: r => uptoBulk d + uptoBulkAll r
def uptoBulkEntries {H : Type} : List (Lit × DataW H) → Nat
  | [] => 0
  | x :: r => uptoBulkEntry x + uptoBulkEntries r
def uptoBulkEntry {H : Type} : Lit × DataW H → Nat
  | (.string bytes, d) => bytes.length + uptoBulk d + 1
  | (_, d) => uptoBulk d + 1
 end
def uptoSmall : (H : Type) → List (DataW H) → Bool := fun _ ds => decide (uptoBulkAll ds ≤ 1048576)
def OpenSpec.upto (s : _root_.Go.ChangeSpec) : _root_.Go.OpenSpec := { _root_.Go.OpenSpec.ofChange s with cond := some uptoSmall }

/-- 'brambleweirtop.TopBits', WHERE WHAT IT READS IS OF BULK AT MOST 1048576: true; the input reads as it did. -/
def topBitsUptoRow : OpenClaim := { program := "ytnnhidbnjlpjiaa", sum := "e7aea1b10079f71e410dc8954daa11669baac73119369d13feaeee7069acbc21", func := "brambleweir/brambleweirtop.TopBits", spec := "topBits", unfollowed := true, recurses := true, apart := false, narrowed := true }
def TopBitsUptoSaid : Prop := topBitsUptoRow.holds Try.pinned (OpenSpec.upto topBitsSpec)

/-- 'brambleweirlaw1.GapsBack', WHERE WHAT IT READS IS OF BULK AT MOST 1048576: true; the input reads as it did. -/
def gapsBackUptoRow : OpenClaim := { program := "ytnnhidbnjlpjiaa", sum := "e7aea1b10079f71e410dc8954daa11669baac73119369d13feaeee7069acbc21", func := "brambleweir/brambleweirlaw1.GapsBack", spec := "gapsBack", apart := false, narrowed := true }
def GapsBackUptoSaid : Prop := gapsBackUptoRow.holds Try.pinned (OpenSpec.upto gapsBackSpec)

/-- 'brambleweirlaw1.GapsNear', WHERE WHAT IT READS IS OF BULK AT MOST 1048576: true; the input reads as it did. -/
def gapsNearUptoRow : OpenClaim := { program := "ytnnhidbnjlpjiaa", sum := "e7aea1b10079f71e410dc8954daa11669baac73119369d13feaeee7069acbc21", func := "brambleweir/brambleweirlaw1.GapsNear", spec := "gapsNear", apart := false, narrowed := true }
def GapsNearUptoSaid : Prop := gapsNearUptoRow.holds Try.pinned (OpenSpec.upto gapsNearSpec)

/-- 'brambleweirlaw1.GapsRuns', WHERE WHAT IT READS IS OF BULK AT MOST 1048576: true; the input reads as it did. -/
def gapsRunsUptoRow : OpenClaim := { program := "ytnnhidbnjlpjiaa", sum := "e7aea1b10079f71e410dc8954daa11669baac73119369d13feaeee7069acbc21", func := "brambleweir/brambleweirlaw1.GapsRuns", spec := "gapsRuns", apart := false, narrowed := true }
def GapsRunsUptoSaid : Prop := gapsRunsUptoRow.holds Try.pinned (OpenSpec.upto gapsRunsSpec)

/-- 'brambleweirtop.TopKept', WHERE WHAT IT READS IS OF BULK AT MOST 1048576: true; the input reads as it did. -/
def topKeptUptoRow : OpenClaim := { program := "ytnnhidbnjlpjiaa", sum := "e7aea1b10079f71e410dc8954daa11669baac73119369d13feaeee7069acbc21", func := "brambleweir/brambleweirtop.TopKept", spec := "topKept", unfollowed := true, recurses := true, apart := false, narrowed := true }
def TopKeptUptoSaid : Prop := topKeptUptoRow.holds Try.pinned (OpenSpec.upto topKeptSpec)

end Rows
end Go.Proofs.Ytnnhidbnjlpjiaa
