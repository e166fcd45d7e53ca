/-
  No cell of these rows narrows 'for every input' (looked for: loops, veiled, ifaces, maps, wideKeys, modest, calm, conditions, laid).
  DERIVED. THE GIVEN ROWS OF THIS SEAT. 4 by the template 'for every input the law returns true; each argument reads behind the call as it read before'; 0 by the template 'total and deterministic' (their statements: YtmkdkjdbmnocoaaTotals.lean).
  GIVEN WITH THE SEED: the statements are not yours to turn. If you find one false, say at which input.
  Laid BY PROGRAM, IN A SANDBOX (cutbox-rows.mjs): the forced cells as the released guide's own fill.sh prints them over the translation af2f542ff71312a1… (all of the seat's roots in one cut). By AI agents, Wed Nov 11 2026. No macro, syntax, notation, axiom, sorry.
-/
import Derived.Test.YtmkdkjdbmnocoaaChecked
import GoSem.Claim
import GoSem.ClaimJoined
import GoSem.ClaimMapViews
import Derived.JoinedTies
import Derived.KernelRfl
namespace Go.Proofs.Ytmkdkjdbmnocoaa
/- THE CELL 'sum', in the pinned program and in every row, IS THE sha256 OF THE DUMP (.gsa) THAT YtmkdkjdbmnocoaaProg.lean LOADS. Nothing in Lean hashes anything: it is a label: what it is worth is what the hold of that sum in a sandbox is worth. -/
noncomputable def Try.pinned : Pinned := { name := "ytmkdkjdbmnocoaa", sum := "af2f542ff71312a1c686f993703d4d19009e04fa2428ee1f3f4f266a4f594d47", checked := Try.checked }
namespace Rows
def none {H : Type} : Left H := { results := [], args := [] }

/-- 'brambleweirlaw1.DegreeHands': WHATEVER THE INPUT: true; the input reads as it did. -/
def degreeHandsSpec : ChangeSpec := { name := "degreeHands", fn := fun _ => fun
  | [d1, d2] => { results := [.lit (.bool true)], args := [d1, d2] }
  | _ => none }
def degreeHandsRow : OpenClaim := { program := "ytmkdkjdbmnocoaa", sum := "af2f542ff71312a1c686f993703d4d19009e04fa2428ee1f3f4f266a4f594d47", func := "brambleweir/brambleweirlaw1.DegreeHands", spec := "degreeHands", unfollowed := true, recurses := true, apart := false }
def DegreeHandsSaid : Prop := degreeHandsRow.holds Try.pinned (OpenSpec.ofChange degreeHandsSpec)

/-- ITS FALSE NEIGHBOUR: 'it returns false'. Refute it at one input. -/
def degreeHandsWrong : ChangeSpec := { name := "degreeHands", fn := fun _ => fun
  | [d1, d2] => { results := [.lit (.bool false)], args := [d1, d2] }
  | _ => none }
def DegreeHandsWrongFalsely : Prop := degreeHandsRow.holds Try.pinned (OpenSpec.ofChange degreeHandsWrong)

/-- 'brambleweirlaw1.DegreeCan': WHATEVER THE INPUT: true; the input reads as it did. -/
def degreeCanSpec : ChangeSpec := { name := "degreeCan", fn := fun _ => fun
  | [d1, d2, d3] => { results := [.lit (.bool true)], args := [d1, d2, d3] }
  | _ => none }
def degreeCanRow : OpenClaim := { program := "ytmkdkjdbmnocoaa", sum := "af2f542ff71312a1c686f993703d4d19009e04fa2428ee1f3f4f266a4f594d47", func := "brambleweir/brambleweirlaw1.DegreeCan", spec := "degreeCan", unfollowed := true, recurses := true, apart := false }
def DegreeCanSaid : Prop := degreeCanRow.holds Try.pinned (OpenSpec.ofChange degreeCanSpec)

/-- ITS FALSE NEIGHBOUR: 'it returns false'. Refute it at one input. -/
def degreeCanWrong : ChangeSpec := { name := "degreeCan", fn := fun _ => fun
  | [d1, d2, d3] => { results := [.lit (.bool false)], args := [d1, d2, d3] }
  | _ => none }
def DegreeCanWrongFalsely : Prop := degreeCanRow.holds Try.pinned (OpenSpec.ofChange degreeCanWrong)

/-- 'brambleweirlaw1.DegreeSame': WHATEVER THE INPUT: true; the input reads as it did. -/
def degreeSameSpec : ChangeSpec := { name := "degreeSame", fn := fun _ => fun
  | [d1, d2] => { results := [.lit (.bool true)], args := [d1, d2] }
  | _ => none }
def degreeSameRow : OpenClaim := { program := "ytmkdkjdbmnocoaa", sum := "af2f542ff71312a1c686f993703d4d19009e04fa2428ee1f3f4f266a4f594d47", func := "brambleweir/brambleweirlaw1.DegreeSame", spec := "degreeSame", unfollowed := true, recurses := true, apart := false }
def DegreeSameSaid : Prop := degreeSameRow.holds Try.pinned (OpenSpec.ofChange degreeSameSpec)

/-- ITS FALSE NEIGHBOUR: 'it returns false'. Refute it at one input. -/
def degreeSameWrong : ChangeSpec := { name := "degreeSame", fn := fun _ => fun
  | [d1, d2] => { results := [.lit (.bool false)], args := [d1, d2] }
  | _ => none }
def DegreeSameWrongFalsely : Prop := degreeSameRow.holds Try.pinned (OpenSpec.ofChange degreeSameWrong)

/-- 'brambleweirtop.TopSums': WHATEVER THE INPUT: true; the input reads as it did. -/
def topSumsSpec : ChangeSpec := { name := "topSums", fn := fun _ => fun
  | [d1, d2] => { results := [.lit (.bool true)], args := [d1, d2] }
  | _ => none }
def topSumsRow : OpenClaim := { program := "ytmkdkjdbmnocoaa", sum := "af2f542ff71312a1c686f993703d4d19009e04fa2428ee1f3f4f266a4f594d47", func := "brambleweir/brambleweirtop.TopSums", spec := "topSums", unfollowed := true, recurses := true, apart := false }
def TopSumsSaid : Prop := topSumsRow.holds Try.pinned (OpenSpec.ofChange topSumsSpec)

/-- ITS FALSE NEIGHBOUR: 'it returns false'. Refute it at one input. -/
def topSumsWrong : ChangeSpec := { name := "topSums", fn := fun _ => fun
  | [d1, d2] => { results := [.lit (.bool false)], args := [d1, d2] }
  | _ => none }
def TopSumsWrongFalsely : Prop := topSumsRow.holds Try.pinned (OpenSpec.ofChange topSumsWrong)

/- THE SECOND FORM. 'bulk': how many values and letters a reading holds, each counted each time it is reached (what is shared counts as often as it is met; a slice's spare places count too). A statement '..UptoSaid' is the law's where the arguments, and the package variables that the reading takes, are together of bulk at most 1048576: NARROWER than '..Said'. Prove '..Said' where nothing that the law and all that it calls make is longer than what came in: it says more and counts as full. Else prove '..UptoSaid'. A law counts once. -/
mutual
def uptoBulk {H : Type} : DataW H → Nat
  | .lit (.string bytes) => bytes.length + 1
  | .lit _ => 1
  | .nil => 1
  | .ptr d => uptoBulk d + 1
  | .slice elems spare => uptoBulkAll elems + uptoBulkAll spare + 1
  | .agg parts => uptoBulkAll parts + 1
  | .iface _ d => uptoBulk d + 1
  | .map entries => uptoBulkEntries entries + 1
  | .held _ => 1
def uptoBulkAll {H : Type} : List (DataW H) → Nat
  | [] => 0
  | d :: r => uptoBulk d + uptoBulkAll r
def uptoBulkEntries {H : Type} : List (Lit × DataW H) → Nat
  | [] => 0
  | x :: r => uptoBulkEntry x + uptoBulkEntries r
def uptoBulkEntry {H : Type} : Lit × DataW H → Nat
  | (.string bytes, d) => bytes.length + uptoBulk d + 1
  | (_, d) => uptoBulk d + 1
 end
def uptoSmall : (H : Type) → List (DataW H) → Bool := fun _ ds => decide (uptoBulkAll ds ≤ 1048576)
def OpenSpec.upto (s : _root_.Go.ChangeSpec) : _root_.Go.OpenSpec := { _root_.Go.OpenSpec.ofChange s with cond := some uptoSmall }

/-- 'brambleweirlaw1.DegreeHands', WHERE WHAT IT READS IS OF BULK AT MOST 1048576: true; the input reads as it did. -/
def degreeHandsUptoRow : OpenClaim := { program := "ytmkdkjdbmnocoaa", sum := "af2f542ff71312a1c686f993703d4d19009e04fa2428ee1f3f4f266a4f594d47", func := "brambleweir/brambleweirlaw1.DegreeHands", spec := "degreeHands", unfollowed := true, recurses := true, apart := false, narrowed := true }
def DegreeHandsUptoSaid : Prop := degreeHandsUptoRow.holds Try.pinned (OpenSpec.upto degreeHandsSpec)

/-- 'brambleweirlaw1.DegreeCan', WHERE WHAT IT READS IS OF BULK AT MOST 1048576: true; the input reads as it did. -/
def degreeCanUptoRow : OpenClaim := { program := "ytmkdkjdbmnocoaa", sum := "af2f542ff71312a1c686f993703d4d19009e04fa2428ee1f3f4f266a4f594d47", func := "brambleweir/brambleweirlaw1.DegreeCan", spec := "degreeCan", unfollowed := true, recurses := true, apart := false, narrowed := true }
def DegreeCanUptoSaid : Prop := degreeCanUptoRow.holds Try.pinned (OpenSpec.upto degreeCanSpec)

/-- 'brambleweirlaw1.DegreeSame', WHERE WHAT IT READS IS OF BULK AT MOST 1048576: true; the input reads as it did. -/
def degreeSameUptoRow : OpenClaim := { program := "ytmkdkjdbmnocoaa", sum := "af2f542ff71312a1c686f993703d4d19009e04fa2428ee1f3f4f266a4f594d47", func := "brambleweir/brambleweirlaw1.DegreeSame", spec := "degreeSame", unfollowed := true, recurses := true, apart := false, narrowed := true }
def DegreeSameUptoSaid : Prop := degreeSameUptoRow.holds Try.pinned (OpenSpec.upto degreeSameSpec)

/-- 'brambleweirtop.TopSums', WHERE WHAT IT READS IS OF BULK AT MOST 1048576: true; the input reads as it did. -/
def topSumsUptoRow : OpenClaim := { program := "ytmkdkjdbmnocoaa", sum := "af2f542ff71312a1c686f993703d4d19009e04fa2428ee1f3f4f266a4f594d47", func := "brambleweir/brambleweirtop.TopSums", spec := "topSums", unfollowed := true, recurses := true, apart := false, narrowed := true }
def TopSumsUptoSaid : Prop := topSumsUptoRow.holds Try.pinned (OpenSpec.upto topSumsSpec)

end Rows
end Go.Proofs.Ytmkdkjdbmnocoaa
