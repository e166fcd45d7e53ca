/-
  NARROWER THAN 'FOR EVERY INPUT', by the rows' own cells (each row's printed sentence says how): GraphOther: laid · DeepSays: laid · EliasSays: laid · GraphSays: laid · WalkSays: laid · GapsSays: laid.
  DERIVED. THE GIVEN ROWS OF THIS SEAT. 6 by the template 'for every input the law returns true; each argument reads behind the call as it read before'; 0 by the template 'total and deterministic' (their statements: YtlfinlfmlnclhaaDoorTotals.lean).
  GIVEN WITH THE SEED: the statements are not yours to turn. If you find one false, say at which input.
  Laid BY PROGRAM, IN A SANDBOX (cutbox-rows.mjs): the forced cells as the released guide's own fill.sh prints them over the translation 111fc9bcf1b088a0… (all of the seat's roots in one cut). By AI agents, Wed Nov 11 2026. No macro, syntax, notation, axiom, sorry.
-/
import Derived.Test.YtlfinlfmlnclhaaDoorChecked
import GoSem.Claim
import GoSem.ClaimJoined
import GoSem.ClaimMapViews
import Derived.JoinedTies
import Derived.KernelRfl
namespace Go.Proofs.YtlfinlfmlnclhaaDoor
/- THE CELL 'sum', in the pinned program and in every row, IS THE sha256 OF THE DUMP (.gsa) THAT YtlfinlfmlnclhaaDoorProg.lean LOADS. Nothing in Lean hashes anything: it is a label: what it is worth is what the hold of that sum in a sandbox is worth. -/
noncomputable def Tryd.pinned : Pinned := { name := "ytlfinlfmlnclhaadoor", sum := "111fc9bcf1b088a001859d0573a1202a7f3afd6246f5332a59ed2726f48eed22", checked := Tryd.checked }
namespace Rows
def none {H : Type} : Left H := { results := [], args := [] }

/- WHAT THE LISTED PACKAGE-LEVEL VARIABLES READ AS WHEN THE CALL BEGINS. Each datum BY PROGRAM (the guide's laid-datum.mjs) off the statement by which the dump's own 'gosem.cut.vars' lays the variable. In a bare row this is a premise. The card (YtlfinlfmlnclhaaDoorCards.lean) ties it to the program's text. -/
def laid_errors_errorType {H : Type} : DataW H := .iface "internal/reflectlite.rtype" (.agg [.ptr (.lit (.string [101, 114, 114, 111, 114]))])

/-- 'brambleweirlaw1.GraphOther': WHATEVER THE INPUT: true; the input reads as it did. -/
def graphOtherSpec : ChangeSpec := { name := "graphOther", fn := fun _ => fun
  | [d1, d2] => { results := [.lit (.bool true)], args := [d1, d2] }
  | _ => none }
def graphOtherRow : OpenClaim := { program := "ytlfinlfmlnclhaadoor", sum := "111fc9bcf1b088a001859d0573a1202a7f3afd6246f5332a59ed2726f48eed22", func := "brambleweir/brambleweirlaw1.GraphOther", spec := "graphOther", inPlace := ["internal/reflectlite.ValueOf", "(internal/reflectlite.Value).Type", "(internal/reflectlite.Value).IsNil", "internal/reflectlite.TypeOf", "(internal/reflectlite.Value).Elem", "(internal/reflectlite.Value).Set"], unfollowed := true, recurses := true, named := ["errors.errorType"], apart := false, laid := [("errors.errorType", laid_errors_errorType)] }
def GraphOtherSaid : Prop := graphOtherRow.holds Tryd.pinned (OpenSpec.ofChange graphOtherSpec)

/-- ITS FALSE NEIGHBOUR: 'it returns false'. Refute it at one input. -/
def graphOtherWrong : ChangeSpec := { name := "graphOther", fn := fun _ => fun
  | [d1, d2] => { results := [.lit (.bool false)], args := [d1, d2] }
  | _ => none }
def GraphOtherWrongFalsely : Prop := graphOtherRow.holds Tryd.pinned (OpenSpec.ofChange graphOtherWrong)

/-- 'brambleweirlaw1.DeepSays': WHATEVER THE INPUT: true; the input reads as it did. -/
def deepSaysSpec : ChangeSpec := { name := "deepSays", fn := fun _ => fun
  | [d1, d2] => { results := [.lit (.bool true)], args := [d1, d2] }
  | _ => none }
def deepSaysRow : OpenClaim := { program := "ytlfinlfmlnclhaadoor", sum := "111fc9bcf1b088a001859d0573a1202a7f3afd6246f5332a59ed2726f48eed22", func := "brambleweir/brambleweirlaw1.DeepSays", spec := "deepSays", inPlace := ["internal/reflectlite.ValueOf", "(internal/reflectlite.Value).Type", "(internal/reflectlite.Value).IsNil", "internal/reflectlite.TypeOf", "(internal/reflectlite.Value).Elem", "(internal/reflectlite.Value).Set"], unfollowed := true, recurses := true, named := ["errors.errorType"], apart := false, laid := [("errors.errorType", laid_errors_errorType)] }
def DeepSaysSaid : Prop := deepSaysRow.holds Tryd.pinned (OpenSpec.ofChange deepSaysSpec)

/-- ITS FALSE NEIGHBOUR: 'it returns false'. Refute it at one input. -/
def deepSaysWrong : ChangeSpec := { name := "deepSays", fn := fun _ => fun
  | [d1, d2] => { results := [.lit (.bool false)], args := [d1, d2] }
  | _ => none }
def DeepSaysWrongFalsely : Prop := deepSaysRow.holds Tryd.pinned (OpenSpec.ofChange deepSaysWrong)

/-- 'brambleweirlaw1.EliasSays': WHATEVER THE INPUT: true; the input reads as it did. -/
def eliasSaysSpec : ChangeSpec := { name := "eliasSays", fn := fun _ => fun
  | [d1, d2] => { results := [.lit (.bool true)], args := [d1, d2] }
  | _ => none }
def eliasSaysRow : OpenClaim := { program := "ytlfinlfmlnclhaadoor", sum := "111fc9bcf1b088a001859d0573a1202a7f3afd6246f5332a59ed2726f48eed22", func := "brambleweir/brambleweirlaw1.EliasSays", spec := "eliasSays", inPlace := ["internal/reflectlite.ValueOf", "(internal/reflectlite.Value).Type", "(internal/reflectlite.Value).IsNil", "internal/reflectlite.TypeOf", "(internal/reflectlite.Value).Elem", "(internal/reflectlite.Value).Set"], unfollowed := true, recurses := true, named := ["errors.errorType"], apart := false, laid := [("errors.errorType", laid_errors_errorType)] }
def EliasSaysSaid : Prop := eliasSaysRow.holds Tryd.pinned (OpenSpec.ofChange eliasSaysSpec)

/-- ITS FALSE NEIGHBOUR: 'it returns false'. Refute it at one input. -/
def eliasSaysWrong : ChangeSpec := { name := "eliasSays", fn := fun _ => fun
  | [d1, d2] => { results := [.lit (.bool false)], args := [d1, d2] }
  | _ => none }
def EliasSaysWrongFalsely : Prop := eliasSaysRow.holds Tryd.pinned (OpenSpec.ofChange eliasSaysWrong)

/-- 'brambleweirlaw1.GraphSays': WHATEVER THE INPUT: true; the input reads as it did. -/
def graphSaysSpec : ChangeSpec := { name := "graphSays", fn := fun _ => fun
  | [d1, d2, d3] => { results := [.lit (.bool true)], args := [d1, d2, d3] }
  | _ => none }
def graphSaysRow : OpenClaim := { program := "ytlfinlfmlnclhaadoor", sum := "111fc9bcf1b088a001859d0573a1202a7f3afd6246f5332a59ed2726f48eed22", func := "brambleweir/brambleweirlaw1.GraphSays", spec := "graphSays", inPlace := ["internal/reflectlite.ValueOf", "(internal/reflectlite.Value).Type", "(internal/reflectlite.Value).IsNil", "internal/reflectlite.TypeOf", "(internal/reflectlite.Value).Elem", "(internal/reflectlite.Value).Set"], unfollowed := true, recurses := true, named := ["errors.errorType"], apart := false, laid := [("errors.errorType", laid_errors_errorType)] }
def GraphSaysSaid : Prop := graphSaysRow.holds Tryd.pinned (OpenSpec.ofChange graphSaysSpec)

/-- ITS FALSE NEIGHBOUR: 'it returns false'. Refute it at one input. -/
def graphSaysWrong : ChangeSpec := { name := "graphSays", fn := fun _ => fun
  | [d1, d2, d3] => { results := [.lit (.bool false)], args := [d1, d2, d3] }
  | _ => none }
def GraphSaysWrongFalsely : Prop := graphSaysRow.holds Tryd.pinned (OpenSpec.ofChange graphSaysWrong)

/-- 'brambleweirlaw1.WalkSays': WHATEVER THE INPUT: true; the input reads as it did. -/
def walkSaysSpec : ChangeSpec := { name := "walkSays", fn := fun _ => fun
  | [d1, d2, d3] => { results := [.lit (.bool true)], args := [d1, d2, d3] }
  | _ => none }
def walkSaysRow : OpenClaim := { program := "ytlfinlfmlnclhaadoor", sum := "111fc9bcf1b088a001859d0573a1202a7f3afd6246f5332a59ed2726f48eed22", func := "brambleweir/brambleweirlaw1.WalkSays", spec := "walkSays", inPlace := ["internal/reflectlite.ValueOf", "(internal/reflectlite.Value).Type", "(internal/reflectlite.Value).IsNil", "internal/reflectlite.TypeOf", "(internal/reflectlite.Value).Elem", "(internal/reflectlite.Value).Set"], unfollowed := true, recurses := true, named := ["errors.errorType"], apart := false, laid := [("errors.errorType", laid_errors_errorType)] }
def WalkSaysSaid : Prop := walkSaysRow.holds Tryd.pinned (OpenSpec.ofChange walkSaysSpec)

/-- ITS FALSE NEIGHBOUR: 'it returns false'. Refute it at one input. -/
def walkSaysWrong : ChangeSpec := { name := "walkSays", fn := fun _ => fun
  | [d1, d2, d3] => { results := [.lit (.bool false)], args := [d1, d2, d3] }
  | _ => none }
def WalkSaysWrongFalsely : Prop := walkSaysRow.holds Tryd.pinned (OpenSpec.ofChange walkSaysWrong)

/-- 'brambleweirlaw1.GapsSays': WHATEVER THE INPUT: true; the input reads as it did. -/
def gapsSaysSpec : ChangeSpec := { name := "gapsSays", fn := fun _ => fun
  | [d1, d2] => { results := [.lit (.bool true)], args := [d1, d2] }
  | _ => none }
def gapsSaysRow : OpenClaim := { program := "ytlfinlfmlnclhaadoor", sum := "111fc9bcf1b088a001859d0573a1202a7f3afd6246f5332a59ed2726f48eed22", func := "brambleweir/brambleweirlaw1.GapsSays", spec := "gapsSays", inPlace := ["internal/reflectlite.ValueOf", "(internal/reflectlite.Value).Type", "(internal/reflectlite.Value).IsNil", "internal/reflectlite.TypeOf", "(internal/reflectlite.Value).Elem", "(internal/reflectlite.Value).Set"], unfollowed := true, recurses := true, named := ["errors.errorType"], apart := false, laid := [("errors.errorType", laid_errors_errorType)] }
def GapsSaysSaid : Prop := gapsSaysRow.holds Tryd.pinned (OpenSpec.ofChange gapsSaysSpec)

/-- ITS FALSE NEIGHBOUR: 'it returns false'. Refute it at one input. -/
def gapsSaysWrong : ChangeSpec := { name := "gapsSays", fn := fun _ => fun
  | [d1, d2] => { results := [.lit (.bool false)], args := [d1, d2] }
  | _ => none }
def GapsSaysWrongFalsely : Prop := gapsSaysRow.holds Tryd.pinned (OpenSpec.ofChange gapsSaysWrong)

/- THE SECOND FORM. 'bulk': how many values and letters a reading holds, each counted each time it is reached (what is shared counts as often as it is met; a slice's spare places count too). A statement '..UptoSaid' is the law's where the arguments, and the package variables that the reading takes, are together of bulk at most 1048576: NARROWER than '..Said'. Prove '..Said' where nothing that the law and all that it calls make is longer than what came in: it says more and counts as full. Else prove '..UptoSaid'. A law counts once. -/
mutual
def uptoBulk {H : Type} : DataW H → Nat
  | .lit (.string bytes) => bytes.length + 1
  | .lit _ => 1
  | .nil => 1
  | .ptr d => uptoBulk d + 1
  | .slice elems spare => uptoBulkAll elems + uptoBulkAll spare + 1
  | .agg parts => uptoBulkAll parts + 1
  | .iface _ d => uptoBulk d + 1
  | .map entries => uptoBulkEntries entries + 1
  | .held _ => 1
def uptoBulkAll {H : Type} : List (DataW H) → Nat
  | [] => 0
  | d :: r => uptoBulk d + uptoBulkAll r
def uptoBulkEntries {H : Type} : List (Lit × DataW H) → Nat
  | [] => 0
  | x :: r => uptoBulkEntry x + uptoBulkEntries r
def uptoBulkEntry {H : Type} : Lit × DataW H → Nat
  | (.string bytes, d) => bytes.length + uptoBulk d + 1
  | (_, d) => uptoBulk d + 1
 end
def uptoSmall : (H : Type) → List (DataW H) → Bool := fun _ ds => decide (uptoBulkAll ds ≤ 1048576)
def OpenSpec.upto (s : _root_.Go.ChangeSpec) : _root_.Go.OpenSpec := { _root_.Go.OpenSpec.ofChange s with cond := some uptoSmall }

/-- 'brambleweirlaw1.GraphOther', WHERE WHAT IT READS IS OF BULK AT MOST 1048576: true; the input reads as it did. -/
def graphOtherUptoRow : OpenClaim := { program := "ytlfinlfmlnclhaadoor", sum := "111fc9bcf1b088a001859d0573a1202a7f3afd6246f5332a59ed2726f48eed22", func := "brambleweir/brambleweirlaw1.GraphOther", spec := "graphOther", inPlace := ["internal/reflectlite.ValueOf", "(internal/reflectlite.Value).Type", "(internal/reflectlite.Value).IsNil", "internal/reflectlite.TypeOf", "(internal/reflectlite.Value).Elem", "(internal/reflectlite.Value).Set"], unfollowed := true, recurses := true, named := ["errors.errorType"], apart := false, laid := [("errors.errorType", laid_errors_errorType)], narrowed := true }
def GraphOtherUptoSaid : Prop := graphOtherUptoRow.holds Tryd.pinned (OpenSpec.upto graphOtherSpec)

/-- 'brambleweirlaw1.DeepSays', WHERE WHAT IT READS IS OF BULK AT MOST 1048576: true; the input reads as it did. -/
def deepSaysUptoRow : OpenClaim := { program := "ytlfinlfmlnclhaadoor", sum := "111fc9bcf1b088a001859d0573a1202a7f3afd6246f5332a59ed2726f48eed22", func := "brambleweir/brambleweirlaw1.DeepSays", spec := "deepSays", inPlace := ["internal/reflectlite.ValueOf", "(internal/reflectlite.Value).Type", "(internal/reflectlite.Value).IsNil", "internal/reflectlite.TypeOf", "(internal/reflectlite.Value).Elem", "(internal/reflectlite.Value).Set"], unfollowed := true, recurses := true, named := ["errors.errorType"], apart := false, laid := [("errors.errorType", laid_errors_errorType)], narrowed := true }
def DeepSaysUptoSaid : Prop := deepSaysUptoRow.holds Tryd.pinned (OpenSpec.upto deepSaysSpec)

/-- 'brambleweirlaw1.EliasSays', WHERE WHAT IT READS IS OF BULK AT MOST 1048576: true; the input reads as it did. -/
def eliasSaysUptoRow : OpenClaim := { program := "ytlfinlfmlnclhaadoor", sum := "111fc9bcf1b088a001859d0573a1202a7f3afd6246f5332a59ed2726f48eed22", func := "brambleweir/brambleweirlaw1.EliasSays", spec := "eliasSays", inPlace := ["internal/reflectlite.ValueOf", "(internal/reflectlite.Value).Type", "(internal/reflectlite.Value).IsNil", "internal/reflectlite.TypeOf", "(internal/reflectlite.Value).Elem", "(internal/reflectlite.Value).Set"], unfollowed := true, recurses := true, named := ["errors.errorType"], apart := false, laid := [("errors.errorType", laid_errors_errorType)], narrowed := true }
def EliasSaysUptoSaid : Prop := eliasSaysUptoRow.holds Tryd.pinned (OpenSpec.upto eliasSaysSpec)

/-- 'brambleweirlaw1.GraphSays', WHERE WHAT IT READS IS OF BULK AT MOST 1048576: true; the input reads as it did. -/
def graphSaysUptoRow : OpenClaim := { program := "ytlfinlfmlnclhaadoor", sum := "111fc9bcf1b088a001859d0573a1202a7f3afd6246f5332a59ed2726f48eed22", func := "brambleweir/brambleweirlaw1.GraphSays", spec := "graphSays", inPlace := ["internal/reflectlite.ValueOf", "(internal/reflectlite.Value).Type", "(internal/reflectlite.Value).IsNil", "internal/reflectlite.TypeOf", "(internal/reflectlite.Value).Elem", "(internal/reflectlite.Value).Set"], unfollowed := true, recurses := true, named := ["errors.errorType"], apart := false, laid := [("errors.errorType", laid_errors_errorType)], narrowed := true }
def GraphSaysUptoSaid : Prop := graphSaysUptoRow.holds Tryd.pinned (OpenSpec.upto graphSaysSpec)

/-- 'brambleweirlaw1.WalkSays', WHERE WHAT IT READS IS OF BULK AT MOST 1048576: true; the input reads as it did. -/
def walkSaysUptoRow : OpenClaim := { program := "ytlfinlfmlnclhaadoor", sum := "111fc9bcf1b088a001859d0573a1202a7f3afd6246f5332a59ed2726f48eed22", func := "brambleweir/brambleweirlaw1.WalkSays", spec := "walkSays", inPlace := ["internal/reflectlite.ValueOf", "(internal/reflectlite.Value).Type", "(internal/reflectlite.Value).IsNil", "internal/reflectlite.TypeOf", "(internal/reflectlite.Value).Elem", "(internal/reflectlite.Value).Set"], unfollowed := true, recurses := true, named := ["errors.errorType"], apart := false, laid := [("errors.errorType", laid_errors_errorType)], narrowed := true }
def WalkSaysUptoSaid : Prop := walkSaysUptoRow.holds Tryd.pinned (OpenSpec.upto walkSaysSpec)

/-- 'brambleweirlaw1.GapsSays', WHERE WHAT IT READS IS OF BULK AT MOST 1048576: true; the input reads as it did. -/
def gapsSaysUptoRow : OpenClaim := { program := "ytlfinlfmlnclhaadoor", sum := "111fc9bcf1b088a001859d0573a1202a7f3afd6246f5332a59ed2726f48eed22", func := "brambleweir/brambleweirlaw1.GapsSays", spec := "gapsSays", inPlace := ["internal/reflectlite.ValueOf", "(internal/reflectlite.Value).Type", "(internal/reflectlite.Value).IsNil", "internal/reflectlite.TypeOf", "(internal/reflectlite.Value).Elem", "(internal/reflectlite.Value).Set"], unfollowed := true, recurses := true, named := ["errors.errorType"], apart := false, laid := [("errors.errorType", laid_errors_errorType)], narrowed := true }
def GapsSaysUptoSaid : Prop := gapsSaysUptoRow.holds Tryd.pinned (OpenSpec.upto gapsSaysSpec)

end Rows
end Go.Proofs.YtlfinlfmlnclhaaDoor
