/-
  NARROWER THAN 'FOR EVERY INPUT', by the rows' own cells (each row's printed sentence says how): HavelSays: laid · HavelOnce: laid · DegreeSays: laid · CutsSays: laid · HavelMakes: laid.
  DERIVED. THE GIVEN ROWS OF THIS SEAT. 5 by the template 'for every input the law returns true; each argument reads behind the call as it read before'; 0 by the template 'total and deterministic' (their statements: YtgjkefniknbdeaaDoorTotals.lean).
  GIVEN WITH THE SEED: the statements are not yours to turn. If you find one false, say at which input.
  Laid BY PROGRAM, IN A SANDBOX (cutbox-rows.mjs): the forced cells as the released guide's own fill.sh prints them over the translation 600affc1bcc8e398… (all of the seat's roots in one cut). By AI agents, Wed Nov 11 2026. No macro, syntax, notation, axiom, sorry.
-/
import Derived.Test.YtgjkefniknbdeaaDoorChecked
import GoSem.Claim
import GoSem.ClaimJoined
import GoSem.ClaimMapViews
import Derived.JoinedTies
import Derived.KernelRfl
namespace Go.Proofs.YtgjkefniknbdeaaDoor
/- THE CELL 'sum', in the pinned program and in every row, IS THE sha256 OF THE DUMP (.gsa) THAT YtgjkefniknbdeaaDoorProg.lean LOADS. Nothing in Lean hashes anything: it is a label: what it is worth is what the hold of that sum in a sandbox is worth. -/
noncomputable def Tryd.pinned : Pinned := { name := "ytgjkefniknbdeaadoor", sum := "600affc1bcc8e3988ebab44a05886a23ab988c303023faaffb2ee436d987b648", checked := Tryd.checked }
namespace Rows
def none {H : Type} : Left H := { results := [], args := [] }

/- WHAT THE LISTED PACKAGE-LEVEL VARIABLES READ AS WHEN THE CALL BEGINS. Each datum BY PROGRAM (the guide's laid-datum.mjs) off the statement by which the dump's own 'gosem.cut.vars' lays the variable. In a bare row this is a premise. The card (YtgjkefniknbdeaaDoorCards.lean) ties it to the program's text. -/
def laid_errors_errorType {H : Type} : DataW H := .iface "internal/reflectlite.rtype" (.agg [.ptr (.lit (.string [101, 114, 114, 111, 114]))])

/-- 'brambleweirlaw1.HavelSays': WHATEVER THE INPUT: true; the input reads as it did. -/
def havelSaysSpec : ChangeSpec := { name := "havelSays", fn := fun _ => fun
  | [d] => { results := [.lit (.bool true)], args := [d] }
  | _ => none }
def havelSaysRow : OpenClaim := { program := "ytgjkefniknbdeaadoor", sum := "600affc1bcc8e3988ebab44a05886a23ab988c303023faaffb2ee436d987b648", func := "brambleweir/brambleweirlaw1.HavelSays", spec := "havelSays", inPlace := ["internal/reflectlite.ValueOf", "(internal/reflectlite.Value).Type", "(internal/reflectlite.Value).IsNil", "internal/reflectlite.TypeOf", "(internal/reflectlite.Value).Elem", "(internal/reflectlite.Value).Set"], unfollowed := true, recurses := true, named := ["errors.errorType"], apart := false, laid := [("errors.errorType", laid_errors_errorType)] }
def HavelSaysSaid : Prop := havelSaysRow.holds Tryd.pinned (OpenSpec.ofChange havelSaysSpec)

/-- ITS FALSE NEIGHBOUR: 'it returns false'. Refute it at one input. -/
def havelSaysWrong : ChangeSpec := { name := "havelSays", fn := fun _ => fun
  | [d] => { results := [.lit (.bool false)], args := [d] }
  | _ => none }
def HavelSaysWrongFalsely : Prop := havelSaysRow.holds Tryd.pinned (OpenSpec.ofChange havelSaysWrong)

/-- 'brambleweirlaw1.HavelOnce': WHATEVER THE INPUT: true; the input reads as it did. -/
def havelOnceSpec : ChangeSpec := { name := "havelOnce", fn := fun _ => fun
  | [d1, d2] => { results := [.lit (.bool true)], args := [d1, d2] }
  | _ => none }
def havelOnceRow : OpenClaim := { program := "ytgjkefniknbdeaadoor", sum := "600affc1bcc8e3988ebab44a05886a23ab988c303023faaffb2ee436d987b648", func := "brambleweir/brambleweirlaw1.HavelOnce", spec := "havelOnce", inPlace := ["internal/reflectlite.ValueOf", "(internal/reflectlite.Value).Type", "(internal/reflectlite.Value).IsNil", "internal/reflectlite.TypeOf", "(internal/reflectlite.Value).Elem", "(internal/reflectlite.Value).Set"], unfollowed := true, recurses := true, named := ["errors.errorType"], apart := false, laid := [("errors.errorType", laid_errors_errorType)] }
def HavelOnceSaid : Prop := havelOnceRow.holds Tryd.pinned (OpenSpec.ofChange havelOnceSpec)

/-- ITS FALSE NEIGHBOUR: 'it returns false'. Refute it at one input. -/
def havelOnceWrong : ChangeSpec := { name := "havelOnce", fn := fun _ => fun
  | [d1, d2] => { results := [.lit (.bool false)], args := [d1, d2] }
  | _ => none }
def HavelOnceWrongFalsely : Prop := havelOnceRow.holds Tryd.pinned (OpenSpec.ofChange havelOnceWrong)

/-- 'brambleweirlaw1.DegreeSays': WHATEVER THE INPUT: true; the input reads as it did. -/
def degreeSaysSpec : ChangeSpec := { name := "degreeSays", fn := fun _ => fun
  | [d1, d2, d3] => { results := [.lit (.bool true)], args := [d1, d2, d3] }
  | _ => none }
def degreeSaysRow : OpenClaim := { program := "ytgjkefniknbdeaadoor", sum := "600affc1bcc8e3988ebab44a05886a23ab988c303023faaffb2ee436d987b648", func := "brambleweir/brambleweirlaw1.DegreeSays", spec := "degreeSays", inPlace := ["internal/reflectlite.ValueOf", "(internal/reflectlite.Value).Type", "(internal/reflectlite.Value).IsNil", "internal/reflectlite.TypeOf", "(internal/reflectlite.Value).Elem", "(internal/reflectlite.Value).Set"], unfollowed := true, recurses := true, named := ["errors.errorType"], apart := false, laid := [("errors.errorType", laid_errors_errorType)] }
def DegreeSaysSaid : Prop := degreeSaysRow.holds Tryd.pinned (OpenSpec.ofChange degreeSaysSpec)

/-- ITS FALSE NEIGHBOUR: 'it returns false'. Refute it at one input. -/
def degreeSaysWrong : ChangeSpec := { name := "degreeSays", fn := fun _ => fun
  | [d1, d2, d3] => { results := [.lit (.bool false)], args := [d1, d2, d3] }
  | _ => none }
def DegreeSaysWrongFalsely : Prop := degreeSaysRow.holds Tryd.pinned (OpenSpec.ofChange degreeSaysWrong)

/-- 'brambleweirlaw1.CutsSays': WHATEVER THE INPUT: true; the input reads as it did. -/
def cutsSaysSpec : ChangeSpec := { name := "cutsSays", fn := fun _ => fun
  | [d1, d2] => { results := [.lit (.bool true)], args := [d1, d2] }
  | _ => none }
def cutsSaysRow : OpenClaim := { program := "ytgjkefniknbdeaadoor", sum := "600affc1bcc8e3988ebab44a05886a23ab988c303023faaffb2ee436d987b648", func := "brambleweir/brambleweirlaw1.CutsSays", spec := "cutsSays", inPlace := ["internal/reflectlite.ValueOf", "(internal/reflectlite.Value).Type", "(internal/reflectlite.Value).IsNil", "internal/reflectlite.TypeOf", "(internal/reflectlite.Value).Elem", "(internal/reflectlite.Value).Set"], unfollowed := true, recurses := true, named := ["errors.errorType"], apart := false, laid := [("errors.errorType", laid_errors_errorType)] }
def CutsSaysSaid : Prop := cutsSaysRow.holds Tryd.pinned (OpenSpec.ofChange cutsSaysSpec)

/-- ITS FALSE NEIGHBOUR: 'it returns false'. Refute it at one input. -/
def cutsSaysWrong : ChangeSpec := { name := "cutsSays", fn := fun _ => fun
  | [d1, d2] => { results := [.lit (.bool false)], args := [d1, d2] }
  | _ => none }
def CutsSaysWrongFalsely : Prop := cutsSaysRow.holds Tryd.pinned (OpenSpec.ofChange cutsSaysWrong)

/-- 'brambleweirlaw1.HavelMakes': WHATEVER THE INPUT: true; the input reads as it did. -/
def havelMakesSpec : ChangeSpec := { name := "havelMakes", fn := fun _ => fun
  | [d] => { results := [.lit (.bool true)], args := [d] }
  | _ => none }
def havelMakesRow : OpenClaim := { program := "ytgjkefniknbdeaadoor", sum := "600affc1bcc8e3988ebab44a05886a23ab988c303023faaffb2ee436d987b648", func := "brambleweir/brambleweirlaw1.HavelMakes", spec := "havelMakes", inPlace := ["internal/reflectlite.ValueOf", "(internal/reflectlite.Value).Type", "(internal/reflectlite.Value).IsNil", "internal/reflectlite.TypeOf", "(internal/reflectlite.Value).Elem", "(internal/reflectlite.Value).Set"], unfollowed := true, recurses := true, named := ["errors.errorType"], apart := false, laid := [("errors.errorType", laid_errors_errorType)] }
def HavelMakesSaid : Prop := havelMakesRow.holds Tryd.pinned (OpenSpec.ofChange havelMakesSpec)

/-- ITS FALSE NEIGHBOUR: 'it returns false'. Refute it at one input. -/
def havelMakesWrong : ChangeSpec := { name := "havelMakes", fn := fun _ => fun
  | [d] => { results := [.lit (.bool false)], args := [d] }
  | _ => none }
def HavelMakesWrongFalsely : Prop := havelMakesRow.holds Tryd.pinned (OpenSpec.ofChange havelMakesWrong)

/- THE SECOND FORM. 'bulk': how many values and letters a reading holds, each counted each time it is reached (what is shared counts as often as it is met; a slice's spare places count too). A statement '..UptoSaid' is the law's where the arguments, and the package variables that the reading takes, are together of bulk at most 1048576: NARROWER than '..Said'. Prove '..Said' where nothing that the law and all that it calls make is longer than what came in: it says more and counts as full. Else prove '..UptoSaid'. A law counts once. -/
mutual
def uptoBulk {H : Type} : DataW H → Nat
  | .lit (.string bytes) => bytes.length + 1
  | .lit _ => 1
  | .nil => 1
  | .ptr d => uptoBulk d + 1
  | .slice elems spare => uptoBulkAll elems + uptoBulkAll spare + 1
  | .agg parts => uptoBulkAll parts + 1
  | .iface _ d => uptoBulk d + 1
  | .map entries => uptoBulkEntries entries + 1
  | .held _ => 1
def uptoBulkAll {H : Type} : List (DataW H) → Nat
  | [] => 0
  | d :: r => uptoBulk d + uptoBulkAll r
def uptoBulkEntries {H : Type} : List (Lit × DataW H) → Nat
  | [] => 0
  | x :: r => uptoBulkEntry x + uptoBulkEntries r
def uptoBulkEntry {H : Type} : Lit × DataW H → Nat
  | (.string bytes, d) => bytes.length + uptoBulk d + 1
  | (_, d) => uptoBulk d + 1
 end
def uptoSmall : (H : Type) → List (DataW H) → Bool := fun _ ds => decide (uptoBulkAll ds ≤ 1048576)
def OpenSpec.upto (s : _root_.Go.ChangeSpec) : _root_.Go.OpenSpec := { _root_.Go.OpenSpec.ofChange s with cond := some uptoSmall }

/-- 'brambleweirlaw1.HavelSays', WHERE WHAT IT READS IS OF BULK AT MOST 1048576: true; the input reads as it did. -/
def havelSaysUptoRow : OpenClaim := { program := "ytgjkefniknbdeaadoor", sum := "600affc1bcc8e3988ebab44a05886a23ab988c303023faaffb2ee436d987b648", func := "brambleweir/brambleweirlaw1.HavelSays", spec := "havelSays", inPlace := ["internal/reflectlite.ValueOf", "(internal/reflectlite.Value).Type", "(internal/reflectlite.Value).IsNil", "internal/reflectlite.TypeOf", "(internal/reflectlite.Value).Elem", "(internal/reflectlite.Value).Set"], unfollowed := true, recurses := true, named := ["errors.errorType"], apart := false, laid := [("errors.errorType", laid_errors_errorType)], narrowed := true }
def HavelSaysUptoSaid : Prop := havelSaysUptoRow.holds Tryd.pinned (OpenSpec.upto havelSaysSpec)

/-- 'brambleweirlaw1.HavelOnce', WHERE WHAT IT READS IS OF BULK AT MOST 1048576: true; the input reads as it did. -/
def havelOnceUptoRow : OpenClaim := { program := "ytgjkefniknbdeaadoor", sum := "600affc1bcc8e3988ebab44a05886a23ab988c303023faaffb2ee436d987b648", func := "brambleweir/brambleweirlaw1.HavelOnce", spec := "havelOnce", inPlace := ["internal/reflectlite.ValueOf", "(internal/reflectlite.Value).Type", "(internal/reflectlite.Value).IsNil", "internal/reflectlite.TypeOf", "(internal/reflectlite.Value).Elem", "(internal/reflectlite.Value).Set"], unfollowed := true, recurses := true, named := ["errors.errorType"], apart := false, laid := [("errors.errorType", laid_errors_errorType)], narrowed := true }
def HavelOnceUptoSaid : Prop := havelOnceUptoRow.holds Tryd.pinned (OpenSpec.upto havelOnceSpec)

/-- 'brambleweirlaw1.DegreeSays', WHERE WHAT IT READS IS OF BULK AT MOST 1048576: true; the input reads as it did. -/
def degreeSaysUptoRow : OpenClaim := { program := "ytgjkefniknbdeaadoor", sum := "600affc1bcc8e3988ebab44a05886a23ab988c303023faaffb2ee436d987b648", func := "brambleweir/brambleweirlaw1.DegreeSays", spec := "degreeSays", inPlace := ["internal/reflectlite.ValueOf", "(internal/reflectlite.Value).Type", "(internal/reflectlite.Value).IsNil", "internal/reflectlite.TypeOf", "(internal/reflectlite.Value).Elem", "(internal/reflectlite.Value).Set"], unfollowed := true, recurses := true, named := ["errors.errorType"], apart := false, laid := [("errors.errorType", laid_errors_errorType)], narrowed := true }
def DegreeSaysUptoSaid : Prop := degreeSaysUptoRow.holds Tryd.pinned (OpenSpec.upto degreeSaysSpec)

/-- 'brambleweirlaw1.CutsSays', WHERE WHAT IT READS IS OF BULK AT MOST 1048576: true; the input reads as it did. -/
def cutsSaysUptoRow : OpenClaim := { program := "ytgjkefniknbdeaadoor", sum := "600affc1bcc8e3988ebab44a05886a23ab988c303023faaffb2ee436d987b648", func := "brambleweir/brambleweirlaw1.CutsSays", spec := "cutsSays", inPlace := ["internal/reflectlite.ValueOf", "(internal/reflectlite.Value).Type", "(internal/reflectlite.Value).IsNil", "internal/reflectlite.TypeOf", "(internal/reflectlite.Value).Elem", "(internal/reflectlite.Value).Set"], unfollowed := true, recurses := true, named := ["errors.errorType"], apart := false, laid := [("errors.errorType", laid_errors_errorType)], narrowed := true }
def CutsSaysUptoSaid : Prop := cutsSaysUptoRow.holds Tryd.pinned (OpenSpec.upto cutsSaysSpec)

/-- 'brambleweirlaw1.HavelMakes', WHERE WHAT IT READS IS OF BULK AT MOST 1048576: true; the input reads as it did. -/
def havelMakesUptoRow : OpenClaim := { program := "ytgjkefniknbdeaadoor", sum := "600affc1bcc8e3988ebab44a05886a23ab988c303023faaffb2ee436d987b648", func := "brambleweir/brambleweirlaw1.HavelMakes", spec := "havelMakes", inPlace := ["internal/reflectlite.ValueOf", "(internal/reflectlite.Value).Type", "(internal/reflectlite.Value).IsNil", "internal/reflectlite.TypeOf", "(internal/reflectlite.Value).Elem", "(internal/reflectlite.Value).Set"], unfollowed := true, recurses := true, named := ["errors.errorType"], apart := false, laid := [("errors.errorType", laid_errors_errorType)], narrowed := true }
def HavelMakesUptoSaid : Prop := havelMakesUptoRow.holds Tryd.pinned (OpenSpec.upto havelMakesSpec)

end Rows
end Go.Proofs.YtgjkefniknbdeaaDoor
