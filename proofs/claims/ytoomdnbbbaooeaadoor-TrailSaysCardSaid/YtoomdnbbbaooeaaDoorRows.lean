/-
  NARROWER THAN 'FOR EVERY INPUT', by the rows' own cells (each row's printed sentence says how): TrailSays: laid · TrailOnce: laid · TrailMore: laid · TrailEuler: laid.
  DERIVED. THE GIVEN ROWS OF THIS SEAT. 4 by the template 'for every input the law returns true; each argument reads behind the call as it read before'; 0 by the template 'total and deterministic' (their statements: YtoomdnbbbaooeaaDoorTotals.lean).
  GIVEN WITH THE SEED: the statements are not yours to turn. If you find one false, say at which input.
  Laid BY PROGRAM, IN A SANDBOX (cutbox-rows.mjs): the forced cells as the released guide's own fill.sh prints them over the translation 9a29b7a910a2ff80… (all of the seat's roots in one cut). By AI agents, Wed Nov 11 2026. No macro, syntax, notation, axiom, sorry.
-/
import Derived.Test.YtoomdnbbbaooeaaDoorChecked
import GoSem.Claim
import GoSem.ClaimJoined
import GoSem.ClaimMapViews
import Derived.JoinedTies
import Derived.KernelRfl
namespace Go.Proofs.YtoomdnbbbaooeaaDoor
/- THE CELL 'sum', in the pinned program and in every row, IS THE sha256 OF THE DUMP (.gsa) THAT YtoomdnbbbaooeaaDoorProg.lean LOADS. Nothing in Lean hashes anything: it is a label: what it is worth is what the hold of that sum in a sandbox is worth. -/
noncomputable def Tryd.pinned : Pinned := { name := "ytoomdnbbbaooeaadoor", sum := "9a29b7a910a2ff80de822d6ab50028c3580d158213c77b4cc2d5b4e1c031bd50", checked := Tryd.checked }
namespace Rows
def none {H : Type} : Left H := { results := [], args := [] }

/- WHAT THE LISTED PACKAGE-LEVEL VARIABLES READ AS WHEN THE CALL BEGINS. Each datum BY PROGRAM (the guide's laid-datum.mjs) off the statement by which the dump's own 'gosem.cut.vars' lays the variable. In a bare row this is a premise. The card (YtoomdnbbbaooeaaDoorCards.lean) ties it to the program's text. -/
def laid_errors_errorType {H : Type} : DataW H := .iface "internal/reflectlite.rtype" (.agg [.ptr (.lit (.string [101, 114, 114, 111, 114]))])

/-- 'brambleweirlaw1.TrailSays': WHATEVER THE INPUT: true; the input reads as it did. -/
def trailSaysSpec : ChangeSpec := { name := "trailSays", fn := fun _ => fun
  | [d1, d2] => { results := [.lit (.bool true)], args := [d1, d2] }
  | _ => none }
def trailSaysRow : OpenClaim := { program := "ytoomdnbbbaooeaadoor", sum := "9a29b7a910a2ff80de822d6ab50028c3580d158213c77b4cc2d5b4e1c031bd50", func := "brambleweir/brambleweirlaw1.TrailSays", spec := "trailSays", inPlace := ["internal/reflectlite.ValueOf", "(internal/reflectlite.Value).Type", "(internal/reflectlite.Value).IsNil", "internal/reflectlite.TypeOf", "(internal/reflectlite.Value).Elem", "(internal/reflectlite.Value).Set"], unfollowed := true, recurses := true, named := ["errors.errorType"], apart := false, laid := [("errors.errorType", laid_errors_errorType)] }
def TrailSaysSaid : Prop := trailSaysRow.holds Tryd.pinned (OpenSpec.ofChange trailSaysSpec)

/-- ITS FALSE NEIGHBOUR: 'it returns false'. Refute it at one input. -/
def trailSaysWrong : ChangeSpec := { name := "trailSays", fn := fun _ => fun
  | [d1, d2] => { results := [.lit (.bool false)], args := [d1, d2] }
  | _ => none }
def TrailSaysWrongFalsely : Prop := trailSaysRow.holds Tryd.pinned (OpenSpec.ofChange trailSaysWrong)

/-- 'brambleweirlaw1.TrailOnce': WHATEVER THE INPUT: true; the input reads as it did. -/
def trailOnceSpec : ChangeSpec := { name := "trailOnce", fn := fun _ => fun
  | [d1, d2] => { results := [.lit (.bool true)], args := [d1, d2] }
  | _ => none }
def trailOnceRow : OpenClaim := { program := "ytoomdnbbbaooeaadoor", sum := "9a29b7a910a2ff80de822d6ab50028c3580d158213c77b4cc2d5b4e1c031bd50", func := "brambleweir/brambleweirlaw1.TrailOnce", spec := "trailOnce", inPlace := ["internal/reflectlite.ValueOf", "(internal/reflectlite.Value).Type", "(internal/reflectlite.Value).IsNil", "internal/reflectlite.TypeOf", "(internal/reflectlite.Value).Elem", "(internal/reflectlite.Value).Set"], unfollowed := true, recurses := true, named := ["errors.errorType"], apart := false, laid := [("errors.errorType", laid_errors_errorType)] }
def TrailOnceSaid : Prop := trailOnceRow.holds Tryd.pinned (OpenSpec.ofChange trailOnceSpec)

/-- ITS FALSE NEIGHBOUR: 'it returns false'. Refute it at one input. -/
def trailOnceWrong : ChangeSpec := { name := "trailOnce", fn := fun _ => fun
  | [d1, d2] => { results := [.lit (.bool false)], args := [d1, d2] }
  | _ => none }
def TrailOnceWrongFalsely : Prop := trailOnceRow.holds Tryd.pinned (OpenSpec.ofChange trailOnceWrong)

/-- 'brambleweirlaw1.TrailMore': WHATEVER THE INPUT: true; the input reads as it did. -/
def trailMoreSpec : ChangeSpec := { name := "trailMore", fn := fun _ => fun
  | [d1, d2] => { results := [.lit (.bool true)], args := [d1, d2] }
  | _ => none }
def trailMoreRow : OpenClaim := { program := "ytoomdnbbbaooeaadoor", sum := "9a29b7a910a2ff80de822d6ab50028c3580d158213c77b4cc2d5b4e1c031bd50", func := "brambleweir/brambleweirlaw1.TrailMore", spec := "trailMore", inPlace := ["internal/reflectlite.ValueOf", "(internal/reflectlite.Value).Type", "(internal/reflectlite.Value).IsNil", "internal/reflectlite.TypeOf", "(internal/reflectlite.Value).Elem", "(internal/reflectlite.Value).Set"], unfollowed := true, recurses := true, named := ["errors.errorType"], apart := false, laid := [("errors.errorType", laid_errors_errorType)] }
def TrailMoreSaid : Prop := trailMoreRow.holds Tryd.pinned (OpenSpec.ofChange trailMoreSpec)

/-- ITS FALSE NEIGHBOUR: 'it returns false'. Refute it at one input. -/
def trailMoreWrong : ChangeSpec := { name := "trailMore", fn := fun _ => fun
  | [d1, d2] => { results := [.lit (.bool false)], args := [d1, d2] }
  | _ => none }
def TrailMoreWrongFalsely : Prop := trailMoreRow.holds Tryd.pinned (OpenSpec.ofChange trailMoreWrong)

/-- 'brambleweirlaw1.TrailEuler': WHATEVER THE INPUT: true; the input reads as it did. -/
def trailEulerSpec : ChangeSpec := { name := "trailEuler", fn := fun _ => fun
  | [d1, d2] => { results := [.lit (.bool true)], args := [d1, d2] }
  | _ => none }
def trailEulerRow : OpenClaim := { program := "ytoomdnbbbaooeaadoor", sum := "9a29b7a910a2ff80de822d6ab50028c3580d158213c77b4cc2d5b4e1c031bd50", func := "brambleweir/brambleweirlaw1.TrailEuler", spec := "trailEuler", inPlace := ["internal/reflectlite.ValueOf", "(internal/reflectlite.Value).Type", "(internal/reflectlite.Value).IsNil", "internal/reflectlite.TypeOf", "(internal/reflectlite.Value).Elem", "(internal/reflectlite.Value).Set"], unfollowed := true, recurses := true, named := ["errors.errorType"], apart := false, laid := [("errors.errorType", laid_errors_errorType)] }
def TrailEulerSaid : Prop := trailEulerRow.holds Tryd.pinned (OpenSpec.ofChange trailEulerSpec)

/-- ITS FALSE NEIGHBOUR: 'it returns false'. Refute it at one input. -/
def trailEulerWrong : ChangeSpec := { name := "trailEuler", fn := fun _ => fun
  | [d1, d2] => { results := [.lit (.bool false)], args := [d1, d2] }
  | _ => none }
def TrailEulerWrongFalsely : Prop := trailEulerRow.holds Tryd.pinned (OpenSpec.ofChange trailEulerWrong)

/- THE SECOND FORM. 'bulk': how many values and letters a reading holds, each counted each time it is reached (what is shared counts as often as it is met; a slice's spare places count too). A statement '..UptoSaid' is the law's where the arguments, and the package variables that the reading takes, are together of bulk at most 1048576: NARROWER than '..Said'. Prove '..Said' where nothing that the law and all that it calls make is longer than what came in: it says more and counts as full. Else prove '..UptoSaid'. A law counts once. -/
mutual
def uptoBulk {H : Type} : DataW H → Nat
  | .lit (.string bytes) => bytes.length + 1
  | .lit _ => 1
  | .nil => 1
  | .ptr d => uptoBulk d + 1
  | .slice elems spare => uptoBulkAll elems + uptoBulkAll spare + 1
  | .agg parts => uptoBulkAll parts + 1
  | .iface _ d => uptoBulk d + 1
  | .map entries => uptoBulkEntries entries + 1
  | .held _ => 1
def uptoBulkAll {H : Type} : List (DataW H) → Nat
  | [] => 0
  | d :: r => uptoBulk d + uptoBulkAll r
def uptoBulkEntries {H : Type} : List (Lit × DataW H) → Nat
  | [] => 0
  | x :: r => uptoBulkEntry x + uptoBulkEntries r
def uptoBulkEntry {H : Type} : Lit × DataW H → Nat
  | (.string bytes, d) => bytes.length + uptoBulk d + 1
  | (_, d) => uptoBulk d + 1
 end
def uptoSmall : (H : Type) → List (DataW H) → Bool := fun _ ds => decide (uptoBulkAll ds ≤ 1048576)
def OpenSpec.upto (s : _root_.Go.ChangeSpec) : _root_.Go.OpenSpec := { _root_.Go.OpenSpec.ofChange s with cond := some uptoSmall }

/-- 'brambleweirlaw1.TrailSays', WHERE WHAT IT READS IS OF BULK AT MOST 1048576: true; the input reads as it did. -/
def trailSaysUptoRow : OpenClaim := { program := "ytoomdnbbbaooeaadoor", sum := "9a29b7a910a2ff80de822d6ab50028c3580d158213c77b4cc2d5b4e1c031bd50", func := "brambleweir/brambleweirlaw1.TrailSays", spec := "trailSays", inPlace := ["internal/reflectlite.ValueOf", "(internal/reflectlite.Value).Type", "(internal/reflectlite.Value).IsNil", "internal/reflectlite.TypeOf", "(internal/reflectlite.Value).Elem", "(internal/reflectlite.Value).Set"], unfollowed := true, recurses := true, named := ["errors.errorType"], apart := false, laid := [("errors.errorType", laid_errors_errorType)], narrowed := true }
def TrailSaysUptoSaid : Prop := trailSaysUptoRow.holds Tryd.pinned (OpenSpec.upto trailSaysSpec)

/-- 'brambleweirlaw1.TrailOnce', WHERE WHAT IT READS IS OF BULK AT MOST 1048576: true; the input reads as it did. -/
def trailOnceUptoRow : OpenClaim := { program := "ytoomdnbbbaooeaadoor", sum := "9a29b7a910a2ff80de822d6ab50028c3580d158213c77b4cc2d5b4e1c031bd50", func := "brambleweir/brambleweirlaw1.TrailOnce", spec := "trailOnce", inPlace := ["internal/reflectlite.ValueOf", "(internal/reflectlite.Value).Type", "(internal/reflectlite.Value).IsNil", "internal/reflectlite.TypeOf", "(internal/reflectlite.Value).Elem", "(internal/reflectlite.Value).Set"], unfollowed := true, recurses := true, named := ["errors.errorType"], apart := false, laid := [("errors.errorType", laid_errors_errorType)], narrowed := true }
def TrailOnceUptoSaid : Prop := trailOnceUptoRow.holds Tryd.pinned (OpenSpec.upto trailOnceSpec)

/-- 'brambleweirlaw1.TrailMore', WHERE WHAT IT READS IS OF BULK AT MOST 1048576: true; the input reads as it did. -/
def trailMoreUptoRow : OpenClaim := { program := "ytoomdnbbbaooeaadoor", sum := "9a29b7a910a2ff80de822d6ab50028c3580d158213c77b4cc2d5b4e1c031bd50", func := "brambleweir/brambleweirlaw1.TrailMore", spec := "trailMore", inPlace := ["internal/reflectlite.ValueOf", "(internal/reflectlite.Value).Type", "(internal/reflectlite.Value).IsNil", "internal/reflectlite.TypeOf", "(internal/reflectlite.Value).Elem", "(internal/reflectlite.Value).Set"], unfollowed := true, recurses := true, named := ["errors.errorType"], apart := false, laid := [("errors.errorType", laid_errors_errorType)], narrowed := true }
def TrailMoreUptoSaid : Prop := trailMoreUptoRow.holds Tryd.pinned (OpenSpec.upto trailMoreSpec)

/-- 'brambleweirlaw1.TrailEuler', WHERE WHAT IT READS IS OF BULK AT MOST 1048576: true; the input reads as it did. -/
def trailEulerUptoRow : OpenClaim := { program := "ytoomdnbbbaooeaadoor", sum := "9a29b7a910a2ff80de822d6ab50028c3580d158213c77b4cc2d5b4e1c031bd50", func := "brambleweir/brambleweirlaw1.TrailEuler", spec := "trailEuler", inPlace := ["internal/reflectlite.ValueOf", "(internal/reflectlite.Value).Type", "(internal/reflectlite.Value).IsNil", "internal/reflectlite.TypeOf", "(internal/reflectlite.Value).Elem", "(internal/reflectlite.Value).Set"], unfollowed := true, recurses := true, named := ["errors.errorType"], apart := false, laid := [("errors.errorType", laid_errors_errorType)], narrowed := true }
def TrailEulerUptoSaid : Prop := trailEulerUptoRow.holds Tryd.pinned (OpenSpec.upto trailEulerSpec)

end Rows
end Go.Proofs.YtoomdnbbbaooeaaDoor
