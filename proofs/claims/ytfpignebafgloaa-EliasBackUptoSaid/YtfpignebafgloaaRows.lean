/-
  No cell of these rows narrows 'for every input' (looked for: loops, veiled, ifaces, maps, wideKeys, modest, calm, conditions, laid).
  DERIVED. THE GIVEN ROWS OF THIS SEAT. 30 by the template 'for every input the law returns true; each argument reads behind the call as it read before'; 0 by the template 'total and deterministic' (their statements: YtfpignebafgloaaTotals.lean).
  GIVEN WITH THE SEED: the statements are not yours to turn. If you find one false, say at which input.
  Laid BY PROGRAM, IN A SANDBOX (cutbox-rows.mjs): the forced cells as the released guide's own fill.sh prints them over the translation eabe5b4191116234… (all of the seat's roots in one cut). By AI agents, Wed Nov 11 2026. No macro, syntax, notation, axiom, sorry.
-/
import Derived.Test.YtfpignebafgloaaChecked
import GoSem.Claim
import GoSem.ClaimJoined
import GoSem.ClaimMapViews
import Derived.JoinedTies
import Derived.KernelRfl
namespace Go.Proofs.Ytfpignebafgloaa
/- THE CELL 'sum', in the pinned program and in every row, IS THE sha256 OF THE DUMP (.gsa) THAT YtfpignebafgloaaProg.lean LOADS. Nothing in Lean hashes anything: it is a label: what it is worth is what the hold of that sum in a sandbox is worth. -/
noncomputable def Try.pinned : Pinned := { name := "ytfpignebafgloaa", sum := "eabe5b4191116234f49c20b3eb8cd1582eb231875bf12fb19e8fae36639c8323", checked := Try.checked }
namespace Rows
def none {H : Type} : Left H := { results := [], args := [] }

/-- 'brambleweirlaw1.Names': WHATEVER THE INPUT: true; the input reads as it did. -/
def namesSpec : ChangeSpec := { name := "names", fn := fun _ => fun
  | [] => { results := [.lit (.bool true)], args := [] }
  | _ => none }
def namesRow : OpenClaim := { program := "ytfpignebafgloaa", sum := "eabe5b4191116234f49c20b3eb8cd1582eb231875bf12fb19e8fae36639c8323", func := "brambleweir/brambleweirlaw1.Names", spec := "names", apart := false }
def NamesSaid : Prop := namesRow.holds Try.pinned (OpenSpec.ofChange namesSpec)

/-- ITS FALSE NEIGHBOUR: 'it returns false'. Refute it at one input. -/
def namesWrong : ChangeSpec := { name := "names", fn := fun _ => fun
  | [] => { results := [.lit (.bool false)], args := [] }
  | _ => none }
def NamesWrongFalsely : Prop := namesRow.holds Try.pinned (OpenSpec.ofChange namesWrong)

/-- 'brambleweirlaw1.DeepBrackets': WHATEVER THE INPUT: true; the input reads as it did. -/
def deepBracketsSpec : ChangeSpec := { name := "deepBrackets", fn := fun _ => fun
  | [d1, d2] => { results := [.lit (.bool true)], args := [d1, d2] }
  | _ => none }
def deepBracketsRow : OpenClaim := { program := "ytfpignebafgloaa", sum := "eabe5b4191116234f49c20b3eb8cd1582eb231875bf12fb19e8fae36639c8323", func := "brambleweir/brambleweirlaw1.DeepBrackets", spec := "deepBrackets", unfollowed := true, recurses := true, apart := false }
def DeepBracketsSaid : Prop := deepBracketsRow.holds Try.pinned (OpenSpec.ofChange deepBracketsSpec)

/-- ITS FALSE NEIGHBOUR: 'it returns false'. Refute it at one input. -/
def deepBracketsWrong : ChangeSpec := { name := "deepBrackets", fn := fun _ => fun
  | [d1, d2] => { results := [.lit (.bool false)], args := [d1, d2] }
  | _ => none }
def DeepBracketsWrongFalsely : Prop := deepBracketsRow.holds Try.pinned (OpenSpec.ofChange deepBracketsWrong)

/-- 'brambleweirlaw1.DeepBack': WHATEVER THE INPUT: true; the input reads as it did. -/
def deepBackSpec : ChangeSpec := { name := "deepBack", fn := fun _ => fun
  | [d1, d2] => { results := [.lit (.bool true)], args := [d1, d2] }
  | _ => none }
def deepBackRow : OpenClaim := { program := "ytfpignebafgloaa", sum := "eabe5b4191116234f49c20b3eb8cd1582eb231875bf12fb19e8fae36639c8323", func := "brambleweir/brambleweirlaw1.DeepBack", spec := "deepBack", unfollowed := true, recurses := true, apart := false }
def DeepBackSaid : Prop := deepBackRow.holds Try.pinned (OpenSpec.ofChange deepBackSpec)

/-- ITS FALSE NEIGHBOUR: 'it returns false'. Refute it at one input. -/
def deepBackWrong : ChangeSpec := { name := "deepBack", fn := fun _ => fun
  | [d1, d2] => { results := [.lit (.bool false)], args := [d1, d2] }
  | _ => none }
def DeepBackWrongFalsely : Prop := deepBackRow.holds Try.pinned (OpenSpec.ofChange deepBackWrong)

/-- 'brambleweirlaw1.GraphTurn': WHATEVER THE INPUT: true; the input reads as it did. -/
def graphTurnSpec : ChangeSpec := { name := "graphTurn", fn := fun _ => fun
  | [d1, d2] => { results := [.lit (.bool true)], args := [d1, d2] }
  | _ => none }
def graphTurnRow : OpenClaim := { program := "ytfpignebafgloaa", sum := "eabe5b4191116234f49c20b3eb8cd1582eb231875bf12fb19e8fae36639c8323", func := "brambleweir/brambleweirlaw1.GraphTurn", spec := "graphTurn", unfollowed := true, recurses := true, apart := false }
def GraphTurnSaid : Prop := graphTurnRow.holds Try.pinned (OpenSpec.ofChange graphTurnSpec)

/-- ITS FALSE NEIGHBOUR: 'it returns false'. Refute it at one input. -/
def graphTurnWrong : ChangeSpec := { name := "graphTurn", fn := fun _ => fun
  | [d1, d2] => { results := [.lit (.bool false)], args := [d1, d2] }
  | _ => none }
def GraphTurnWrongFalsely : Prop := graphTurnRow.holds Try.pinned (OpenSpec.ofChange graphTurnWrong)

/-- 'brambleweirlaw1.EliasLong': WHATEVER THE INPUT: true; the input reads as it did. -/
def eliasLongSpec : ChangeSpec := { name := "eliasLong", fn := fun _ => fun
  | [d1, d2] => { results := [.lit (.bool true)], args := [d1, d2] }
  | _ => none }
def eliasLongRow : OpenClaim := { program := "ytfpignebafgloaa", sum := "eabe5b4191116234f49c20b3eb8cd1582eb231875bf12fb19e8fae36639c8323", func := "brambleweir/brambleweirlaw1.EliasLong", spec := "eliasLong", apart := false }
def EliasLongSaid : Prop := eliasLongRow.holds Try.pinned (OpenSpec.ofChange eliasLongSpec)

/-- ITS FALSE NEIGHBOUR: 'it returns false'. Refute it at one input. -/
def eliasLongWrong : ChangeSpec := { name := "eliasLong", fn := fun _ => fun
  | [d1, d2] => { results := [.lit (.bool false)], args := [d1, d2] }
  | _ => none }
def EliasLongWrongFalsely : Prop := eliasLongRow.holds Try.pinned (OpenSpec.ofChange eliasLongWrong)

/-- 'brambleweirlaw1.EliasApart': WHATEVER THE INPUT: true; the input reads as it did. -/
def eliasApartSpec : ChangeSpec := { name := "eliasApart", fn := fun _ => fun
  | [d1, d2] => { results := [.lit (.bool true)], args := [d1, d2] }
  | _ => none }
def eliasApartRow : OpenClaim := { program := "ytfpignebafgloaa", sum := "eabe5b4191116234f49c20b3eb8cd1582eb231875bf12fb19e8fae36639c8323", func := "brambleweir/brambleweirlaw1.EliasApart", spec := "eliasApart", apart := false }
def EliasApartSaid : Prop := eliasApartRow.holds Try.pinned (OpenSpec.ofChange eliasApartSpec)

/-- ITS FALSE NEIGHBOUR: 'it returns false'. Refute it at one input. -/
def eliasApartWrong : ChangeSpec := { name := "eliasApart", fn := fun _ => fun
  | [d1, d2] => { results := [.lit (.bool false)], args := [d1, d2] }
  | _ => none }
def EliasApartWrongFalsely : Prop := eliasApartRow.holds Try.pinned (OpenSpec.ofChange eliasApartWrong)

/-- 'brambleweirlaw1.WalkSteps': WHATEVER THE INPUT: true; the input reads as it did. -/
def walkStepsSpec : ChangeSpec := { name := "walkSteps", fn := fun _ => fun
  | [d1, d2, d3] => { results := [.lit (.bool true)], args := [d1, d2, d3] }
  | _ => none }
def walkStepsRow : OpenClaim := { program := "ytfpignebafgloaa", sum := "eabe5b4191116234f49c20b3eb8cd1582eb231875bf12fb19e8fae36639c8323", func := "brambleweir/brambleweirlaw1.WalkSteps", spec := "walkSteps", unfollowed := true, recurses := true, apart := false }
def WalkStepsSaid : Prop := walkStepsRow.holds Try.pinned (OpenSpec.ofChange walkStepsSpec)

/-- ITS FALSE NEIGHBOUR: 'it returns false'. Refute it at one input. -/
def walkStepsWrong : ChangeSpec := { name := "walkSteps", fn := fun _ => fun
  | [d1, d2, d3] => { results := [.lit (.bool false)], args := [d1, d2, d3] }
  | _ => none }
def WalkStepsWrongFalsely : Prop := walkStepsRow.holds Try.pinned (OpenSpec.ofChange walkStepsWrong)

/-- 'brambleweirlaw1.EliasBack': WHATEVER THE INPUT: true; the input reads as it did. -/
def eliasBackSpec : ChangeSpec := { name := "eliasBack", fn := fun _ => fun
  | [d] => { results := [.lit (.bool true)], args := [d] }
  | _ => none }
def eliasBackRow : OpenClaim := { program := "ytfpignebafgloaa", sum := "eabe5b4191116234f49c20b3eb8cd1582eb231875bf12fb19e8fae36639c8323", func := "brambleweir/brambleweirlaw1.EliasBack", spec := "eliasBack", apart := false }
def EliasBackSaid : Prop := eliasBackRow.holds Try.pinned (OpenSpec.ofChange eliasBackSpec)

/-- ITS FALSE NEIGHBOUR: 'it returns false'. Refute it at one input. -/
def eliasBackWrong : ChangeSpec := { name := "eliasBack", fn := fun _ => fun
  | [d] => { results := [.lit (.bool false)], args := [d] }
  | _ => none }
def EliasBackWrongFalsely : Prop := eliasBackRow.holds Try.pinned (OpenSpec.ofChange eliasBackWrong)

/-- 'brambleweirlaw1.EliasOnly': WHATEVER THE INPUT: true; the input reads as it did. -/
def eliasOnlySpec : ChangeSpec := { name := "eliasOnly", fn := fun _ => fun
  | [d] => { results := [.lit (.bool true)], args := [d] }
  | _ => none }
def eliasOnlyRow : OpenClaim := { program := "ytfpignebafgloaa", sum := "eabe5b4191116234f49c20b3eb8cd1582eb231875bf12fb19e8fae36639c8323", func := "brambleweir/brambleweirlaw1.EliasOnly", spec := "eliasOnly", apart := false }
def EliasOnlySaid : Prop := eliasOnlyRow.holds Try.pinned (OpenSpec.ofChange eliasOnlySpec)

/-- ITS FALSE NEIGHBOUR: 'it returns false'. Refute it at one input. -/
def eliasOnlyWrong : ChangeSpec := { name := "eliasOnly", fn := fun _ => fun
  | [d] => { results := [.lit (.bool false)], args := [d] }
  | _ => none }
def EliasOnlyWrongFalsely : Prop := eliasOnlyRow.holds Try.pinned (OpenSpec.ofChange eliasOnlyWrong)

/-- 'brambleweirlaw1.GraphWithout': WHATEVER THE INPUT: true; the input reads as it did. -/
def graphWithoutSpec : ChangeSpec := { name := "graphWithout", fn := fun _ => fun
  | [d1, d2, d3, d4] => { results := [.lit (.bool true)], args := [d1, d2, d3, d4] }
  | _ => none }
def graphWithoutRow : OpenClaim := { program := "ytfpignebafgloaa", sum := "eabe5b4191116234f49c20b3eb8cd1582eb231875bf12fb19e8fae36639c8323", func := "brambleweir/brambleweirlaw1.GraphWithout", spec := "graphWithout", unfollowed := true, recurses := true, apart := false }
def GraphWithoutSaid : Prop := graphWithoutRow.holds Try.pinned (OpenSpec.ofChange graphWithoutSpec)

/-- ITS FALSE NEIGHBOUR: 'it returns false'. Refute it at one input. -/
def graphWithoutWrong : ChangeSpec := { name := "graphWithout", fn := fun _ => fun
  | [d1, d2, d3, d4] => { results := [.lit (.bool false)], args := [d1, d2, d3, d4] }
  | _ => none }
def GraphWithoutWrongFalsely : Prop := graphWithoutRow.holds Try.pinned (OpenSpec.ofChange graphWithoutWrong)

/-- 'brambleweirlaw1.DeepParts': WHATEVER THE INPUT: true; the input reads as it did. -/
def deepPartsSpec : ChangeSpec := { name := "deepParts", fn := fun _ => fun
  | [d1, d2] => { results := [.lit (.bool true)], args := [d1, d2] }
  | _ => none }
def deepPartsRow : OpenClaim := { program := "ytfpignebafgloaa", sum := "eabe5b4191116234f49c20b3eb8cd1582eb231875bf12fb19e8fae36639c8323", func := "brambleweir/brambleweirlaw1.DeepParts", spec := "deepParts", unfollowed := true, recurses := true, apart := false }
def DeepPartsSaid : Prop := deepPartsRow.holds Try.pinned (OpenSpec.ofChange deepPartsSpec)

/-- ITS FALSE NEIGHBOUR: 'it returns false'. Refute it at one input. -/
def deepPartsWrong : ChangeSpec := { name := "deepParts", fn := fun _ => fun
  | [d1, d2] => { results := [.lit (.bool false)], args := [d1, d2] }
  | _ => none }
def DeepPartsWrongFalsely : Prop := deepPartsRow.holds Try.pinned (OpenSpec.ofChange deepPartsWrong)

/-- 'brambleweirtop.TopBits': WHATEVER THE INPUT: true; the input reads as it did. -/
def topBitsSpec : ChangeSpec := { name := "topBits", fn := fun _ => fun
  | [d1, d2] => { results := [.lit (.bool true)], args := [d1, d2] }
  | _ => none }
def topBitsRow : OpenClaim := { program := "ytfpignebafgloaa", sum := "eabe5b4191116234f49c20b3eb8cd1582eb231875bf12fb19e8fae36639c8323", func := "brambleweir/brambleweirtop.TopBits", spec := "topBits", unfollowed := true, recurses := true, apart := false }
def TopBitsSaid : Prop := topBitsRow.holds Try.pinned (OpenSpec.ofChange topBitsSpec)

/-- ITS FALSE NEIGHBOUR: 'it returns false'. Refute it at one input. -/
def topBitsWrong : ChangeSpec := { name := "topBits", fn := fun _ => fun
  | [d1, d2] => { results := [.lit (.bool false)], args := [d1, d2] }
  | _ => none }
def TopBitsWrongFalsely : Prop := topBitsRow.holds Try.pinned (OpenSpec.ofChange topBitsWrong)

/-- 'brambleweirlaw1.WalkParts': WHATEVER THE INPUT: true; the input reads as it did. -/
def walkPartsSpec : ChangeSpec := { name := "walkParts", fn := fun _ => fun
  | [d1, d2, d3, d4, d5] => { results := [.lit (.bool true)], args := [d1, d2, d3, d4, d5] }
  | _ => none }
def walkPartsRow : OpenClaim := { program := "ytfpignebafgloaa", sum := "eabe5b4191116234f49c20b3eb8cd1582eb231875bf12fb19e8fae36639c8323", func := "brambleweir/brambleweirlaw1.WalkParts", spec := "walkParts", unfollowed := true, recurses := true, apart := false }
def WalkPartsSaid : Prop := walkPartsRow.holds Try.pinned (OpenSpec.ofChange walkPartsSpec)

/-- ITS FALSE NEIGHBOUR: 'it returns false'. Refute it at one input. -/
def walkPartsWrong : ChangeSpec := { name := "walkParts", fn := fun _ => fun
  | [d1, d2, d3, d4, d5] => { results := [.lit (.bool false)], args := [d1, d2, d3, d4, d5] }
  | _ => none }
def WalkPartsWrongFalsely : Prop := walkPartsRow.holds Try.pinned (OpenSpec.ofChange walkPartsWrong)

/-- 'brambleweirlaw1.WalkRing': WHATEVER THE INPUT: true; the input reads as it did. -/
def walkRingSpec : ChangeSpec := { name := "walkRing", fn := fun _ => fun
  | [d1, d2] => { results := [.lit (.bool true)], args := [d1, d2] }
  | _ => none }
def walkRingRow : OpenClaim := { program := "ytfpignebafgloaa", sum := "eabe5b4191116234f49c20b3eb8cd1582eb231875bf12fb19e8fae36639c8323", func := "brambleweir/brambleweirlaw1.WalkRing", spec := "walkRing", unfollowed := true, recurses := true, apart := false }
def WalkRingSaid : Prop := walkRingRow.holds Try.pinned (OpenSpec.ofChange walkRingSpec)

/-- ITS FALSE NEIGHBOUR: 'it returns false'. Refute it at one input. -/
def walkRingWrong : ChangeSpec := { name := "walkRing", fn := fun _ => fun
  | [d1, d2] => { results := [.lit (.bool false)], args := [d1, d2] }
  | _ => none }
def WalkRingWrongFalsely : Prop := walkRingRow.holds Try.pinned (OpenSpec.ofChange walkRingWrong)

/-- 'brambleweirlaw1.WalkMore': WHATEVER THE INPUT: true; the input reads as it did. -/
def walkMoreSpec : ChangeSpec := { name := "walkMore", fn := fun _ => fun
  | [d1, d2, d3, d4] => { results := [.lit (.bool true)], args := [d1, d2, d3, d4] }
  | _ => none }
def walkMoreRow : OpenClaim := { program := "ytfpignebafgloaa", sum := "eabe5b4191116234f49c20b3eb8cd1582eb231875bf12fb19e8fae36639c8323", func := "brambleweir/brambleweirlaw1.WalkMore", spec := "walkMore", unfollowed := true, recurses := true, apart := false }
def WalkMoreSaid : Prop := walkMoreRow.holds Try.pinned (OpenSpec.ofChange walkMoreSpec)

/-- ITS FALSE NEIGHBOUR: 'it returns false'. Refute it at one input. -/
def walkMoreWrong : ChangeSpec := { name := "walkMore", fn := fun _ => fun
  | [d1, d2, d3, d4] => { results := [.lit (.bool false)], args := [d1, d2, d3, d4] }
  | _ => none }
def WalkMoreWrongFalsely : Prop := walkMoreRow.holds Try.pinned (OpenSpec.ofChange walkMoreWrong)

/-- 'brambleweirlaw1.GapsBack': WHATEVER THE INPUT: true; the input reads as it did. -/
def gapsBackSpec : ChangeSpec := { name := "gapsBack", fn := fun _ => fun
  | [d1, d2] => { results := [.lit (.bool true)], args := [d1, d2] }
  | _ => none }
def gapsBackRow : OpenClaim := { program := "ytfpignebafgloaa", sum := "eabe5b4191116234f49c20b3eb8cd1582eb231875bf12fb19e8fae36639c8323", func := "brambleweir/brambleweirlaw1.GapsBack", spec := "gapsBack", apart := false }
def GapsBackSaid : Prop := gapsBackRow.holds Try.pinned (OpenSpec.ofChange gapsBackSpec)

/-- ITS FALSE NEIGHBOUR: 'it returns false'. Refute it at one input. -/
def gapsBackWrong : ChangeSpec := { name := "gapsBack", fn := fun _ => fun
  | [d1, d2] => { results := [.lit (.bool false)], args := [d1, d2] }
  | _ => none }
def GapsBackWrongFalsely : Prop := gapsBackRow.holds Try.pinned (OpenSpec.ofChange gapsBackWrong)

/-- 'brambleweirtop.TopDeep': WHATEVER THE INPUT: true; the input reads as it did. -/
def topDeepSpec : ChangeSpec := { name := "topDeep", fn := fun _ => fun
  | [d1, d2] => { results := [.lit (.bool true)], args := [d1, d2] }
  | _ => none }
def topDeepRow : OpenClaim := { program := "ytfpignebafgloaa", sum := "eabe5b4191116234f49c20b3eb8cd1582eb231875bf12fb19e8fae36639c8323", func := "brambleweir/brambleweirtop.TopDeep", spec := "topDeep", unfollowed := true, recurses := true, apart := false }
def TopDeepSaid : Prop := topDeepRow.holds Try.pinned (OpenSpec.ofChange topDeepSpec)

/-- ITS FALSE NEIGHBOUR: 'it returns false'. Refute it at one input. -/
def topDeepWrong : ChangeSpec := { name := "topDeep", fn := fun _ => fun
  | [d1, d2] => { results := [.lit (.bool false)], args := [d1, d2] }
  | _ => none }
def TopDeepWrongFalsely : Prop := topDeepRow.holds Try.pinned (OpenSpec.ofChange topDeepWrong)

/-- 'brambleweirlaw1.GapsNear': WHATEVER THE INPUT: true; the input reads as it did. -/
def gapsNearSpec : ChangeSpec := { name := "gapsNear", fn := fun _ => fun
  | [d1, d2, d3] => { results := [.lit (.bool true)], args := [d1, d2, d3] }
  | _ => none }
def gapsNearRow : OpenClaim := { program := "ytfpignebafgloaa", sum := "eabe5b4191116234f49c20b3eb8cd1582eb231875bf12fb19e8fae36639c8323", func := "brambleweir/brambleweirlaw1.GapsNear", spec := "gapsNear", apart := false }
def GapsNearSaid : Prop := gapsNearRow.holds Try.pinned (OpenSpec.ofChange gapsNearSpec)

/-- ITS FALSE NEIGHBOUR: 'it returns false'. Refute it at one input. -/
def gapsNearWrong : ChangeSpec := { name := "gapsNear", fn := fun _ => fun
  | [d1, d2, d3] => { results := [.lit (.bool false)], args := [d1, d2, d3] }
  | _ => none }
def GapsNearWrongFalsely : Prop := gapsNearRow.holds Try.pinned (OpenSpec.ofChange gapsNearWrong)

/-- 'brambleweirlaw1.GapsRuns': WHATEVER THE INPUT: true; the input reads as it did. -/
def gapsRunsSpec : ChangeSpec := { name := "gapsRuns", fn := fun _ => fun
  | [d] => { results := [.lit (.bool true)], args := [d] }
  | _ => none }
def gapsRunsRow : OpenClaim := { program := "ytfpignebafgloaa", sum := "eabe5b4191116234f49c20b3eb8cd1582eb231875bf12fb19e8fae36639c8323", func := "brambleweir/brambleweirlaw1.GapsRuns", spec := "gapsRuns", apart := false }
def GapsRunsSaid : Prop := gapsRunsRow.holds Try.pinned (OpenSpec.ofChange gapsRunsSpec)

/-- ITS FALSE NEIGHBOUR: 'it returns false'. Refute it at one input. -/
def gapsRunsWrong : ChangeSpec := { name := "gapsRuns", fn := fun _ => fun
  | [d] => { results := [.lit (.bool false)], args := [d] }
  | _ => none }
def GapsRunsWrongFalsely : Prop := gapsRunsRow.holds Try.pinned (OpenSpec.ofChange gapsRunsWrong)

/-- 'brambleweirtop.TopKept': WHATEVER THE INPUT: true; the input reads as it did. -/
def topKeptSpec : ChangeSpec := { name := "topKept", fn := fun _ => fun
  | [d1, d2, d3] => { results := [.lit (.bool true)], args := [d1, d2, d3] }
  | _ => none }
def topKeptRow : OpenClaim := { program := "ytfpignebafgloaa", sum := "eabe5b4191116234f49c20b3eb8cd1582eb231875bf12fb19e8fae36639c8323", func := "brambleweir/brambleweirtop.TopKept", spec := "topKept", unfollowed := true, recurses := true, apart := false }
def TopKeptSaid : Prop := topKeptRow.holds Try.pinned (OpenSpec.ofChange topKeptSpec)

/-- ITS FALSE NEIGHBOUR: 'it returns false'. Refute it at one input. -/
def topKeptWrong : ChangeSpec := { name := "topKept", fn := fun _ => fun
  | [d1, d2, d3] => { results := [.lit (.bool false)], args := [d1, d2, d3] }
  | _ => none }
def TopKeptWrongFalsely : Prop := topKeptRow.holds Try.pinned (OpenSpec.ofChange topKeptWrong)

/-- 'brambleweirlaw1.DegreeHands': WHATEVER THE INPUT: true; the input reads as it did. -/
def degreeHandsSpec : ChangeSpec := { name := "degreeHands", fn := fun _ => fun
  | [d1, d2] => { results := [.lit (.bool true)], args := [d1, d2] }
  | _ => none }
def degreeHandsRow : OpenClaim := { program := "ytfpignebafgloaa", sum := "eabe5b4191116234f49c20b3eb8cd1582eb231875bf12fb19e8fae36639c8323", func := "brambleweir/brambleweirlaw1.DegreeHands", spec := "degreeHands", unfollowed := true, recurses := true, apart := false }
def DegreeHandsSaid : Prop := degreeHandsRow.holds Try.pinned (OpenSpec.ofChange degreeHandsSpec)

/-- ITS FALSE NEIGHBOUR: 'it returns false'. Refute it at one input. -/
def degreeHandsWrong : ChangeSpec := { name := "degreeHands", fn := fun _ => fun
  | [d1, d2] => { results := [.lit (.bool false)], args := [d1, d2] }
  | _ => none }
def DegreeHandsWrongFalsely : Prop := degreeHandsRow.holds Try.pinned (OpenSpec.ofChange degreeHandsWrong)

/-- 'brambleweirlaw1.DegreeCan': WHATEVER THE INPUT: true; the input reads as it did. -/
def degreeCanSpec : ChangeSpec := { name := "degreeCan", fn := fun _ => fun
  | [d1, d2, d3] => { results := [.lit (.bool true)], args := [d1, d2, d3] }
  | _ => none }
def degreeCanRow : OpenClaim := { program := "ytfpignebafgloaa", sum := "eabe5b4191116234f49c20b3eb8cd1582eb231875bf12fb19e8fae36639c8323", func := "brambleweir/brambleweirlaw1.DegreeCan", spec := "degreeCan", unfollowed := true, recurses := true, apart := false }
def DegreeCanSaid : Prop := degreeCanRow.holds Try.pinned (OpenSpec.ofChange degreeCanSpec)

/-- ITS FALSE NEIGHBOUR: 'it returns false'. Refute it at one input. -/
def degreeCanWrong : ChangeSpec := { name := "degreeCan", fn := fun _ => fun
  | [d1, d2, d3] => { results := [.lit (.bool false)], args := [d1, d2, d3] }
  | _ => none }
def DegreeCanWrongFalsely : Prop := degreeCanRow.holds Try.pinned (OpenSpec.ofChange degreeCanWrong)

/-- 'brambleweirlaw1.DegreeSame': WHATEVER THE INPUT: true; the input reads as it did. -/
def degreeSameSpec : ChangeSpec := { name := "degreeSame", fn := fun _ => fun
  | [d1, d2] => { results := [.lit (.bool true)], args := [d1, d2] }
  | _ => none }
def degreeSameRow : OpenClaim := { program := "ytfpignebafgloaa", sum := "eabe5b4191116234f49c20b3eb8cd1582eb231875bf12fb19e8fae36639c8323", func := "brambleweir/brambleweirlaw1.DegreeSame", spec := "degreeSame", unfollowed := true, recurses := true, apart := false }
def DegreeSameSaid : Prop := degreeSameRow.holds Try.pinned (OpenSpec.ofChange degreeSameSpec)

/-- ITS FALSE NEIGHBOUR: 'it returns false'. Refute it at one input. -/
def degreeSameWrong : ChangeSpec := { name := "degreeSame", fn := fun _ => fun
  | [d1, d2] => { results := [.lit (.bool false)], args := [d1, d2] }
  | _ => none }
def DegreeSameWrongFalsely : Prop := degreeSameRow.holds Try.pinned (OpenSpec.ofChange degreeSameWrong)

/-- 'brambleweirlaw1.CutsEnds': WHATEVER THE INPUT: true; the input reads as it did. -/
def cutsEndsSpec : ChangeSpec := { name := "cutsEnds", fn := fun _ => fun
  | [d1, d2] => { results := [.lit (.bool true)], args := [d1, d2] }
  | _ => none }
def cutsEndsRow : OpenClaim := { program := "ytfpignebafgloaa", sum := "eabe5b4191116234f49c20b3eb8cd1582eb231875bf12fb19e8fae36639c8323", func := "brambleweir/brambleweirlaw1.CutsEnds", spec := "cutsEnds", unfollowed := true, recurses := true, apart := false }
def CutsEndsSaid : Prop := cutsEndsRow.holds Try.pinned (OpenSpec.ofChange cutsEndsSpec)

/-- ITS FALSE NEIGHBOUR: 'it returns false'. Refute it at one input. -/
def cutsEndsWrong : ChangeSpec := { name := "cutsEnds", fn := fun _ => fun
  | [d1, d2] => { results := [.lit (.bool false)], args := [d1, d2] }
  | _ => none }
def CutsEndsWrongFalsely : Prop := cutsEndsRow.holds Try.pinned (OpenSpec.ofChange cutsEndsWrong)

/-- 'brambleweirlaw1.CutsTwo': WHATEVER THE INPUT: true; the input reads as it did. -/
def cutsTwoSpec : ChangeSpec := { name := "cutsTwo", fn := fun _ => fun
  | [d1, d2] => { results := [.lit (.bool true)], args := [d1, d2] }
  | _ => none }
def cutsTwoRow : OpenClaim := { program := "ytfpignebafgloaa", sum := "eabe5b4191116234f49c20b3eb8cd1582eb231875bf12fb19e8fae36639c8323", func := "brambleweir/brambleweirlaw1.CutsTwo", spec := "cutsTwo", unfollowed := true, recurses := true, apart := false }
def CutsTwoSaid : Prop := cutsTwoRow.holds Try.pinned (OpenSpec.ofChange cutsTwoSpec)

/-- ITS FALSE NEIGHBOUR: 'it returns false'. Refute it at one input. -/
def cutsTwoWrong : ChangeSpec := { name := "cutsTwo", fn := fun _ => fun
  | [d1, d2] => { results := [.lit (.bool false)], args := [d1, d2] }
  | _ => none }
def CutsTwoWrongFalsely : Prop := cutsTwoRow.holds Try.pinned (OpenSpec.ofChange cutsTwoWrong)

/-- 'brambleweirlaw1.CutsRing': WHATEVER THE INPUT: true; the input reads as it did. -/
def cutsRingSpec : ChangeSpec := { name := "cutsRing", fn := fun _ => fun
  | [d1, d2, d3] => { results := [.lit (.bool true)], args := [d1, d2, d3] }
  | _ => none }
def cutsRingRow : OpenClaim := { program := "ytfpignebafgloaa", sum := "eabe5b4191116234f49c20b3eb8cd1582eb231875bf12fb19e8fae36639c8323", func := "brambleweir/brambleweirlaw1.CutsRing", spec := "cutsRing", unfollowed := true, recurses := true, apart := false }
def CutsRingSaid : Prop := cutsRingRow.holds Try.pinned (OpenSpec.ofChange cutsRingSpec)

/-- ITS FALSE NEIGHBOUR: 'it returns false'. Refute it at one input. -/
def cutsRingWrong : ChangeSpec := { name := "cutsRing", fn := fun _ => fun
  | [d1, d2, d3] => { results := [.lit (.bool false)], args := [d1, d2, d3] }
  | _ => none }
def CutsRingWrongFalsely : Prop := cutsRingRow.holds Try.pinned (OpenSpec.ofChange cutsRingWrong)

/-- 'brambleweirlaw1.CutsWithout': WHATEVER THE INPUT: true; the input reads as it did. -/
def cutsWithoutSpec : ChangeSpec := { name := "cutsWithout", fn := fun _ => fun
  | [d1, d2, d3] => { results := [.lit (.bool true)], args := [d1, d2, d3] }
  | _ => none }
def cutsWithoutRow : OpenClaim := { program := "ytfpignebafgloaa", sum := "eabe5b4191116234f49c20b3eb8cd1582eb231875bf12fb19e8fae36639c8323", func := "brambleweir/brambleweirlaw1.CutsWithout", spec := "cutsWithout", unfollowed := true, recurses := true, apart := false }
def CutsWithoutSaid : Prop := cutsWithoutRow.holds Try.pinned (OpenSpec.ofChange cutsWithoutSpec)

/-- ITS FALSE NEIGHBOUR: 'it returns false'. Refute it at one input. -/
def cutsWithoutWrong : ChangeSpec := { name := "cutsWithout", fn := fun _ => fun
  | [d1, d2, d3] => { results := [.lit (.bool false)], args := [d1, d2, d3] }
  | _ => none }
def CutsWithoutWrongFalsely : Prop := cutsWithoutRow.holds Try.pinned (OpenSpec.ofChange cutsWithoutWrong)

/-- 'brambleweirtop.TopWays': WHATEVER THE INPUT: true; the input reads as it did. -/
def topWaysSpec : ChangeSpec := { name := "topWays", fn := fun _ => fun
  | [d1, d2, d3, d4] => { results := [.lit (.bool true)], args := [d1, d2, d3, d4] }
  | _ => none }
def topWaysRow : OpenClaim := { program := "ytfpignebafgloaa", sum := "eabe5b4191116234f49c20b3eb8cd1582eb231875bf12fb19e8fae36639c8323", func := "brambleweir/brambleweirtop.TopWays", spec := "topWays", unfollowed := true, recurses := true, apart := false }
def TopWaysSaid : Prop := topWaysRow.holds Try.pinned (OpenSpec.ofChange topWaysSpec)

/-- ITS FALSE NEIGHBOUR: 'it returns false'. Refute it at one input. -/
def topWaysWrong : ChangeSpec := { name := "topWays", fn := fun _ => fun
  | [d1, d2, d3, d4] => { results := [.lit (.bool false)], args := [d1, d2, d3, d4] }
  | _ => none }
def TopWaysWrongFalsely : Prop := topWaysRow.holds Try.pinned (OpenSpec.ofChange topWaysWrong)

/-- 'brambleweirtop.TopSums': WHATEVER THE INPUT: true; the input reads as it did. -/
def topSumsSpec : ChangeSpec := { name := "topSums", fn := fun _ => fun
  | [d1, d2] => { results := [.lit (.bool true)], args := [d1, d2] }
  | _ => none }
def topSumsRow : OpenClaim := { program := "ytfpignebafgloaa", sum := "eabe5b4191116234f49c20b3eb8cd1582eb231875bf12fb19e8fae36639c8323", func := "brambleweir/brambleweirtop.TopSums", spec := "topSums", unfollowed := true, recurses := true, apart := false }
def TopSumsSaid : Prop := topSumsRow.holds Try.pinned (OpenSpec.ofChange topSumsSpec)

/-- ITS FALSE NEIGHBOUR: 'it returns false'. Refute it at one input. -/
def topSumsWrong : ChangeSpec := { name := "topSums", fn := fun _ => fun
  | [d1, d2] => { results := [.lit (.bool false)], args := [d1, d2] }
  | _ => none }
def TopSumsWrongFalsely : Prop := topSumsRow.holds Try.pinned (OpenSpec.ofChange topSumsWrong)

/-- 'brambleweirtop.TopTrees': WHATEVER THE INPUT: true; the input reads as it did. -/
def topTreesSpec : ChangeSpec := { name := "topTrees", fn := fun _ => fun
  | [d1, d2] => { results := [.lit (.bool true)], args := [d1, d2] }
  | _ => none }
def topTreesRow : OpenClaim := { program := "ytfpignebafgloaa", sum := "eabe5b4191116234f49c20b3eb8cd1582eb231875bf12fb19e8fae36639c8323", func := "brambleweir/brambleweirtop.TopTrees", spec := "topTrees", unfollowed := true, recurses := true, apart := false }
def TopTreesSaid : Prop := topTreesRow.holds Try.pinned (OpenSpec.ofChange topTreesSpec)

/-- ITS FALSE NEIGHBOUR: 'it returns false'. Refute it at one input. -/
def topTreesWrong : ChangeSpec := { name := "topTrees", fn := fun _ => fun
  | [d1, d2] => { results := [.lit (.bool false)], args := [d1, d2] }
  | _ => none }
def TopTreesWrongFalsely : Prop := topTreesRow.holds Try.pinned (OpenSpec.ofChange topTreesWrong)

/- THE SECOND FORM. 'bulk': how many values and letters a reading holds, each counted each time it is reached (what is shared counts as often as it is met; a slice's spare places count too). A statement '..UptoSaid' is the law's where the arguments, and the package variables that the reading takes, are together of bulk at most 1048576: NARROWER than '..Said'. Prove '..Said' where nothing that the law and all that it calls make is longer than what came in: it says more and counts as full. Else prove '..UptoSaid'. A law counts once. -/
mutual
def uptoBulk {H : Type} : DataW H → Nat
  | .lit (.string bytes) => bytes.length + 1
  | .lit _ => 1
  | .nil => 1
  | .ptr d => uptoBulk d + 1
  | .slice elems spare => uptoBulkAll elems + uptoBulkAll spare + 1
  | .agg parts => uptoBulkAll parts + 1
  | .iface _ d => uptoBulk d + 1
  | .map entries => uptoBulkEntries entries + 1
  | .held _ => 1
def uptoBulkAll {H : Type} : List (DataW H) → Nat
  | [] => 0
  | d :: r => uptoBulk d + uptoBulkAll r
def uptoBulkEntries {H : Type} : List (Lit × DataW H) → Nat
  | [] => 0
  | x :: r => uptoBulkEntry x + uptoBulkEntries r
def uptoBulkEntry {H : Type} : Lit × DataW H → Nat
  | (.string bytes, d) => bytes.length + uptoBulk d + 1
  | (_, d) => uptoBulk d + 1
 end
def uptoSmall : (H : Type) → List (DataW H) → Bool := fun _ ds => decide (uptoBulkAll ds ≤ 1048576)
def OpenSpec.upto (s : _root_.Go.ChangeSpec) : _root_.Go.OpenSpec := { _root_.Go.OpenSpec.ofChange s with cond := some uptoSmall }

/-- 'brambleweirlaw1.Names', WHERE WHAT IT READS IS OF BULK AT MOST 1048576: true; the input reads as it did. -/
def namesUptoRow : OpenClaim := { program := "ytfpignebafgloaa", sum := "eabe5b4191116234f49c20b3eb8cd1582eb231875bf12fb19e8fae36639c8323", func := "brambleweir/brambleweirlaw1.Names", spec := "names", apart := false, narrowed := true }
def NamesUptoSaid : Prop := namesUptoRow.holds Try.pinned (OpenSpec.upto namesSpec)

/-- 'brambleweirlaw1.DeepBrackets', WHERE WHAT IT READS IS OF BULK AT MOST 1048576: true; the input reads as it did. -/
def deepBracketsUptoRow : OpenClaim := { program := "ytfpignebafgloaa", sum := "eabe5b4191116234f49c20b3eb8cd1582eb231875bf12fb19e8fae36639c8323", func := "brambleweir/brambleweirlaw1.DeepBrackets", spec := "deepBrackets", unfollowed := true, recurses := true, apart := false, narrowed := true }
def DeepBracketsUptoSaid : Prop := deepBracketsUptoRow.holds Try.pinned (OpenSpec.upto deepBracketsSpec)

/-- 'brambleweirlaw1.DeepBack', WHERE WHAT IT READS IS OF BULK AT MOST 1048576: true; the input reads as it did. -/
def deepBackUptoRow : OpenClaim := { program := "ytfpignebafgloaa", sum := "eabe5b4191116234f49c20b3eb8cd1582eb231875bf12fb19e8fae36639c8323", func := "brambleweir/brambleweirlaw1.DeepBack", spec := "deepBack", unfollowed := true, recurses := true, apart := false, narrowed := true }
def DeepBackUptoSaid : Prop := deepBackUptoRow.holds Try.pinned (OpenSpec.upto deepBackSpec)

/-- 'brambleweirlaw1.GraphTurn', WHERE WHAT IT READS IS OF BULK AT MOST 1048576: true; the input reads as it did. -/
def graphTurnUptoRow : OpenClaim := { program := "ytfpignebafgloaa", sum := "eabe5b4191116234f49c20b3eb8cd1582eb231875bf12fb19e8fae36639c8323", func := "brambleweir/brambleweirlaw1.GraphTurn", spec := "graphTurn", unfollowed := true, recurses := true, apart := false, narrowed := true }
def GraphTurnUptoSaid : Prop := graphTurnUptoRow.holds Try.pinned (OpenSpec.upto graphTurnSpec)

/-- 'brambleweirlaw1.EliasLong', WHERE WHAT IT READS IS OF BULK AT MOST 1048576: true; the input reads as it did. -/
def eliasLongUptoRow : OpenClaim := { program := "ytfpignebafgloaa", sum := "eabe5b4191116234f49c20b3eb8cd1582eb231875bf12fb19e8fae36639c8323", func := "brambleweir/brambleweirlaw1.EliasLong", spec := "eliasLong", apart := false, narrowed := true }
def EliasLongUptoSaid : Prop := eliasLongUptoRow.holds Try.pinned (OpenSpec.upto eliasLongSpec)

/-- 'brambleweirlaw1.EliasApart', WHERE WHAT IT READS IS OF BULK AT MOST 1048576: true; the input reads as it did. -/
def eliasApartUptoRow : OpenClaim := { program := "ytfpignebafgloaa", sum := "eabe5b4191116234f49c20b3eb8cd1582eb231875bf12fb19e8fae36639c8323", func := "brambleweir/brambleweirlaw1.EliasApart", spec := "eliasApart", apart := false, narrowed := true }
def EliasApartUptoSaid : Prop := eliasApartUptoRow.holds Try.pinned (OpenSpec.upto eliasApartSpec)

/-- 'brambleweirlaw1.WalkSteps', WHERE WHAT IT READS IS OF BULK AT MOST 1048576: true; the input reads as it did. -/
def walkStepsUptoRow : OpenClaim := { program := "ytfpignebafgloaa", sum := "eabe5b4191116234f49c20b3eb8cd1582eb231875bf12fb19e8fae36639c8323", func := "brambleweir/brambleweirlaw1.WalkSteps", spec := "walkSteps", unfollowed := true, recurses := true, apart := false, narrowed := true }
def WalkStepsUptoSaid : Prop := walkStepsUptoRow.holds Try.pinned (OpenSpec.upto walkStepsSpec)

/-- 'brambleweirlaw1.EliasBack', WHERE WHAT IT READS IS OF BULK AT MOST 1048576: true; the input reads as it did. -/
def eliasBackUptoRow : OpenClaim := { program := "ytfpignebafgloaa", sum := "eabe5b4191116234f49c20b3eb8cd1582eb231875bf12fb19e8fae36639c8323", func := "brambleweir/brambleweirlaw1.EliasBack", spec := "eliasBack", apart := false, narrowed := true }
def EliasBackUptoSaid : Prop := eliasBackUptoRow.holds Try.pinned (OpenSpec.upto eliasBackSpec)

/-- 'brambleweirlaw1.EliasOnly', WHERE WHAT IT READS IS OF BULK AT MOST 1048576: true; the input reads as it did. -/
def eliasOnlyUptoRow : OpenClaim := { program := "ytfpignebafgloaa", sum := "eabe5b4191116234f49c20b3eb8cd1582eb231875bf12fb19e8fae36639c8323", func := "brambleweir/brambleweirlaw1.EliasOnly", spec := "eliasOnly", apart := false, narrowed := true }
def EliasOnlyUptoSaid : Prop := eliasOnlyUptoRow.holds Try.pinned (OpenSpec.upto eliasOnlySpec)

/-- 'brambleweirlaw1.GraphWithout', WHERE WHAT IT READS IS OF BULK AT MOST 1048576: true; the input reads as it did. -/
def graphWithoutUptoRow : OpenClaim := { program := "ytfpignebafgloaa", sum := "eabe5b4191116234f49c20b3eb8cd1582eb231875bf12fb19e8fae36639c8323", func := "brambleweir/brambleweirlaw1.GraphWithout", spec := "graphWithout", unfollowed := true, recurses := true, apart := false, narrowed := true }
def GraphWithoutUptoSaid : Prop := graphWithoutUptoRow.holds Try.pinned (OpenSpec.upto graphWithoutSpec)

/-- 'brambleweirlaw1.DeepParts', WHERE WHAT IT READS IS OF BULK AT MOST 1048576: true; the input reads as it did. -/
def deepPartsUptoRow : OpenClaim := { program := "ytfpignebafgloaa", sum := "eabe5b4191116234f49c20b3eb8cd1582eb231875bf12fb19e8fae36639c8323", func := "brambleweir/brambleweirlaw1.DeepParts", spec := "deepParts", unfollowed := true, recurses := true, apart := false, narrowed := true }
def DeepPartsUptoSaid : Prop := deepPartsUptoRow.holds Try.pinned (OpenSpec.upto deepPartsSpec)

/-- 'brambleweirtop.TopBits', WHERE WHAT IT READS IS OF BULK AT MOST 1048576: true; the input reads as it did. -/
def topBitsUptoRow : OpenClaim := { program := "ytfpignebafgloaa", sum := "eabe5b4191116234f49c20b3eb8cd1582eb231875bf12fb19e8fae36639c8323", func := "brambleweir/brambleweirtop.TopBits", spec := "topBits", unfollowed := true, recurses := true, apart := false, narrowed := true }
def TopBitsUptoSaid : Prop := topBitsUptoRow.holds Try.pinned (OpenSpec.upto topBitsSpec)

/-- 'brambleweirlaw1.WalkParts', WHERE WHAT IT READS IS OF BULK AT MOST 1048576: true; the input reads as it did. -/
def walkPartsUptoRow : OpenClaim := { program := "ytfpignebafgloaa", sum := "eabe5b4191116234f49c20b3eb8cd1582eb231875bf12fb19e8fae36639c8323", func := "brambleweir/brambleweirlaw1.WalkParts", spec := "walkParts", unfollowed := true, recurses := true, apart := false, narrowed := true }
def WalkPartsUptoSaid : Prop := walkPartsUptoRow.holds Try.pinned (OpenSpec.upto walkPartsSpec)

/-- 'brambleweirlaw1.WalkRing', WHERE WHAT IT READS IS OF BULK AT MOST 1048576: true; the input reads as it did. -/
def walkRingUptoRow : OpenClaim := { program := "ytfpignebafgloaa", sum := "eabe5b4191116234f49c20b3eb8cd1582eb231875bf12fb19e8fae36639c8323", func := "brambleweir/brambleweirlaw1.WalkRing", spec := "walkRing", unfollowed := true, recurses := true, apart := false, narrowed := true }
def WalkRingUptoSaid : Prop := walkRingUptoRow.holds Try.pinned (OpenSpec.upto walkRingSpec)

/-- 'brambleweirlaw1.WalkMore', WHERE WHAT IT READS IS OF BULK AT MOST 1048576: true; the input reads as it did. -/
def walkMoreUptoRow : OpenClaim := { program := "ytfpignebafgloaa", sum := "eabe5b4191116234f49c20b3eb8cd1582eb231875bf12fb19e8fae36639c8323", func := "brambleweir/brambleweirlaw1.WalkMore", spec := "walkMore", unfollowed := true, recurses := true, apart := false, narrowed := true }
def WalkMoreUptoSaid : Prop := walkMoreUptoRow.holds Try.pinned (OpenSpec.upto walkMoreSpec)

/-- 'brambleweirlaw1.GapsBack', WHERE WHAT IT READS IS OF BULK AT MOST 1048576: true; the input reads as it did. -/
def gapsBackUptoRow : OpenClaim := { program := "ytfpignebafgloaa", sum := "eabe5b4191116234f49c20b3eb8cd1582eb231875bf12fb19e8fae36639c8323", func := "brambleweir/brambleweirlaw1.GapsBack", spec := "gapsBack", apart := false, narrowed := true }
def GapsBackUptoSaid : Prop := gapsBackUptoRow.holds Try.pinned (OpenSpec.upto gapsBackSpec)

/-- 'brambleweirtop.TopDeep', WHERE WHAT IT READS IS OF BULK AT MOST 1048576: true; the input reads as it did. -/
def topDeepUptoRow : OpenClaim := { program := "ytfpignebafgloaa", sum := "eabe5b4191116234f49c20b3eb8cd1582eb231875bf12fb19e8fae36639c8323", func := "brambleweir/brambleweirtop.TopDeep", spec := "topDeep", unfollowed := true, recurses := true, apart := false, narrowed := true }
def TopDeepUptoSaid : Prop := topDeepUptoRow.holds Try.pinned (OpenSpec.upto topDeepSpec)

/-- 'brambleweirlaw1.GapsNear', WHERE WHAT IT READS IS OF BULK AT MOST 1048576: true; the input reads as it did. -/
def gapsNearUptoRow : OpenClaim := { program := "ytfpignebafgloaa", sum := "eabe5b4191116234f49c20b3eb8cd1582eb231875bf12fb19e8fae36639c8323", func := "brambleweir/brambleweirlaw1.GapsNear", spec := "gapsNear", apart := false, narrowed := true }
def GapsNearUptoSaid : Prop := gapsNearUptoRow.holds Try.pinned (OpenSpec.upto gapsNearSpec)

/-- 'brambleweirlaw1.GapsRuns', WHERE WHAT IT READS IS OF BULK AT MOST 1048576: true; the input reads as it did. -/
def gapsRunsUptoRow : OpenClaim := { program := "ytfpignebafgloaa", sum := "eabe5b4191116234f49c20b3eb8cd1582eb231875bf12fb19e8fae36639c8323", func := "brambleweir/brambleweirlaw1.GapsRuns", spec := "gapsRuns", apart := false, narrowed := true }
def GapsRunsUptoSaid : Prop := gapsRunsUptoRow.holds Try.pinned (OpenSpec.upto gapsRunsSpec)

/-- 'brambleweirtop.TopKept', WHERE WHAT IT READS IS OF BULK AT MOST 1048576: true; the input reads as it did. -/
def topKeptUptoRow : OpenClaim := { program := "ytfpignebafgloaa", sum := "eabe5b4191116234f49c20b3eb8cd1582eb231875bf12fb19e8fae36639c8323", func := "brambleweir/brambleweirtop.TopKept", spec := "topKept", unfollowed := true, recurses := true, apart := false, narrowed := true }
def TopKeptUptoSaid : Prop := topKeptUptoRow.holds Try.pinned (OpenSpec.upto topKeptSpec)

/-- 'brambleweirlaw1.DegreeHands', WHERE WHAT IT READS IS OF BULK AT MOST 1048576: true; the input reads as it did. -/
def degreeHandsUptoRow : OpenClaim := { program := "ytfpignebafgloaa", sum := "eabe5b4191116234f49c20b3eb8cd1582eb231875bf12fb19e8fae36639c8323", func := "brambleweir/brambleweirlaw1.DegreeHands", spec := "degreeHands", unfollowed := true, recurses := true, apart := false, narrowed := true }
def DegreeHandsUptoSaid : Prop := degreeHandsUptoRow.holds Try.pinned (OpenSpec.upto degreeHandsSpec)

/-- 'brambleweirlaw1.DegreeCan', WHERE WHAT IT READS IS OF BULK AT MOST 1048576: true; the input reads as it did. -/
def degreeCanUptoRow : OpenClaim := { program := "ytfpignebafgloaa", sum := "eabe5b4191116234f49c20b3eb8cd1582eb231875bf12fb19e8fae36639c8323", func := "brambleweir/brambleweirlaw1.DegreeCan", spec := "degreeCan", unfollowed := true, recurses := true, apart := false, narrowed := true }
def DegreeCanUptoSaid : Prop := degreeCanUptoRow.holds Try.pinned (OpenSpec.upto degreeCanSpec)

/-- 'brambleweirlaw1.DegreeSame', WHERE WHAT IT READS IS OF BULK AT MOST 1048576: true; the input reads as it did. -/
def degreeSameUptoRow : OpenClaim := { program := "ytfpignebafgloaa", sum := "eabe5b4191116234f49c20b3eb8cd1582eb231875bf12fb19e8fae36639c8323", func := "brambleweir/brambleweirlaw1.DegreeSame", spec := "degreeSame", unfollowed := true, recurses := true, apart := false, narrowed := true }
def DegreeSameUptoSaid : Prop := degreeSameUptoRow.holds Try.pinned (OpenSpec.upto degreeSameSpec)

/-- 'brambleweirlaw1.CutsEnds', WHERE WHAT IT READS IS OF BULK AT MOST 1048576: true; the input reads as it did. -/
def cutsEndsUptoRow : OpenClaim := { program := "ytfpignebafgloaa", sum := "eabe5b4191116234f49c20b3eb8cd1582eb231875bf12fb19e8fae36639c8323", func := "brambleweir/brambleweirlaw1.CutsEnds", spec := "cutsEnds", unfollowed := true, recurses := true, apart := false, narrowed := true }
def CutsEndsUptoSaid : Prop := cutsEndsUptoRow.holds Try.pinned (OpenSpec.upto cutsEndsSpec)

/-- 'brambleweirlaw1.CutsTwo', WHERE WHAT IT READS IS OF BULK AT MOST 1048576: true; the input reads as it did. -/
def cutsTwoUptoRow : OpenClaim := { program := "ytfpignebafgloaa", sum := "eabe5b4191116234f49c20b3eb8cd1582eb231875bf12fb19e8fae36639c8323", func := "brambleweir/brambleweirlaw1.CutsTwo", spec := "cutsTwo", unfollowed := true, recurses := true, apart := false, narrowed := true }
def CutsTwoUptoSaid : Prop := cutsTwoUptoRow.holds Try.pinned (OpenSpec.upto cutsTwoSpec)

/-- 'brambleweirlaw1.CutsRing', WHERE WHAT IT READS IS OF BULK AT MOST 1048576: true; the input reads as it did. -/
def cutsRingUptoRow : OpenClaim := { program := "ytfpignebafgloaa", sum := "eabe5b4191116234f49c20b3eb8cd1582eb231875bf12fb19e8fae36639c8323", func := "brambleweir/brambleweirlaw1.CutsRing", spec := "cutsRing", unfollowed := true, recurses := true, apart := false, narrowed := true }
def CutsRingUptoSaid : Prop := cutsRingUptoRow.holds Try.pinned (OpenSpec.upto cutsRingSpec)

/-- 'brambleweirlaw1.CutsWithout', WHERE WHAT IT READS IS OF BULK AT MOST 1048576: true; the input reads as it did. -/
def cutsWithoutUptoRow : OpenClaim := { program := "ytfpignebafgloaa", sum := "eabe5b4191116234f49c20b3eb8cd1582eb231875bf12fb19e8fae36639c8323", func := "brambleweir/brambleweirlaw1.CutsWithout", spec := "cutsWithout", unfollowed := true, recurses := true, apart := false, narrowed := true }
def CutsWithoutUptoSaid : Prop := cutsWithoutUptoRow.holds Try.pinned (OpenSpec.upto cutsWithoutSpec)

/-- 'brambleweirtop.TopWays', WHERE WHAT IT READS IS OF BULK AT MOST 1048576: true; the input reads as it did. -/
def topWaysUptoRow : OpenClaim := { program := "ytfpignebafgloaa", sum := "eabe5b4191116234f49c20b3eb8cd1582eb231875bf12fb19e8fae36639c8323", func := "brambleweir/brambleweirtop.TopWays", spec := "topWays", unfollowed := true, recurses := true, apart := false, narrowed := true }
def TopWaysUptoSaid : Prop := topWaysUptoRow.holds Try.pinned (OpenSpec.upto topWaysSpec)

/-- 'brambleweirtop.TopSums', WHERE WHAT IT READS IS OF BULK AT MOST 1048576: true; the input reads as it did. -/
def topSumsUptoRow : OpenClaim := { program := "ytfpignebafgloaa", sum := "eabe5b4191116234f49c20b3eb8cd1582eb231875bf12fb19e8fae36639c8323", func := "brambleweir/brambleweirtop.TopSums", spec := "topSums", unfollowed := true, recurses := true, apart := false, narrowed := true }
def TopSumsUptoSaid : Prop := topSumsUptoRow.holds Try.pinned (OpenSpec.upto topSumsSpec)

/-- 'brambleweirtop.TopTrees', WHERE WHAT IT READS IS OF BULK AT MOST 1048576: true; the input reads as it did. -/
def topTreesUptoRow : OpenClaim := { program := "ytfpignebafgloaa", sum := "eabe5b4191116234f49c20b3eb8cd1582eb231875bf12fb19e8fae36639c8323", func := "brambleweir/brambleweirtop.TopTrees", spec := "topTrees", unfollowed := true, recurses := true, apart := false, narrowed := true }
def TopTreesUptoSaid : Prop := topTreesUptoRow.holds Try.pinned (OpenSpec.upto topTreesSpec)

end Rows
end Go.Proofs.Ytfpignebafgloaa
