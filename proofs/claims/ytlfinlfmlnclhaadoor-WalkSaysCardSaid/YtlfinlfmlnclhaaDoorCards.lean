/-
  DERIVED. GIVEN WITH THE SEED: THE CARDS: each row of YtlfinlfmlnclhaaDoorRows.lean that lists a variable, with what it lists TIED to the program's text (the seventh form; the later family's looks); each row that meets fmt, with fmt's text TOLD by the authors' own Lean function (tested against real Go, not proved from fmt's source: count such statements apart). THE CARD IS WHAT COUNTS. Prove the row's statement (the work); the ties are given (YtlfinlfmlnclhaaDoorTie.lean); close each card by the builder's one call (the guide's Derived/Test/ToyasCard.lean, 'card_holds'). Laid BY PROGRAM, IN A SANDBOX (cutbox-door.mjs). By AI agents, Wed Nov 11 2026. No macro, syntax, notation, axiom, sorry.
-/
import Derived.Test.YtlfinlfmlnclhaaDoorRows
import GoSem.ClaimSeven
namespace Go.Proofs.YtlfinlfmlnclhaaDoor
namespace Rows

/-- THE TIED CARD OF 'brambleweirlaw1.GraphOther'. -/
def graphOtherCard : Claim7 := { stood := { row := graphOtherRow, standIns := [], harness := (true, "c2c796ac3df93026289a2678816ba9d2b4c54ab63761f3a92075db9487de4e08"), looks := true }, kinds := [], alts := [], laidByText := true, laidKinds := [.handle], laidTests := true, laidLooks := .later }
def GraphOtherCardSaid : Prop := Claim7.holds Tryd.pinned (.plain (OpenSpec.ofChange graphOtherSpec)) graphOtherCard

/-- THE TIED CARD OF 'brambleweirlaw1.DeepSays'. -/
def deepSaysCard : Claim7 := { stood := { row := deepSaysRow, standIns := [], harness := (true, "c2c796ac3df93026289a2678816ba9d2b4c54ab63761f3a92075db9487de4e08"), looks := true }, kinds := [], alts := [], laidByText := true, laidKinds := [.handle], laidTests := true, laidLooks := .later }
def DeepSaysCardSaid : Prop := Claim7.holds Tryd.pinned (.plain (OpenSpec.ofChange deepSaysSpec)) deepSaysCard

/-- THE TIED CARD OF 'brambleweirlaw1.EliasSays'. -/
def eliasSaysCard : Claim7 := { stood := { row := eliasSaysRow, standIns := [], harness := (true, "c2c796ac3df93026289a2678816ba9d2b4c54ab63761f3a92075db9487de4e08"), looks := true }, kinds := [], alts := [], laidByText := true, laidKinds := [.handle], laidTests := true, laidLooks := .later }
def EliasSaysCardSaid : Prop := Claim7.holds Tryd.pinned (.plain (OpenSpec.ofChange eliasSaysSpec)) eliasSaysCard

/-- THE TIED CARD OF 'brambleweirlaw1.GraphSays'. -/
def graphSaysCard : Claim7 := { stood := { row := graphSaysRow, standIns := [], harness := (true, "c2c796ac3df93026289a2678816ba9d2b4c54ab63761f3a92075db9487de4e08"), looks := true }, kinds := [], alts := [], laidByText := true, laidKinds := [.handle], laidTests := true, laidLooks := .later }
def GraphSaysCardSaid : Prop := Claim7.holds Tryd.pinned (.plain (OpenSpec.ofChange graphSaysSpec)) graphSaysCard

/-- THE TIED CARD OF 'brambleweirlaw1.WalkSays'. -/
def walkSaysCard : Claim7 := { stood := { row := walkSaysRow, standIns := [], harness := (true, "c2c796ac3df93026289a2678816ba9d2b4c54ab63761f3a92075db9487de4e08"), looks := true }, kinds := [], alts := [], laidByText := true, laidKinds := [.handle], laidTests := true, laidLooks := .later }
def WalkSaysCardSaid : Prop := Claim7.holds Tryd.pinned (.plain (OpenSpec.ofChange walkSaysSpec)) walkSaysCard

/-- THE TIED CARD OF 'brambleweirlaw1.GapsSays'. -/
def gapsSaysCard : Claim7 := { stood := { row := gapsSaysRow, standIns := [], harness := (true, "c2c796ac3df93026289a2678816ba9d2b4c54ab63761f3a92075db9487de4e08"), looks := true }, kinds := [], alts := [], laidByText := true, laidKinds := [.handle], laidTests := true, laidLooks := .later }
def GapsSaysCardSaid : Prop := Claim7.holds Tryd.pinned (.plain (OpenSpec.ofChange gapsSaysSpec)) gapsSaysCard

/-- THE SECOND FORM's CARD OF 'brambleweirlaw1.GraphOther'. -/
def graphOtherUptoCard : Claim7 := { stood := { row := graphOtherUptoRow, standIns := [], harness := (true, "c2c796ac3df93026289a2678816ba9d2b4c54ab63761f3a92075db9487de4e08"), looks := true }, kinds := [], alts := [], laidByText := true, laidKinds := [.handle], laidTests := true, laidLooks := .later }
def GraphOtherUptoCardSaid : Prop := Claim7.holds Tryd.pinned (.plain (OpenSpec.upto graphOtherSpec)) graphOtherUptoCard

/-- THE SECOND FORM's CARD OF 'brambleweirlaw1.DeepSays'. -/
def deepSaysUptoCard : Claim7 := { stood := { row := deepSaysUptoRow, standIns := [], harness := (true, "c2c796ac3df93026289a2678816ba9d2b4c54ab63761f3a92075db9487de4e08"), looks := true }, kinds := [], alts := [], laidByText := true, laidKinds := [.handle], laidTests := true, laidLooks := .later }
def DeepSaysUptoCardSaid : Prop := Claim7.holds Tryd.pinned (.plain (OpenSpec.upto deepSaysSpec)) deepSaysUptoCard

/-- THE SECOND FORM's CARD OF 'brambleweirlaw1.EliasSays'. -/
def eliasSaysUptoCard : Claim7 := { stood := { row := eliasSaysUptoRow, standIns := [], harness := (true, "c2c796ac3df93026289a2678816ba9d2b4c54ab63761f3a92075db9487de4e08"), looks := true }, kinds := [], alts := [], laidByText := true, laidKinds := [.handle], laidTests := true, laidLooks := .later }
def EliasSaysUptoCardSaid : Prop := Claim7.holds Tryd.pinned (.plain (OpenSpec.upto eliasSaysSpec)) eliasSaysUptoCard

/-- THE SECOND FORM's CARD OF 'brambleweirlaw1.GraphSays'. -/
def graphSaysUptoCard : Claim7 := { stood := { row := graphSaysUptoRow, standIns := [], harness := (true, "c2c796ac3df93026289a2678816ba9d2b4c54ab63761f3a92075db9487de4e08"), looks := true }, kinds := [], alts := [], laidByText := true, laidKinds := [.handle], laidTests := true, laidLooks := .later }
def GraphSaysUptoCardSaid : Prop := Claim7.holds Tryd.pinned (.plain (OpenSpec.upto graphSaysSpec)) graphSaysUptoCard

/-- THE SECOND FORM's CARD OF 'brambleweirlaw1.WalkSays'. -/
def walkSaysUptoCard : Claim7 := { stood := { row := walkSaysUptoRow, standIns := [], harness := (true, "c2c796ac3df93026289a2678816ba9d2b4c54ab63761f3a92075db9487de4e08"), looks := true }, kinds := [], alts := [], laidByText := true, laidKinds := [.handle], laidTests := true, laidLooks := .later }
def WalkSaysUptoCardSaid : Prop := Claim7.holds Tryd.pinned (.plain (OpenSpec.upto walkSaysSpec)) walkSaysUptoCard

/-- THE SECOND FORM's CARD OF 'brambleweirlaw1.GapsSays'. -/
def gapsSaysUptoCard : Claim7 := { stood := { row := gapsSaysUptoRow, standIns := [], harness := (true, "c2c796ac3df93026289a2678816ba9d2b4c54ab63761f3a92075db9487de4e08"), looks := true }, kinds := [], alts := [], laidByText := true, laidKinds := [.handle], laidTests := true, laidLooks := .later }
def GapsSaysUptoCardSaid : Prop := Claim7.holds Tryd.pinned (.plain (OpenSpec.upto gapsSaysSpec)) gapsSaysUptoCard
end Rows
end Go.Proofs.YtlfinlfmlnclhaaDoor
