/-
  DERIVED. GIVEN WITH THE SEED: THE CARDS: each row of YtgjkefniknbdeaaDoorRows.lean that lists a variable, with what it lists TIED to the program's text (the seventh form; the later family's looks); each row that meets fmt, with fmt's text TOLD by the authors' own Lean function (tested against real Go, not proved from fmt's source: count such statements apart). THE CARD IS WHAT COUNTS. Prove the row's statement (the work); the ties are given (YtgjkefniknbdeaaDoorTie.lean); close each card by the builder's one call (the guide's Derived/Test/ToyasCard.lean, 'card_holds'). Laid BY PROGRAM, IN A SANDBOX (cutbox-door.mjs). By AI agents, Wed Nov 11 2026. No macro, syntax, notation, axiom, sorry.
-/
import Derived.Test.YtgjkefniknbdeaaDoorRows
import GoSem.ClaimSeven
namespace Go.Proofs.YtgjkefniknbdeaaDoor
namespace Rows

/-- THE TIED CARD OF 'brambleweirlaw1.HavelSays'. -/
def havelSaysCard : Claim7 := { stood := { row := havelSaysRow, standIns := [], harness := (true, "fa0cc547db7c937c28bd545db424b40c9d6998f57114e3f06d7d888cc3075b9f"), looks := true }, kinds := [], alts := [], laidByText := true, laidKinds := [.handle], laidTests := true, laidLooks := .later }
def HavelSaysCardSaid : Prop := Claim7.holds Tryd.pinned (.plain (OpenSpec.ofChange havelSaysSpec)) havelSaysCard

/-- THE TIED CARD OF 'brambleweirlaw1.HavelOnce'. -/
def havelOnceCard : Claim7 := { stood := { row := havelOnceRow, standIns := [], harness := (true, "fa0cc547db7c937c28bd545db424b40c9d6998f57114e3f06d7d888cc3075b9f"), looks := true }, kinds := [], alts := [], laidByText := true, laidKinds := [.handle], laidTests := true, laidLooks := .later }
def HavelOnceCardSaid : Prop := Claim7.holds Tryd.pinned (.plain (OpenSpec.ofChange havelOnceSpec)) havelOnceCard

/-- THE TIED CARD OF 'brambleweirlaw1.DegreeSays'. -/
def degreeSaysCard : Claim7 := { stood := { row := degreeSaysRow, standIns := [], harness := (true, "fa0cc547db7c937c28bd545db424b40c9d6998f57114e3f06d7d888cc3075b9f"), looks := true }, kinds := [], alts := [], laidByText := true, laidKinds := [.handle], laidTests := true, laidLooks := .later }
def DegreeSaysCardSaid : Prop := Claim7.holds Tryd.pinned (.plain (OpenSpec.ofChange degreeSaysSpec)) degreeSaysCard

/-- THE TIED CARD OF 'brambleweirlaw1.CutsSays'. -/
def cutsSaysCard : Claim7 := { stood := { row := cutsSaysRow, standIns := [], harness := (true, "fa0cc547db7c937c28bd545db424b40c9d6998f57114e3f06d7d888cc3075b9f"), looks := true }, kinds := [], alts := [], laidByText := true, laidKinds := [.handle], laidTests := true, laidLooks := .later }
def CutsSaysCardSaid : Prop := Claim7.holds Tryd.pinned (.plain (OpenSpec.ofChange cutsSaysSpec)) cutsSaysCard

/-- THE TIED CARD OF 'brambleweirlaw1.HavelMakes'. -/
def havelMakesCard : Claim7 := { stood := { row := havelMakesRow, standIns := [], harness := (true, "fa0cc547db7c937c28bd545db424b40c9d6998f57114e3f06d7d888cc3075b9f"), looks := true }, kinds := [], alts := [], laidByText := true, laidKinds := [.handle], laidTests := true, laidLooks := .later }
def HavelMakesCardSaid : Prop := Claim7.holds Tryd.pinned (.plain (OpenSpec.ofChange havelMakesSpec)) havelMakesCard

/-- THE SECOND FORM's CARD OF 'brambleweirlaw1.HavelSays'. -/
def havelSaysUptoCard : Claim7 := { stood := { row := havelSaysUptoRow, standIns := [], harness := (true, "fa0cc547db7c937c28bd545db424b40c9d6998f57114e3f06d7d888cc3075b9f"), looks := true }, kinds := [], alts := [], laidByText := true, laidKinds := [.handle], laidTests := true, laidLooks := .later }
def HavelSaysUptoCardSaid : Prop := Claim7.holds Tryd.pinned (.plain (OpenSpec.upto havelSaysSpec)) havelSaysUptoCard

/-- THE SECOND FORM's CARD OF 'brambleweirlaw1.HavelOnce'. -/
def havelOnceUptoCard : Claim7 := { stood := { row := havelOnceUptoRow, standIns := [], harness := (true, "fa0cc547db7c937c28bd545db424b40c9d6998f57114e3f06d7d888cc3075b9f"), looks := true }, kinds := [], alts := [], laidByText := true, laidKinds := [.handle], laidTests := true, laidLooks := .later }
def HavelOnceUptoCardSaid : Prop := Claim7.holds Tryd.pinned (.plain (OpenSpec.upto havelOnceSpec)) havelOnceUptoCard

/-- THE SECOND FORM's CARD OF 'brambleweirlaw1.DegreeSays'. -/
def degreeSaysUptoCard : Claim7 := { stood := { row := degreeSaysUptoRow, standIns := [], harness := (true, "fa0cc547db7c937c28bd545db424b40c9d6998f57114e3f06d7d888cc3075b9f"), looks := true }, kinds := [], alts := [], laidByText := true, laidKinds := [.handle], laidTests := true, laidLooks := .later }
def DegreeSaysUptoCardSaid : Prop := Claim7.holds Tryd.pinned (.plain (OpenSpec.upto degreeSaysSpec)) degreeSaysUptoCard

/-- THE SECOND FORM's CARD OF 'brambleweirlaw1.CutsSays'. -/
def cutsSaysUptoCard : Claim7 := { stood := { row := cutsSaysUptoRow, standIns := [], harness := (true, "fa0cc547db7c937c28bd545db424b40c9d6998f57114e3f06d7d888cc3075b9f"), looks := true }, kinds := [], alts := [], laidByText := true, laidKinds := [.handle], laidTests := true, laidLooks := .later }
def CutsSaysUptoCardSaid : Prop := Claim7.holds Tryd.pinned (.plain (OpenSpec.upto cutsSaysSpec)) cutsSaysUptoCard

/-- THE SECOND FORM's CARD OF 'brambleweirlaw1.HavelMakes'. -/
def havelMakesUptoCard : Claim7 := { stood := { row := havelMakesUptoRow, standIns := [], harness := (true, "fa0cc547db7c937c28bd545db424b40c9d6998f57114e3f06d7d888cc3075b9f"), looks := true }, kinds := [], alts := [], laidByText := true, laidKinds := [.handle], laidTests := true, laidLooks := .later }
def HavelMakesUptoCardSaid : Prop := Claim7.holds Tryd.pinned (.plain (OpenSpec.upto havelMakesSpec)) havelMakesUptoCard
end Rows
end Go.Proofs.YtgjkefniknbdeaaDoor
