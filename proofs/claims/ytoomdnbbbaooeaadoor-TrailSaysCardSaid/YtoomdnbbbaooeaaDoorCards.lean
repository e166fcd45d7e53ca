/-
  DERIVED. GIVEN WITH THE SEED: THE CARDS: each row of YtoomdnbbbaooeaaDoorRows.lean that lists a variable, with what it lists TIED to the program's text (the seventh form; the later family's looks); each row that meets fmt, with fmt's text TOLD by the authors' own Lean function (tested against real Go, not proved from fmt's source: count such statements apart). THE CARD IS WHAT COUNTS. Prove the row's statement (the work); the ties are given (YtoomdnbbbaooeaaDoorTie.lean); close each card by the builder's one call (the guide's Derived/Test/ToyasCard.lean, 'card_holds'). Laid BY PROGRAM, IN A SANDBOX (cutbox-door.mjs). By AI agents, Wed Nov 11 2026. No macro, syntax, notation, axiom, sorry.
-/
import Derived.Test.YtoomdnbbbaooeaaDoorRows
import GoSem.ClaimSeven
namespace Go.Proofs.YtoomdnbbbaooeaaDoor
namespace Rows

/-- THE TIED CARD OF 'brambleweirlaw1.TrailSays'. -/
def trailSaysCard : Claim7 := { stood := { row := trailSaysRow, standIns := [], harness := (true, "4103f8716099ed5495eae944fdfea1a3a04d527d211a6b0aa8ec9256fd6261bd"), looks := true }, kinds := [], alts := [], laidByText := true, laidKinds := [.handle], laidTests := true, laidLooks := .later }
def TrailSaysCardSaid : Prop := Claim7.holds Tryd.pinned (.plain (OpenSpec.ofChange trailSaysSpec)) trailSaysCard

/-- THE TIED CARD OF 'brambleweirlaw1.TrailOnce'. -/
def trailOnceCard : Claim7 := { stood := { row := trailOnceRow, standIns := [], harness := (true, "4103f8716099ed5495eae944fdfea1a3a04d527d211a6b0aa8ec9256fd6261bd"), looks := true }, kinds := [], alts := [], laidByText := true, laidKinds := [.handle], laidTests := true, laidLooks := .later }
def TrailOnceCardSaid : Prop := Claim7.holds Tryd.pinned (.plain (OpenSpec.ofChange trailOnceSpec)) trailOnceCard

/-- THE TIED CARD OF 'brambleweirlaw1.TrailMore'. -/
def trailMoreCard : Claim7 := { stood := { row := trailMoreRow, standIns := [], harness := (true, "4103f8716099ed5495eae944fdfea1a3a04d527d211a6b0aa8ec9256fd6261bd"), looks := true }, kinds := [], alts := [], laidByText := true, laidKinds := [.handle], laidTests := true, laidLooks := .later }
def TrailMoreCardSaid : Prop := Claim7.holds Tryd.pinned (.plain (OpenSpec.ofChange trailMoreSpec)) trailMoreCard

/-- THE TIED CARD OF 'brambleweirlaw1.TrailEuler'. -/
def trailEulerCard : Claim7 := { stood := { row := trailEulerRow, standIns := [], harness := (true, "4103f8716099ed5495eae944fdfea1a3a04d527d211a6b0aa8ec9256fd6261bd"), looks := true }, kinds := [], alts := [], laidByText := true, laidKinds := [.handle], laidTests := true, laidLooks := .later }
def TrailEulerCardSaid : Prop := Claim7.holds Tryd.pinned (.plain (OpenSpec.ofChange trailEulerSpec)) trailEulerCard

/-- THE SECOND FORM's CARD OF 'brambleweirlaw1.TrailSays'. -/
def trailSaysUptoCard : Claim7 := { stood := { row := trailSaysUptoRow, standIns := [], harness := (true, "4103f8716099ed5495eae944fdfea1a3a04d527d211a6b0aa8ec9256fd6261bd"), looks := true }, kinds := [], alts := [], laidByText := true, laidKinds := [.handle], laidTests := true, laidLooks := .later }
def TrailSaysUptoCardSaid : Prop := Claim7.holds Tryd.pinned (.plain (OpenSpec.upto trailSaysSpec)) trailSaysUptoCard

/-- THE SECOND FORM's CARD OF 'brambleweirlaw1.TrailOnce'. -/
def trailOnceUptoCard : Claim7 := { stood := { row := trailOnceUptoRow, standIns := [], harness := (true, "4103f8716099ed5495eae944fdfea1a3a04d527d211a6b0aa8ec9256fd6261bd"), looks := true }, kinds := [], alts := [], laidByText := true, laidKinds := [.handle], laidTests := true, laidLooks := .later }
def TrailOnceUptoCardSaid : Prop := Claim7.holds Tryd.pinned (.plain (OpenSpec.upto trailOnceSpec)) trailOnceUptoCard

/-- THE SECOND FORM's CARD OF 'brambleweirlaw1.TrailMore'. -/
def trailMoreUptoCard : Claim7 := { stood := { row := trailMoreUptoRow, standIns := [], harness := (true, "4103f8716099ed5495eae944fdfea1a3a04d527d211a6b0aa8ec9256fd6261bd"), looks := true }, kinds := [], alts := [], laidByText := true, laidKinds := [.handle], laidTests := true, laidLooks := .later }
def TrailMoreUptoCardSaid : Prop := Claim7.holds Tryd.pinned (.plain (OpenSpec.upto trailMoreSpec)) trailMoreUptoCard

/-- THE SECOND FORM's CARD OF 'brambleweirlaw1.TrailEuler'. -/
def trailEulerUptoCard : Claim7 := { stood := { row := trailEulerUptoRow, standIns := [], harness := (true, "4103f8716099ed5495eae944fdfea1a3a04d527d211a6b0aa8ec9256fd6261bd"), looks := true }, kinds := [], alts := [], laidByText := true, laidKinds := [.handle], laidTests := true, laidLooks := .later }
def TrailEulerUptoCardSaid : Prop := Claim7.holds Tryd.pinned (.plain (OpenSpec.upto trailEulerSpec)) trailEulerUptoCard
end Rows
end Go.Proofs.YtoomdnbbbaooeaaDoor
