/- A region that draws its order, whose callees make memory of their own: one walk in the order of the text serves every order. Conditions: in each statement. -/
import Derived.Test.YtjeafgnaoncphaaMem
import Derived.BigQuiet
namespace Go.Proofs.Ytjeafgnaoncphaa
open Go.RowKit

/-- a world that keeps X -/
structure WIn (X : World → Prop) where
  w : World
  h : X w
theorem wp_region_kept {P : Program} {id : Nat} {Q : Exit → Act → World → Prop} {a : Act} {w : World} {l : List Oper} (X : World → Prop) (hm : P.follows .mixedOrders = true) (hB : Region.lexB .any l.toArray = true) (hX : X w.drew)
    (h : wpQuiet P l.toArray (fun w' => ∃ x : WIn X, w' = x.w) (fun a' => ∀ w', (∃ x : WIn X, w' = x.w) → Q .normal a' w') l a) : (Code.region id l.toArray true).wp P Q a w :=
  wp_region_quiet (C := fun w' => ∃ x : WIn X, w' = x.w) hm hB ⟨⟨_, hX⟩, rfl⟩ (by simpa using h)
end Go.Proofs.Ytjeafgnaoncphaa
