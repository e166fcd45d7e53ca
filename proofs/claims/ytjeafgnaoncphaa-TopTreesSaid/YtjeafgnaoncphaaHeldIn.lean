/- A region that draws its order, in a fence: loads first, then what writes. Conditions: in each statement. -/
import Derived.Test.YtjeafgnaoncphaaBridge
import Derived.Deep.RegionHeld3
namespace Go.Proofs.Ytjeafgnaoncphaa
open Go.RowKit

theorem region_held_in {F : Fence} (hF : Wide F) {n : Nat} {P : Program} {id : Nat} {l : List Oper} {Q' : Exit → Act → World → Prop} {a : Act} {w : World} (S : World → Prop) (hm : P.follows .mixedOrders = true)
    (hc : ∀ o ∈ l, Calm P o) (hS : S w.drew) (h : S w.drew → wpAnyH P .any l.toArray (fun e a w => e = .normal ∧ Q' .normal a w) S l.toArray.size (Array.replicate l.toArray.size false) a w.drew) : (Code.region id l.toArray true).wpIn F n P Q' a w :=
  region_in hF (Q := fun a w => Q' .normal a w) hm hc (wpAny_of_held _ _ _ _ (h hS)) (fun _ _ h => h)
theorem held_panic {Q' : Exit → Act → World → Prop} {o : Oper} {v : Value} : ∀ (c : _) (a : Act) (w : World), (fun (e : Exit) (a : Act) (w : World) => e = .normal ∧ Q' .normal a w) (.panic c) (a.put o.dst v) w → (fun (e : Exit) (a : Act) (w : World) => e = .normal ∧ Q' .normal a w) (.panic c) a w :=
  fun _ _ _ h => absurd h.1 (by simp)
theorem calm_alloc {P : Program} {o : Oper} {t : TypeId} (ho : o.op = .alloc t) : Calm P o :=
  calm_b (fun _ => Instr.alloc t true (.tuple #[])) (fun _ v => v) (fun c e => by rw [ho] at e; cases e) (fun a => by unfold execOp; simp only [ho])
theorem calm_field {P : Program} {o : Oper} {t : TypeId} {x : Operand} {f : Nat} (ho : o.op = .fieldAddr t x f) : Calm P o :=
  calm_b (fun a => Instr.fieldAt t (a.eval x) f) (fun _ v => v) (fun c e => by rw [ho] at e; cases e) (fun a => by unfold execOp; simp only [ho])
end Go.Proofs.Ytjeafgnaoncphaa
