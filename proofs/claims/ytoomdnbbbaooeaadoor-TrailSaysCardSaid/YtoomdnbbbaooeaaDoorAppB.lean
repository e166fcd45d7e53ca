/- 'append(s, x)' of one element, where the block's number is written otherwise. Conditions: in the statement. -/
import Derived.Test.YtoomdnbbbaooeaaDoorMem
namespace Go.Proofs.YtoomdnbbbaooeaaDoor
open Go.RowKit

/-- 'append(s, x)' of one element, where the block's number is written otherwise -/
theorem wpl_appB {P : Program} {ops : Array Oper} {rest : List Oper} {o : Oper} {a : Act} {Q : Exit → Act → World → Prop} (s x : Operand) (t : TypeId)
    {w0 w : World} {base : Nat} {e : TypeId} {size bytes : Nat} {v0 v : Value} {n : Nat} {xs : List Value} {vals : Array Value} {i : TypeInfo} {z : Value} {b : Nat} (hb : b = w.heap.size)
    (hA : AppTo w0 base e size v0 w v n xs)
    (hgd : o.guard = none) (ho : o.op = .call { callee := .builtin .append, args := #[s, x], argTypes := #[t, t] })
    (ht : P.underlying t = some (.slice e)) (hi : P.info? e = some i) (hz : i.zero = some z) (hsize : i.size = size) (hby : i.bytes = bytes) (hzs : z.cells.size = size) (hsz : 0 < size)
    (hs : a.eval s = v) (hx : a.eval x = .slice (some ⟨b, 0, none⟩) 1 1) (hl : vals.size = size) (h1 : ∀ u ∈ vals.toList, u.oneCell' = true)
    (hby2 : bytes ≤ 1000) (h63 : n ≤ 100000000000) (hbase0 : base ≤ w0.heap.size)
    (h : ∀ v' w', AppTo w0 base e size v0 w' v' (n + 1) (xs ++ vals.toList) → v' ≠ .slice none 0 0 → Below base w w' → wpList P ops Q rest (a.put o.dst v') w') :
    wpList P ops Q (o :: rest) a (w.alloc (.cells vals e)) := by
  subst hb
  exact wpl_app s x t hA hgd ho ht hi hz hsize hby hzs hsz hs hx hl h1 hby2 h63 hbase0 h

end Go.Proofs.YtoomdnbbbaooeaaDoor
