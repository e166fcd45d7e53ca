/- What walk.Ring returns: the walk. Conditions: in each statement. -/
import Derived.Test.YtgjkefniknbdeaaDoorFrom
import Derived.Test.YtgjkefniknbdeaaDoorPlainA
import Derived.Test.YtgjkefniknbdeaaDoorFlex
namespace Go.Proofs.YtgjkefniknbdeaaDoor
open Go.RowKit Go.Shelf Gr
attribute [local go_sem] Oper.semAt_some

/-- between two rounds of the loop over the points beside a -/
def RingI (O : List Nat) (n ai s gs caps Ba Bs : Nat) (w4 : World) (ds : List Deferred) (pre : List (PtIn s)) (W' : World) : Prop :=
  ∃ k : Int, BestIs O n (fun x y => (x < ai ∧ adjS O x y) ∨ (x = ai ∧ ∃ z ∈ pre, z.1.val = y)) k ∧ Boxed W' w4.heap.size 66 (.slice (some ⟨gs, 0, none⟩) n caps) ∧
    Boxed W' (w4.heap.size + 1) 3 (.int .i64 k) ∧ Boxed W' Ba 3 (.int .i64 (ai : Int)) ∧ Boxed W' Bs 69 (.int .u64 (s : Int)) ∧ Marks w4.heap.size W' ds ∧ Below w4.heap.size w4 W'

/-- between two rounds of the innermost loop -/
def RingI2 (C : List Nat) (nw Bn Bs : Nat) (wr : World) (pre : List (PtIn nw)) (W' : World) : Prop :=
  Boxed W' Bn 69 (.int .u64 ((orAll C (pre.map fun x => x.1.val) : Nat) : Int)) ∧ Boxed W' Bs 69 (.int .u64 (nw : Int)) ∧ Below wr.heap.size wr W'

theorem grownBy_setCell_drew (W : World) (b : Nat) (v : Value) : W.grownBy (W.setCell ⟨b, 0, none⟩ v).drew (some b) :=
  ⟨(grownBy_setCell_at W b 0 v).os, (grownBy_setCell_at W b 0 v).tape, (grownBy_setCell_at W b 0 v).output, (grownBy_setCell_at W b 0 v).size, (grownBy_setCell_at W b 0 v).block⟩

theorem keepsBlock_set {X W : World} {B b : Nat} {u : Value} (h : KeepsBlock B X W) (hne : B ≠ b) : KeepsBlock B X (W.setCell ⟨b, 0, none⟩ u) :=
  (show _ = _ from heap_setCell_other W ⟨b, 0, none⟩ B u hne).trans h

theorem setsOf_one (O : List Nat) : ∀ u ∈ setsOf O, u.oneCell' = true := by
  intro u hu
  obtain ⟨x, _, rfl⟩ := List.mem_map.1 hu
  rfl

end Go.Proofs.YtgjkefniknbdeaaDoor
