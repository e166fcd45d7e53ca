/- What walk.From returns: the walk. Conditions: in each statement. -/
import Derived.Test.YtjeafgnaoncphaaQueue
import Derived.Test.YtjeafgnaoncphaaPlainA
import Derived.Test.YtjeafgnaoncphaaGraph
namespace Go.Proofs.Ytjeafgnaoncphaa
open Go.RowKit Go.Shelf Gr
attribute [local go_sem] Oper.semAt_some

theorem fill_set (n k : Nat) (hk : k < n) : (List.replicate k (-1 : Int) ++ List.replicate (n - k) 0).set k (-1) = List.replicate (k + 1) (-1) ++ List.replicate (n - (k + 1)) 0 := by
  refine List.ext_getElem? fun i => ?_
  rw [List.getElem?_set]
  simp only [List.length_append, List.length_replicate, List.getElem?_append, List.getElem?_replicate]
  repeat' split
  all_goals first | rfl | (exfalso; omega)

theorem ints_set (xs : List Int) (k : Nat) (x : Int) : (ints xs).set k (.int .i64 x) = ints (xs.set k x) := by simp [ints, List.map_set]

set_option pp.deepTerms true in
set_option pp.maxSteps 1000000 in
/-- between two rounds of the inner loop -/
def FromI (O : List Nat) (k f u s g bo wb w4 gs caps Bt Bs : Nat) (w1 : World) (ds : List Deferred) (d : List Int) (t : List Nat) (pre : List (PtIn s)) (W' : World) : Prop :=
  ∃ (d' : List Int) (t' : List Nat) (tv' : Value), (pre.map (fun (x : PtIn s) => x.1.val)).foldl (bfsStep u) (d, u :: t) = (d', u :: t') ∧ Bfs O k f d' (u :: t') ∧
    Boxed W' bo 28 (.slice (some ⟨g, 0, none⟩) k k) ∧ W'.ownsRow g 3 1 (.slice (some ⟨g, 0, none⟩) k k) k (ints d') ∧
    W'.ownsRow wb 65 1 (.slice (some ⟨gs, 0, none⟩) k caps) k (setsOf O) ∧ Boxed W' Bt 28 tv' ∧ QRow W' w4 tv' (nats (u :: t')) ∧
    Boxed W' Bs 65 (.int .u64 (s : Int)) ∧ Marks w4 W' ds ∧ w4 ≤ W'.heap.size ∧ Below g w1 W'

theorem boxed_ne {W : World} {B b : Nat} {t t' : TypeId} {v : Value} {arr : Array Value} (h : Boxed W B t v) (hb : W.heap[b]? = some (.cells arr t' (0, 0))) (hne : t ≠ t') : B ≠ b := by
  rintro rfl
  rw [show W.heap[B]? = _ from h] at hb
  cases hb
  exact hne rfl
theorem marks_row {W W' : World} {B r : Nat} {ds : List Deferred} (h : Marks B W ds) (hg : W.grownBy W' (some r)) (hr : ∃ o : Obj, W.heap[r]? = some o ∧ o.isCells = true) : Marks B W' ds :=
  h.kept fun D _ _ hD => (hg.block D (Array.getElem?_eq_some_iff.1 hD).1 (fun e => by
    obtain ⟨o, ho, hc⟩ := hr
    cases e
    rw [hD] at ho; cases ho; cases hc)).trans hD
theorem keeps_row {W W' : World} {r : Nat} (hg : W.grownBy W' (some r)) (hr : ∃ o : Obj, W.heap[r]? = some o ∧ o.isCells = true) : KeepsOthers W W' :=
  KeepsOthers.of_grownBy hg fun j o e hj => by cases e; obtain ⟨o', ho, hc⟩ := hr; rw [hj] at ho; cases ho; exact hc

end Go.Proofs.Ytjeafgnaoncphaa
