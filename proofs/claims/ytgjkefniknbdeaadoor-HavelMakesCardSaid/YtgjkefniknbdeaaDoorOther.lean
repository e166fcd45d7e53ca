/- What graph.Other returns: the walk. Conditions: in each statement. -/
import Derived.Test.YtgjkefniknbdeaaDoorLinesEq
namespace Go.Proofs.YtgjkefniknbdeaaDoor
namespace Gr
/-- the lines from a to the points from b on (below b + k) that are not there -/
def otherRow (s a : Nat) (b k : Nat) : List Ln := ((List.range k).filter fun j => !s.testBit (b + j)).map fun j => ((a : Int), ((b + j : Nat) : Int))
/-- all lines that are not there, of the points below k -/
def otherUpto (O : List Nat) (n k : Nat) : List Ln := (List.range k).flatMap fun a => otherRow (O[a]?.getD 0) a (a + 1) (n - (a + 1))
def otherL (n : Nat) (ls : List Ln) : List Ln := otherUpto (beside n ls) n n

theorem otherRow_succ (s a b k : Nat) : otherRow s a b (k + 1) = otherRow s a b k ++ (if s.testBit (b + k) then [] else [((a : Int), ((b + k : Nat) : Int))]) := by
  unfold otherRow
  rw [List.range_succ, List.filter_append, List.map_append]
  congr 1
  cases h : s.testBit (b + k) <;> simp [h]
theorem otherUpto_succ (O : List Nat) (n k : Nat) : otherUpto O n (k + 1) = otherUpto O n k ++ otherRow (O[k]?.getD 0) k (k + 1) (n - (k + 1)) := by
  unfold otherUpto
  rw [List.range_succ, List.flatMap_append]
  simp
theorem otherRow_length (s a b k : Nat) : (otherRow s a b k).length ≤ k := by
  unfold otherRow
  rw [List.length_map]
  refine Nat.le_trans (List.length_filter_le _ _) ?_
  simp
theorem otherUpto_length (O : List Nat) (n k : Nat) : (otherUpto O n k).length ≤ k * n := by
  induction k with
  | zero => simp [otherUpto]
  | succ k ih =>
    rw [otherUpto_succ, List.length_append]
    have := otherRow_length (O[k]?.getD 0) k (k + 1) (n - (k + 1))
    have e : (k + 1) * n = k * n + n := Nat.succ_mul k n
    omega
end Gr
open Go.RowKit Gr

/-- what graph.Other gives where points and lines are good -/
def OtherRet (w : World) (n : Nat) (ls : List Ln) (e : Ending) (w' : World) : Prop :=
  Below w.heap.size w w' ∧ ((24 < (otherL n ls).length ∧ e = .returned (.tuple #[.slice none 0 0, errV 4])) ∨
    ((otherL n ls).length ≤ 24 ∧ ∃ u, e = .returned (.tuple #[u, .nilIface]) ∧ w'.ownsRow w.heap.size 50 2 u (otherL n ls).length (cellsOf (otherL n ls))))

end Go.Proofs.YtgjkefniknbdeaaDoor
