/- Rows of numbers equally far from each other, and how long they are when kept: plain. Conditions: in each statement. -/
import Derived.Test.YtnnhidbnjlpjiaaGapsP
namespace Go.Proofs.Ytnnhidbnjlpjiaa.El

/-- k numbers from f on, s apart -/
def arith (f s : Int) (k : Nat) : List Int := (List.range k).map fun (i : Nat) => f + (i : Int) * s
theorem arith_length (f s : Int) (k : Nat) : (arith f s k).length = k := by simp [arith]
theorem arith_succ (f s : Int) (k : Nat) : arith f s (k + 1) = arith f s k ++ [f + (k : Int) * s] := by simp [arith, List.range_succ]
theorem arith_at {f s : Int} {k i : Nat} (h : i < k) : at0 (arith f s k) i = f + (i : Int) * s := by simp [at0, arith, h]

theorem arith_ok {f s : Int} {k : Nat} (hk : k ≤ 30) (hf : 0 ≤ f ∧ f ≤ 900000) (hs : 1 ≤ s ∧ s ≤ 3000) : GapsOk (arith f s k) := by
  refine ⟨by rw [arith_length]; exact hk, fun i hi => ?_⟩
  rw [arith_length] at hi
  have h1 := arith_at (f := f) (s := s) hi
  have h2 : 0 ≤ (i : Int) * s := Int.mul_nonneg (by omega) (by omega)
  have h3 : (i : Int) * s ≤ 29 * 3000 := Int.le_trans (Int.mul_le_mul_of_nonneg_right (show (i : Int) ≤ 29 by omega) (by omega)) (by omega)
  unfold gAt
  rw [if_neg (by rw [h1]; omega)]
  rw [if_neg]
  rintro ⟨h4, h5⟩
  have h6 := arith_at (f := f) (s := s) (show i - 1 < k by omega)
  have h7 : ((i - 1 : Nat) : Int) * s = (i : Int) * s - s := by
    obtain ⟨j, rfl⟩ : ∃ j, i = j + 1 := ⟨i - 1, by omega⟩
    simp [Int.add_mul]
  rw [h1, h6, h7] at h5
  omega

theorem diffs_arith (f s : Int) (k : Nat) : diffs (-1) (arith f s (k + 1)) = (f + 1) :: List.replicate k s := by
  induction k with
  | zero => simp [arith, diffs]
  | succ k ih =>
    rw [arith_succ, diffs_snoc, ih]
    have : ((arith f s (k + 1)).getLast?.getD (-1)) = f + (k : Int) * s := by rw [arith_succ]; simp
    rw [this]
    have e : f + ((k + 1 : Nat) : Int) * s - (f + (k : Int) * s) = s := by simp [Int.add_mul]; omega
    rw [e, List.replicate_succ', List.cons_append]
theorem deltas_replicate (k : Nat) (s : Int) : (deltas (List.replicate k s)).length = k * (delta s.toNat).length := by
  induction k with
  | zero => simp [deltas]
  | succ k ih =>
    rw [List.replicate_succ]
    show (delta s.toNat ++ deltas (List.replicate k s)).length = _
    rw [List.length_append, ih, Nat.add_mul]; omega
theorem write_arith (f s : Int) (k : Nat) : (writeG (arith f s (k + 1))).length = (delta (k + 2)).length + (delta (f + 1).toNat).length + k * (delta s.toNat).length := by
  unfold writeG nums
  rw [diffs_arith, arith_length]
  show (delta ((((k + 1 : Nat) : Int) + 1).toNat) ++ (delta (f + 1).toNat ++ deltas (List.replicate k s))).length = _
  rw [List.length_append, List.length_append, deltas_replicate]
  have : (((k + 1 : Nat) : Int) + 1).toNat = k + 2 := by omega
  rw [this]; omega
theorem delta_one : (delta 1).length = 1 := by decide +kernel
theorem delta_some (n : Nat) : 1 ≤ (delta n).length := by rw [delta_length]; omega

end Go.Proofs.Ytnnhidbnjlpjiaa.El
