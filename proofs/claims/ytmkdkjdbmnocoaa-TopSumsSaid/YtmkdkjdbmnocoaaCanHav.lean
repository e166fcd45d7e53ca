/- The sums of degree.Can say what havel.Make makes: plain. Conditions: in each statement. -/
import Derived.Test.YtmkdkjdbmnocoaaMadeP
import Derived.Test.YtmkdkjdbmnocoaaDegCan
namespace Go.Proofs.Ytmkdkjdbmnocoaa
open Go.RowKit Gr

theorem sum_castS (l : List Nat) : (l.map fun (i : Nat) => (i : Int)).sum = ((l.sum : Nat) : Int) := by
  induction l with
  | nil => rfl
  | cons a l ih => rw [List.map_cons, List.sum_cons, List.sum_cons, ih]; omega
theorem rightI_castS (s : List Nat) (k : Nat) : rightI (s.map fun (i : Nat) => (i : Int)) k (s.length - (k + 1)) = ((k * (k + 1) + ((s.drop (k + 1)).map fun b => min b (k + 1)).sum : Nat) : Int) := by
  unfold rightI
  rw [List.take_of_length_le (by simp), ← List.map_drop, List.map_map]
  have e : ((s.drop (k + 1)).map ((fun b : Int => min b ((k : Int) + 1)) ∘ fun (i : Nat) => (i : Int))) = ((s.drop (k + 1)).map fun b => min b (k + 1)).map fun (i : Nat) => (i : Int) := by
    rw [List.map_map]
    refine List.map_congr_left fun b _ => ?_
    simp only [Function.comp_apply]
    omega
  rw [e, sum_castS]
  simp
theorem canI_castS (s : List Nat) : canI (s.map fun (i : Nat) => (i : Int)) = canN s := by
  unfold canI canN
  rw [sum_castS, List.length_map]
  congr 1
  · rw [decide_eq_decide]; omega
  · rw [decide_eq_decide]
    refine forall_congr' fun k => imp_congr_right fun hk => ?_
    unfold okI
    rw [List.length_map, rightI_castS, ← List.map_take, sum_castS]
    omega
/-- the sums say what is made -/
theorem can_hav_is {N : List Nat} (h0 : 0 < N.length) (h8 : N.length ≤ 8) (h7 : ∀ x ∈ N, x ≤ 7) : canI (dsort (N.map fun (i : Nat) => (i : Int))) = (hav (N.sum + 1) N).isSome := by
  obtain ⟨ys, h1, h2⟩ := perm_map (fun (i : Nat) => (i : Int)) (dsort_perm (N.map fun (i : Nat) => (i : Int))) N rfl
  have hs : (dsort (N.map fun (i : Nat) => (i : Int))).Pairwise fun x y => y ≤ x := by
    have := List.pairwise_mergeSort (le := fun x y : Int => decide (y ≤ x)) (fun a b c h1 h2 => by simp at *; omega) (fun a b => by simp; omega) (N.map fun (i : Nat) => (i : Int))
    exact this.imp fun h => by simpa using h
  rw [h2] at hs ⊢
  rw [canI_castS, hav_iff h0 h8 h7 (Nat.lt_succ_self _) h1 ((List.pairwise_map.1 hs).imp fun h => by omega)]
end Go.Proofs.Ytmkdkjdbmnocoaa
