/- EliasOnly returns true for every input: the walk. Conditions: none. -/
import Derived.Test.YtnnhidbnjlpjiaaEliasF
import Derived.Test.YtnnhidbnjlpjiaaEliasL
namespace Go.Proofs.Ytnnhidbnjlpjiaa
open Go.RowKit

theorem El.gammas_take (l : List Int) (k : Nat) (h : k < l.length) : El.gammas (l.take (k + 1)) = El.gammas (l.take k) ++ El.gamma (l[k]).toNat := by
  rw [List.take_succ_eq_append_getElem h]; unfold El.gammas; rw [List.flatMap_append]; simp only [List.flatMap_cons, List.flatMap_nil, List.append_nil]
theorem El.deltas_take (l : List Int) (k : Nat) (h : k < l.length) : El.deltas (l.take (k + 1)) = El.deltas (l.take k) ++ El.delta (l[k]).toNat := by
  rw [List.take_succ_eq_append_getElem h]; unfold El.deltas; rw [List.flatMap_append]; simp only [List.flatMap_cons, List.flatMap_nil, List.append_nil]
theorem El.gammas_take_le (l : List Int) (k : Nat) : (El.gammas (l.take k)).length ≤ (El.gammas l).length := by
  have : El.gammas l = El.gammas (l.take k) ++ El.gammas (l.drop k) := by simp [El.gammas, ← List.flatMap_append]
  rw [this, List.length_append]; omega
theorem El.deltas_take_le (l : List Int) (k : Nat) : (El.deltas (l.take k)).length ≤ (El.deltas l).length := by
  have : El.deltas l = El.deltas (l.take k) ++ El.deltas (l.drop k) := by simp [El.deltas, ← List.flatMap_append]
  rw [this, List.length_append]; omega
theorem El.gamma_pos (n : Nat) : 0 < (El.gamma n).length := by rw [El.gamma_length]; omega
theorem El.delta_pos (n : Nat) : 0 < (El.delta n).length := by rw [El.delta_length]; omega

-- what is left behind the reading of the delta codes, which went well

end Go.Proofs.Ytnnhidbnjlpjiaa
