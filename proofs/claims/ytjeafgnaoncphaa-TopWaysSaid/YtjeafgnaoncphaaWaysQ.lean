/- How many ways there are: what TopWays asks, plain. Conditions: in each statement. -/
import Derived.Test.YtjeafgnaoncphaaWaysP
import Derived.Test.YtjeafgnaoncphaaTreeP
namespace Go.Proofs.Ytjeafgnaoncphaa
open Go.RowKit Gr

theorem parts_connW {O : List Nat} {n : Nat} {p : List Int} (hn : n ≤ 8) (hO : Bounded n O) (hs : Symm O) (hp : IsParts O n p) {i j : Nat} (hi : i < n) (hj : j < n) : at1 p i = at1 p j ↔ Conn O i j := by
  obtain ⟨D, hD⟩ := exists_dist hn hO hi (O := O)
  rw [parts_dist hn hO hs hp hD hi hj, dist_conn hD]

open Classical in
theorem ways_law {n : Nat} {ls : List Ln} (hg : GoodG n ls) {a b k : Nat} (ha : a < n) (hb : b < n) (hab : a ≠ b)
    (h1 : ∀ T : Nat → Bool, T a = true → T b = false → k ≤ cutL ls T) (h2 : ∃ T : Nat → Bool, T a = true ∧ T b = false ∧ k = cutL ls T) {p : List Int} (hp : IsParts (beside n ls) n p) :
    (1 ≤ k ↔ at1 p a = at1 p b) ∧ (near (bridgesL n ls) a b = true → k = 1) ∧ (IsTreeG n ls → k = 1) ∧ (endsUp ls n = [] → k % 2 = 0) := by
  have hO := adj_bounded hg
  have hs : Symm (beside n ls) := fun _ _ h => adj_symm hg h
  have hpos : Conn (beside n ls) a b → 1 ≤ k := fun hc => by
    obtain ⟨T, t1, t2, rfl⟩ := h2
    exact cut_pos hg hc T t1 t2
  have hone : ∀ c : Nat, Conn (beside n ls) a b → many ls (c : Int) (b : Int) = 1 → ¬ CE (beside n ls) c b c b → CE (beside n ls) c b a c → k = 1 := fun c hc hm hce hac => by
    obtain ⟨T, t1, t2, t3⟩ := cut_one hg hm hce hac
    have := h1 T t1 t2
    have := hpos hc
    omega
  refine ⟨?_, fun hnr => ?_, fun ht => ?_, fun he => ?_⟩
  · rw [parts_connW hg.2.1 hO hs hp ha hb]
    constructor
    · intro hk
      refine Classical.byContradiction fun hc => ?_
      have := h1 (fun x => decide (Conn (beside n ls) a x)) (by simpa using Conn.refl _ _) (by simpa using hc)
      rw [cut_part hg _ (fun x y hxy hx => by
        simp only [decide_eq_true_eq] at hx ⊢
        exact hx.step hxy)] at this
      omega
    · exact hpos
  · obtain ⟨m1, m2⟩ := (near_bridges hg a b).1 hnr
    have hadj : adjS (beside n ls) a b := by rw [adj_near hg, many_near]; omega
    exact hone a ((Conn.refl _ _).step hadj) m1 m2 (CE.refl _ _ _ _)
  · have hc : Conn (beside n ls) a b := ((ht.2 a ha).symm hs).trans (ht.2 b hb)
    obtain ⟨c, hcb, hw⟩ := last_before hab hc
    obtain ⟨l, hl, h3⟩ := near_iff.1 ((adj_near hg c b).1 hcb)
    have h4 := tree_br hg ht l hl
    have h5 : near (bridgesL n ls) (c : Int) (b : Int) = true := by
      rcases h3 with ⟨e1, e2⟩ | ⟨e1, e2⟩
      · rw [← e1, ← e2]; exact h4
      · rw [near_symm, ← e1, ← e2]; exact h4
    obtain ⟨m1, m2⟩ := (near_bridges hg c b).1 h5
    exact hone c hc m1 m2 (CE.of_cw hab hw).swap
  · obtain ⟨T, t1, t2, rfl⟩ := h2
    exact cut_even hg he T
end Go.Proofs.Ytjeafgnaoncphaa
