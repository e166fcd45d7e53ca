/- One line more: plain. Conditions: in each statement. -/
import Derived.Test.YthlnejfojaldnaaPartsP
namespace Go.Proofs.Ythlnejfojaldnaa.Gr

theorem dist_more {O O' : List Nat} {n f : Nat} {D D' : List Int} (h : IsDist O n f D) (h' : IsDist O' n f D') (hs : ∀ i j, adjS O i j → adjS O' i j) : ∀ (k i : Nat), at1 D i = (k : Int) → 0 ≤ at1 D' i ∧ at1 D' i ≤ at1 D i := by
  intro k
  induction k with
  | zero => intro i hi; have e := h.zero i hi; subst e; rw [h'.src]; omega
  | succ k ih =>
    intro i hi
    obtain ⟨j, hj, hk⟩ := h.pre i (by omega)
    obtain ⟨h1, h2⟩ := ih j (by omega)
    obtain ⟨h3, h4⟩ := h'.edge j i (hs j i hj) h1
    omega

theorem near_more (ls : List Ln) (q : Ln) (a b : Int) : near (ls ++ [q]) a b = true ↔ near ls a b = true ∨ ((q.1 = a ∧ q.2 = b) ∨ (q.1 = b ∧ q.2 = a)) := by
  rw [near_iff, near_iff]
  constructor
  · rintro ⟨l, hl, h⟩
    rcases List.mem_append.1 hl with h1 | h1
    · exact .inl ⟨l, h1, h⟩
    · simp at h1; subst h1; exact .inr h
  · rintro (⟨l, hl, h⟩ | h)
    · exact ⟨l, List.mem_append.2 (.inl hl), h⟩
    · exact ⟨q, List.mem_append.2 (.inr (by simp)), h⟩

theorem more_adj {n : Nat} {ls : List Ln} {q : Ln} (hg : GoodG n ls) (hg' : GoodG n (ls ++ [q])) (i j : Nat) (h : adjS (beside n ls) i j) : adjS (beside n (ls ++ [q])) i j := by
  rw [adj_near hg] at h
  rw [adj_near hg', near_more]
  exact .inl h

theorem more_ring {n a b : Nat} {ls : List Ln} {p : List Int} {k : Int} (hg : GoodG n ls) (hg' : GoodG n (ls ++ [((a : Int), (b : Int))])) (hp : IsParts (beside n ls) n p)
    (hk : BestIs (beside n (ls ++ [((a : Int), (b : Int))])) n (adjS (beside n (ls ++ [((a : Int), (b : Int))]))) k) (ha : a < n) (hb : b < n) (he : at1 p a = at1 p b) (hn : near ls a b = false) : 0 < k := by
  have hn8 := hg.2.1
  have hO := adj_bounded hg
  have hO' := adj_bounded hg'
  have hs : Symm (beside n ls) := fun _ _ h => adj_symm hg h
  have hab : adjS (beside n (ls ++ [((a : Int), (b : Int))])) a b := by
    rw [adj_near hg', near_more]; exact .inr (.inl ⟨rfl, rfl⟩)
  have hne := adj_ne hg' hab
  have hla : a < (beside n (ls ++ [((a : Int), (b : Int))])).length := by rw [beside_length]; exact ha
  have hlb : b < (beside n (ls ++ [((a : Int), (b : Int))])).length := by rw [beside_length]; exact hb
  have hsub : ∀ i j, adjS (beside n ls) i j → adjS (cutS (beside n (ls ++ [((a : Int), (b : Int))])) a b) i j := by
    intro i j h
    rw [cutS_adj hla hlb hne]
    refine ⟨more_adj hg hg' i j h, ?_, ?_⟩
    · rintro ⟨rfl, rfl⟩; rw [adj_near hg, hn] at h; cases h
    · rintro ⟨rfl, rfl⟩; rw [adj_near hg, near_symm, hn] at h; cases h
  obtain ⟨x, hx⟩ := exists_dist hn8 hO ha (O := beside n ls)
  obtain ⟨D, hD⟩ := exists_dist hn8 (cutS_bounded hO' hla hlb hne) ha
  have h0 := (parts_dist hn8 hO hs hp hx ha hb).1 he
  obtain ⟨h1, _⟩ := dist_more hx hD hsub (at1 x b).toNat b (by omega)
  have h2 := hk.pos
  rcases hk.least a b _ hab ⟨D, hD, rfl⟩ with h3 | ⟨h3, _⟩ <;> omega

theorem good_in {n : Nat} {ls : List Ln} {q : Ln} (hg : GoodG n (ls ++ [q])) : 0 ≤ q.1 ∧ q.1 < n ∧ 0 ≤ q.2 ∧ q.2 < n := by
  have := hg.2.2.2 q (List.mem_append.2 (.inr (by simp)))
  omega
end Go.Proofs.Ythlnejfojaldnaa.Gr
