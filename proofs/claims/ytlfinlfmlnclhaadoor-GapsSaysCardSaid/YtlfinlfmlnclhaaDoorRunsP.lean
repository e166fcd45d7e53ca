/- The runs of a list that rises: plain. Conditions: in each statement. -/
import Derived.Test.YtlfinlfmlnclhaaDoorGapsP
namespace Go.Proofs.YtlfinlfmlnclhaaDoor.El

/-- one more for the last run -/
def bump (r : List (Int × Int)) : List (Int × Int) := r.set (r.length - 1) ((r[r.length - 1]?.getD (0, 0)).1, (r[r.length - 1]?.getD (0, 0)).2 + 1)
def runsUp (l : List Int) : Nat → List (Int × Int)
  | 0 => []
  | k + 1 => if 0 < k ∧ at0 l (k - 1) + 1 = at0 l k then bump (runsUp l k) else runsUp l k ++ [(at0 l k, 1)]
def runsOf (l : List Int) : List (Int × Int) := runsUp l l.length

theorem bump_length (r : List (Int × Int)) : (bump r).length = r.length := by simp [bump]
theorem bump_snoc (r : List (Int × Int)) (p : Int × Int) : bump (r ++ [p]) = r ++ [(p.1, p.2 + 1)] := by
  unfold bump
  have : (r ++ [p]).length - 1 = r.length := by simp
  rw [this]
  simp

/-- the numbers of a run -/
def spread (p : Int × Int) : List Int := (List.range p.2.toNat).map fun (j : Nat) => p.1 + (j : Int)

structure RunsI (l : List Int) (k : Nat) (r : List (Int × Int)) : Prop where
  some : 0 < k → ∃ q p, r = q ++ [p] ∧ p.1 + p.2 = at0 l (k - 1) + 1
  none : k = 0 → r = []
  count : ∀ p ∈ r, 1 ≤ p.2 ∧ p.2 ≤ k
  apart : ∀ i, 0 < i → i < r.length → (r[i - 1]?.getD (0, 0)).1 + (r[i - 1]?.getD (0, 0)).2 < (r[i]?.getD (0, 0)).1
  all : r.flatMap spread = l.take k
  few : r.length ≤ k
  start : ∀ p ∈ r, 0 ≤ p.1 ∧ p.1 ≤ 999999

theorem spread_one (x : Int) : spread (x, 1) = [x] := by simp [spread]
theorem spread_more (a c : Int) (h : 0 ≤ c) : spread (a, c + 1) = spread (a, c) ++ [a + c] := by
  obtain ⟨n, rfl⟩ := Int.eq_ofNat_of_zero_le h
  have : ((n : Int) + 1).toNat = n + 1 := by omega
  simp [spread, this, List.range_succ]

theorem runs_inv {l : List Int} (hg : GapsOk l) : ∀ k, k ≤ l.length → RunsI l k (runsUp l k) := by
  intro k
  induction k with
  | zero => intro _; exact ⟨fun h => by omega, fun _ => rfl, by simp [runsUp], fun i _ h => by simp [runsUp] at h, by simp [runsUp], by simp [runsUp], by simp [runsUp]⟩
  | succ k ih =>
    intro hk
    have h := ih (by omega)
    have hlt : k < l.length := by omega
    have htake : l.take (k + 1) = l.take k ++ [at0 l k] := by rw [List.take_succ_eq_append_getElem hlt, at0_lt hlt]
    by_cases hc : 0 < k ∧ at0 l (k - 1) + 1 = at0 l k
    · have e : runsUp l (k + 1) = bump (runsUp l k) := by simp only [runsUp]; rw [if_pos hc]
      rw [e]
      obtain ⟨q, p, hq, hp⟩ := h.some hc.1
      rw [hq, bump_snoc]
      have hcp := h.count p (by rw [hq]; simp)
      refine ⟨fun _ => ⟨q, _, rfl, ?_⟩, fun h => by omega, ?_, ?_, ?_, ?_, ?_⟩
      · simp only [Nat.add_sub_cancel]; omega
      · intro x hx
        rcases List.mem_append.1 hx with h1 | h1
        · have := h.count x (by rw [hq]; exact List.mem_append_left _ h1); omega
        · rw [List.mem_singleton] at h1; subst h1; simp only; omega
      · intro i h0 hi
        have ha := h.apart i h0 (by rw [hq]; simpa using hi)
        rw [hq] at ha
        simp only [List.length_append, List.length_singleton] at hi
        by_cases e1 : i < q.length
        · rw [List.getElem?_append_left (by omega), List.getElem?_append_left e1] at ha ⊢; exact ha
        · have : i = q.length := by omega
          subst this
          rw [List.getElem?_append_left (by omega)] at ha ⊢
          simp at ha ⊢; exact ha
      · rw [htake, ← h.all, hq, List.flatMap_append, List.flatMap_append, List.append_assoc]
        congr 1
        simp only [List.flatMap_cons, List.flatMap_nil, List.append_nil]
        rw [spread_more _ _ (by omega)]
        congr 2
        omega
      · have := h.few; rw [hq] at this; simp at this ⊢; omega
      · intro x hx
        rcases List.mem_append.1 hx with h1 | h1
        · exact h.start x (by rw [hq]; exact List.mem_append_left _ h1)
        · rw [List.mem_singleton] at h1; subst h1; exact h.start p (by rw [hq]; simp)
    · have e : runsUp l (k + 1) = runsUp l k ++ [(at0 l k, 1)] := by simp only [runsUp]; rw [if_neg hc]
      rw [e]
      refine ⟨fun _ => ⟨_, _, rfl, by simp⟩, fun h => by omega, ?_, ?_, ?_, ?_, ?_⟩
      · intro x hx
        rcases List.mem_append.1 hx with h1 | h1
        · have := h.count x h1; omega
        · rw [List.mem_singleton] at h1; subst h1; simp only; omega
      · intro i h0 hi
        simp only [List.length_append, List.length_singleton] at hi
        by_cases e1 : i < (runsUp l k).length
        · rw [List.getElem?_append_left (by omega), List.getElem?_append_left e1]; exact h.apart i h0 e1
        · have e2 : i = (runsUp l k).length := by omega
          subst e2
          have hk0 : 0 < k := by
            rcases Nat.eq_zero_or_pos k with h1 | h1
            · rw [h.none h1] at h0; simp at h0
            · exact h1
          obtain ⟨q, p, hq, hp⟩ := h.some hk0
          rw [hq]
          have hr := (gAt_zero (hg.all k hlt)).2.2 hk0
          have : at0 l (k - 1) + 1 ≠ at0 l k := fun e => hc ⟨hk0, e⟩
          simp
          omega
      · rw [htake, ← h.all, List.flatMap_append]; simp [spread_one]
      · have := h.few; simp; omega
      · intro x hx
        rcases List.mem_append.1 hx with h1 | h1
        · exact h.start x h1
        · rw [List.mem_singleton] at h1; subst h1
          obtain ⟨g1, g2, _⟩ := gAt_zero (hg.all k hlt)
          exact ⟨g1, g2⟩

end Go.Proofs.YtlfinlfmlnclhaaDoor.El
