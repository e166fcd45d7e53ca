/- The earliest time that comes back from a point, reckoned: plain. Conditions: in each statement. -/
import Derived.Test.YtjeafgnaoncphaaLowP
namespace Go.Proofs.Ytjeafgnaoncphaa.Gr

/-- the points beside j -/
def nbs (O : List Nat) (j : Nat) : List Nat := (elems (O[j]?.getD 0)).map (·.val)
/-- one neighbor k of j -/
def lowOne (m c : List Int) (j : Nat) (acc : Int) (k : Nat) : Int := if at1 c j = (k : Int) then acc else min acc (at1 m k)
/-- the points beside j, if j is met under i -/
def lowStep (O : List Nat) (m l c : List Int) (i : Nat) (acc : Int) (j : Nat) : Int :=
  if at1 m j < at1 m i ∨ at1 l i < at1 l j then acc else (nbs O j).foldl (lowOne m c j) acc
def lowOf (O : List Nat) (n : Nat) (m l c : List Int) (i : Nat) : Int := (List.range n).foldl (lowStep O m l c i) (at1 m i)

theorem lowOne_fold (m c : List Int) (j : Nat) : ∀ (ks : List Nat) (acc : Int), ks.foldl (lowOne m c j) acc ≤ acc ∧ (∀ k : Nat, k ∈ ks → at1 c j ≠ (k : Int) → ks.foldl (lowOne m c j) acc ≤ at1 m k) ∧
    (ks.foldl (lowOne m c j) acc = acc ∨ ∃ k : Nat, k ∈ ks ∧ at1 c j ≠ (k : Int) ∧ ks.foldl (lowOne m c j) acc = at1 m k) := by
  intro ks
  induction ks with
  | nil => intro acc; exact ⟨Int.le_refl _, fun k hk => (List.not_mem_nil hk).elim, .inl rfl⟩
  | cons x r ih =>
    intro acc
    obtain ⟨h1, h2, h3⟩ := ih (lowOne m c j acc x)
    rw [List.foldl_cons]
    by_cases hx : at1 c j = (x : Int)
    · have e : lowOne m c j acc x = acc := by unfold lowOne; rw [if_pos hx]
      rw [e] at h1 h2 h3 ⊢
      refine ⟨h1, fun k hk hne => ?_, ?_⟩
      · rcases List.mem_cons.1 hk with rfl | hk
        · exact absurd hx hne
        · exact h2 k hk hne
      · rcases h3 with h3 | ⟨k, hk, a, b⟩
        · exact .inl h3
        · exact .inr ⟨k, List.mem_cons_of_mem _ hk, a, b⟩
    · have e : lowOne m c j acc x = min acc (at1 m x) := by unfold lowOne; rw [if_neg hx]
      rw [e] at h1 h2 h3 ⊢
      refine ⟨Int.le_trans h1 (Int.min_le_left _ _), fun k hk hne => ?_, ?_⟩
      · rcases List.mem_cons.1 hk with rfl | hk
        · exact Int.le_trans h1 (Int.min_le_right _ _)
        · exact h2 k hk hne
      · rcases h3 with h3 | ⟨k, hk, a, b⟩
        · rcases Int.le_total acc (at1 m x) with h4 | h4
          · exact .inl (h3.trans (Int.min_eq_left h4))
          · exact .inr ⟨x, List.mem_cons_self, hx, h3.trans (Int.min_eq_right h4)⟩
        · exact .inr ⟨k, List.mem_cons_of_mem _ hk, a, b⟩

theorem lowStep_fold (O : List Nat) (m l c : List Int) (i : Nat) : ∀ (js : List Nat) (acc : Int), js.foldl (lowStep O m l c i) acc ≤ acc ∧
    (∀ j ∈ js, ¬ (at1 m j < at1 m i ∨ at1 l i < at1 l j) → ∀ k : Nat, k ∈ nbs O j → at1 c j ≠ (k : Int) → js.foldl (lowStep O m l c i) acc ≤ at1 m k) ∧
    (js.foldl (lowStep O m l c i) acc = acc ∨ ∃ j ∈ js, ¬ (at1 m j < at1 m i ∨ at1 l i < at1 l j) ∧ ∃ k : Nat, k ∈ nbs O j ∧ at1 c j ≠ (k : Int) ∧ js.foldl (lowStep O m l c i) acc = at1 m k) := by
  intro js
  induction js with
  | nil => intro acc; exact ⟨Int.le_refl _, fun k hk => (List.not_mem_nil hk).elim, .inl rfl⟩
  | cons x r ih =>
    intro acc
    obtain ⟨h1, h2, h3⟩ := ih (lowStep O m l c i acc x)
    rw [List.foldl_cons]
    by_cases hx : at1 m x < at1 m i ∨ at1 l i < at1 l x
    · have e : lowStep O m l c i acc x = acc := by unfold lowStep; rw [if_pos hx]
      rw [e] at h1 h2 h3 ⊢
      refine ⟨h1, fun j hj hne => ?_, ?_⟩
      · rcases List.mem_cons.1 hj with rfl | hj
        · exact absurd hx hne
        · exact h2 j hj hne
      · rcases h3 with h3 | ⟨j, hj, a⟩
        · exact .inl h3
        · exact .inr ⟨j, List.mem_cons_of_mem _ hj, a⟩
    · have e : lowStep O m l c i acc x = (nbs O x).foldl (lowOne m c x) acc := by unfold lowStep; rw [if_neg hx]
      obtain ⟨g1, g2, g3⟩ := lowOne_fold m c x (nbs O x) acc
      rw [← e] at g1 g2 g3
      refine ⟨Int.le_trans h1 g1, fun j hj hne => ?_, ?_⟩
      · rcases List.mem_cons.1 hj with rfl | hj
        · intro k hk hck
          exact Int.le_trans h1 (g2 k hk hck)
        · exact h2 j hj hne
      · rcases h3 with h3 | ⟨j, hj, a⟩
        · rcases g3 with g3 | ⟨k, hk, a, b⟩
          · exact .inl (h3.trans g3)
          · exact .inr ⟨x, List.mem_cons_self, hx, k, hk, a, h3.trans b⟩
        · exact .inr ⟨j, List.mem_cons_of_mem _ hj, a⟩

theorem under_iff {O : List Nat} {n : Nat} {m l c : List Int} (h : IsDeep O n m l c) {i j : Nat} (hi : i < n) (hj : j < n) : ¬ (at1 m j < at1 m i ∨ at1 l i < at1 l j) ↔ Sub m l i j := by
  have ti := h.times i hi
  have tj := h.times j hj
  constructor
  · intro hn
    by_cases e : j = i
    · exact .inl e
    · rcases h.nest i j hi hj (fun e' => e e'.symm) with h1 | h1 | h1
      · exfalso; apply hn
        rcases h1 with h1 | h1
        · right; omega
        · left; omega
      · exact .inr h1
      · exact absurd (.inl h1.1) hn
  · rintro (rfl | hw) hn
    · omega
    · have := hw.1; have := hw.2; omega

theorem lowOf_is {O : List Nat} {n : Nat} {m l c : List Int} (h : IsDeep O n m l c) (hO : ∀ j k, adjS O j k ↔ k ∈ nbs O j) {i : Nat} (hi : i < n) : IsLow O n m l c i (lowOf O n m l c i) := by
  obtain ⟨h1, h2, h3⟩ := lowStep_fold O m l c i (List.range n) (at1 m i)
  refine ⟨h1, fun j k hj hs hjk hc => h2 j (List.mem_range.2 hj) ((under_iff h hi hj).2 hs) k ((hO j k).1 hjk) hc, ?_⟩
  rcases h3 with h3 | ⟨j, hj, a, k, hk, b, d⟩
  · exact .inl h3
  · have hjn := List.mem_range.1 hj
    exact .inr ⟨j, k, hjn, (under_iff h hi hjn).1 a, (hO j k).2 hk, b, d⟩

end Go.Proofs.Ytjeafgnaoncphaa.Gr
