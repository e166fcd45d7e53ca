/- The same numbers, rising: plain. Conditions: in each statement. -/
import Derived.Test.YthlnejfojaldnaaGraphP
namespace Go.Proofs.Ythlnejfojaldnaa.Gr

/-- the numbers that are not used -/
def unused : List Bool → List Int → List Int
  | false :: us, x :: xs => x :: unused us xs
  | true :: us, _ :: xs => unused us xs
  | _, _ => []

theorem unused_all (xs : List Int) : unused (List.replicate xs.length false) xs = xs := by
  induction xs with
  | nil => rfl
  | cons x xs ih => rw [List.length_cons, List.replicate_succ]; simp only [unused]; rw [ih]

theorem unused_set : ∀ (us : List Bool) (xs : List Int) (i : Nat) (h : i < us.length) (hx : i < xs.length), us[i] = false → (unused us xs).Perm (xs[i] :: unused (us.set i true) xs) := by
  intro us
  induction us with
  | nil => intro xs i h; simp at h
  | cons u us ih =>
    intro xs i h hx hu
    cases xs with
    | nil => simp at hx
    | cons x xs =>
      cases i with
      | zero => simp at hu; subst hu; exact List.Perm.refl _
      | succ i =>
        simp only [List.getElem_cons_succ, List.set_cons_succ] at hu ⊢
        have := ih xs i (by simpa using h) (by simpa using hx) hu
        cases u with
        | true => exact this
        | false => exact (this.cons x).trans (List.Perm.swap _ _ _)

theorem unused_mem : ∀ (us : List Bool) (xs : List Int) (v : Int), v ∈ unused us xs → ∃ (i : Nat) (h : i < us.length) (hx : i < xs.length), us[i] = false ∧ xs[i] = v := by
  intro us
  induction us with
  | nil => intro xs v h; simp [unused] at h
  | cons u us ih =>
    intro xs v h
    cases xs with
    | nil => cases u <;> simp [unused] at h
    | cons x xs =>
      cases u with
      | true =>
        obtain ⟨i, h1, h2, h3, h4⟩ := ih xs v h
        exact ⟨i + 1, by simpa using h1, by simpa using h2, by simpa using h3, by simpa using h4⟩
      | false =>
        rcases List.mem_cons.1 h with rfl | h
        · exact ⟨0, by simp, by simp, rfl, rfl⟩
        · obtain ⟨i, h1, h2, h3, h4⟩ := ih xs v h
          exact ⟨i + 1, by simpa using h1, by simpa using h2, by simpa using h3, by simpa using h4⟩

/-- between two rounds -/
structure Ris (xs : List Int) (us : List Bool) (out : List Int) : Prop where
  len : us.length = xs.length
  perm : (out ++ unused us xs).Perm xs
  sorted : out.Pairwise (· ≤ ·)
  least : ∀ a ∈ out, ∀ (i : Nat) (h : i < us.length) (hx : i < xs.length), us[i] = false → a ≤ xs[i]

theorem ris_start (xs : List Int) : Ris xs (List.replicate xs.length false) [] := ⟨by simp, by rw [List.nil_append, unused_all], .nil, by simp⟩

/-- the best of the first k: -1, or an unused one that none is less than -/
def Best (xs : List Int) (us : List Bool) (k : Nat) (b : Int) : Prop :=
  (b = -1 ∧ ∀ (i : Nat) (h : i < us.length), i < k → us[i] = true) ∨
  ∃ j : Nat, b = (j : Int) ∧ ∃ (h : j < us.length) (hx : j < xs.length), us[j] = false ∧ ∀ (i : Nat) (hi : i < us.length) (hx' : i < xs.length), i < k → us[i] = false → xs[j] ≤ xs[i]

theorem best_start (xs : List Int) (us : List Bool) : Best xs us 0 (-1) := .inl ⟨rfl, fun i _ h => by omega⟩
theorem best_used {xs : List Int} {us : List Bool} {k : Nat} {b : Int} (h : Best xs us k b) (hk : k < us.length) (hu : us[k] = true) : Best xs us (k + 1) b := by
  rcases h with ⟨h1, h2⟩ | ⟨j, h1, hj, hjx, h2, h3⟩
  · refine .inl ⟨h1, fun i hi hlt => ?_⟩
    by_cases e : i = k
    · subst e; exact hu
    · exact h2 i hi (by omega)
  · refine .inr ⟨j, h1, hj, hjx, h2, fun i hi hx' hlt hf => ?_⟩
    by_cases e : i = k
    · subst e; rw [hu] at hf; cases hf
    · exact h3 i hi hx' (by omega) hf
theorem best_take {xs : List Int} {us : List Bool} {k : Nat} {b : Int} (h : Best xs us k b) (hk : k < us.length) (hx : k < xs.length) (hu : us[k] = false) (hb : b < 0 ∨ ∃ (j : Nat) (hj : j < xs.length), b = (j : Int) ∧ xs[k] < xs[j]) : Best xs us (k + 1) (k : Int) := by
  refine .inr ⟨k, rfl, hk, hx, hu, fun i hi hx' hlt hf => ?_⟩
  by_cases e : i = k
  · subst e; exact Int.le_refl _
  · rcases h with ⟨h1, h2⟩ | ⟨j, h1, hj, hjx, h2, h3⟩
    · have := h2 i hi (by omega); rw [this] at hf; cases hf
    · rcases hb with hb | ⟨j', hj', hb, hlt2⟩
      · omega
      · have : j = j' := by omega
        subst this
        have := h3 i hi hx' (by omega) hf
        omega
theorem best_keep {xs : List Int} {us : List Bool} {k j : Nat} (h : Best xs us k (j : Int)) (hj : j < xs.length) (hk : k < xs.length) (hle : xs[j] ≤ xs[k]) : Best xs us (k + 1) (j : Int) := by
  rcases h with ⟨h1, h2⟩ | ⟨j', h1, hj', hjx, h2, h3⟩
  · omega
  · have : j = j' := by omega
    subst this
    refine .inr ⟨j, rfl, hj', hjx, h2, fun i hi hx' hlt hf => ?_⟩
    by_cases e : i = k
    · subst e; exact hle
    · exact h3 i hi hx' (by omega) hf

theorem ris_best {xs : List Int} {us : List Bool} {out : List Int} {b : Int} (h : Ris xs us out) (hb : Best xs us xs.length b) (hlt : out.length < xs.length) :
    ∃ (j : Nat) (hj : j < us.length) (hx : j < xs.length), b = (j : Int) ∧ us[j] = false ∧ Ris xs (us.set j true) (out ++ [xs[j]]) := by
  rcases hb with ⟨h1, h2⟩ | ⟨j, h1, hj, hjx, h2, h3⟩
  · exfalso
    have hn : unused us xs = [] := by
      cases hu : unused us xs with
      | nil => rfl
      | cons v r =>
        obtain ⟨i, hi, hx, hf, _⟩ := unused_mem us xs v (by rw [hu]; exact List.mem_cons_self)
        have := h2 i hi hx
        rw [this] at hf; cases hf
    have := h.perm.length_eq
    rw [hn, List.append_nil] at this
    omega
  · refine ⟨j, hj, hjx, h1, h2, by simp [h.len], ?_, ?_, ?_⟩
    · rw [List.append_assoc]
      exact ((unused_set us xs j hj hjx h2).symm.append_left out).trans h.perm
    · rw [List.pairwise_append]
      exact ⟨h.sorted, List.pairwise_singleton _ _, fun a ha b hb => by rw [List.mem_singleton] at hb; subst hb; exact h.least a ha j hj hjx h2⟩
    · intro a ha i hi hx hf
      rw [List.getElem_set] at hf
      split at hf
      · cases hf
      · have hi' : i < us.length := by simpa using hi
        rcases List.mem_append.1 ha with h4 | h4
        · exact h.least a h4 i hi' hx hf
        · rw [List.mem_singleton] at h4; subst h4; exact h3 i hi' hx hx hf

theorem ris_end {xs : List Int} {us : List Bool} {out : List Int} (h : Ris xs us out) (hl : xs.length ≤ out.length) : out.Perm xs ∧ out.Pairwise (· ≤ ·) := by
  have h1 := h.perm.length_eq
  rw [List.length_append] at h1
  have : unused us xs = [] := List.eq_nil_of_length_eq_zero (by omega)
  have h2 := h.perm
  rw [this, List.append_nil] at h2
  exact ⟨h2, h.sorted⟩

/-- rising, none twice, from 0 on and less than their number: each stands at its place -/
theorem rising_places {ys : List Int} (hs : ys.Pairwise (· ≤ ·)) (hn : ys.Nodup) (hb : ∀ y ∈ ys, 0 ≤ y ∧ y < ys.length) : ∀ (k : Nat) (h : k < ys.length), ys[k] = (k : Int) := by
  have hlt : ∀ (i j : Nat) (hi : i < ys.length) (hj : j < ys.length), i < j → ys[i] < ys[j] := by
    intro i j hi hj hij
    have h1 := List.pairwise_iff_getElem.1 hs i j hi hj hij
    have h2 := List.pairwise_iff_getElem.1 hn i j hi hj hij
    omega
  have lo : ∀ (k : Nat) (h : k < ys.length), (k : Int) ≤ ys[k] := by
    intro k
    induction k with
    | zero => intro h; exact (hb _ (List.getElem_mem h)).1
    | succ k ih => intro h; have h1 := ih (by omega); have h2 := hlt k (k + 1) (by omega) h (by omega); omega
  have hi : ∀ (d k : Nat) (h : k < ys.length), k + d + 1 = ys.length → ys[k] ≤ (k : Int) := by
    intro d
    induction d with
    | zero => intro k h e; have := (hb _ (List.getElem_mem h)).2; omega
    | succ d ih => intro k h e; have h1 := ih (k + 1) (by omega) (by omega); have h2 := hlt k (k + 1) h (by omega) (by omega); omega
  intro k h
  have h1 := lo k h
  have h2 := hi (ys.length - 1 - k) k h (by omega)
  omega

end Go.Proofs.Ythlnejfojaldnaa.Gr
