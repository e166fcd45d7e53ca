/- Sums of degrees of a plain graph: what Erdos and Gallai found holds of every graph. Conditions: in each statement. -/
import Derived.Test.YtmkdkjdbmnocoaaHandsP
namespace Go.Proofs.Ytmkdkjdbmnocoaa.Gr
theorem countP_sum {α : Type} (p : α → Bool) (l : List α) : l.countP p = (l.map fun b => if p b then 1 else 0).sum := by
  induction l with
  | nil => rfl
  | cons a l ih => rw [List.countP_cons, List.map_cons, List.sum_cons, ih]; omega
theorem sum_add' {α : Type} (f g : α → Nat) (l : List α) : (l.map fun i => f i + g i).sum = (l.map f).sum + (l.map g).sum := by
  induction l with
  | nil => rfl
  | cons a l ih => simp only [List.map_cons, List.sum_cons, ih]; omega
theorem sum_le' {α : Type} (f g : α → Nat) (l : List α) (h : ∀ x ∈ l, f x ≤ g x) : (l.map f).sum ≤ (l.map g).sum := by
  induction l with
  | nil => exact Nat.le_refl _
  | cons a l ih =>
    simp only [List.map_cons, List.sum_cons]
    have := h a List.mem_cons_self
    have := ih fun x hx => h x (List.mem_cons_of_mem _ hx)
    omega
theorem double {r : Nat → Nat → Bool} (hs : ∀ a b, r a b = r b a) (A B : List Nat) : (A.map fun a => B.countP (r a)).sum = (B.map fun b => A.countP (r b)).sum := by
  induction A with
  | nil =>
    simp only [List.map_nil, List.sum_nil, List.countP_nil]
    induction B with
    | nil => rfl
    | cons b B ih => simp only [List.map_cons, List.sum_cons]; omega
  | cons a A ih =>
    rw [List.map_cons, List.sum_cons, ih]
    have e : (B.map fun b => (a :: A).countP (r b)) = B.map fun b => A.countP (r b) + (if r a b then 1 else 0) := List.map_congr_left fun b _ => by
      rw [List.countP_cons, hs b a]
    rw [e, sum_add', countP_sum (r a) B]
    omega
theorem inner {r : Nat → Nat → Bool} (hi : ∀ a, r a a = false) {A : List Nat} {a : Nat} (ha : a ∈ A) : A.countP (r a) + 1 ≤ A.length := by
  induction A with
  | nil => cases ha
  | cons b A ih =>
    rw [List.countP_cons, List.length_cons]
    rcases List.mem_cons.1 ha with rfl | h
    · rw [hi a]; have := List.countP_le_length (p := r a) (l := A); simp; omega
    · have := ih h
      split <;> omega
theorem sum_const {α : Type} (c : Nat) (l : List α) : (l.map fun _ => c).sum = l.length * c := by
  induction l with
  | nil => simp
  | cons a l ih => rw [List.map_cons, List.sum_cons, ih, List.length_cons, Nat.add_mul]; omega
theorem dg_perm {r : Nat → Nat → Bool} {n : Nat} {P : List Nat} (h : P.Perm (List.range n)) (a : Nat) : dg r n a = P.countP (r a) := by
  unfold dg
  rw [← List.countP_eq_length_filter]
  exact (h.countP_eq (r a)).symm
/-- the sum over the first k + 1 points -/
theorem erdos {r : Nat → Nat → Bool} (hs : ∀ a b, r a b = r b a) (hi : ∀ a, r a a = false) {n : Nat} {P : List Nat} (h : P.Perm (List.range n)) {k : Nat} (hk : k < P.length) :
    ((P.take (k + 1)).map (dg r n)).sum ≤ k * (k + 1) + ((P.drop (k + 1)).map fun b => min (dg r n b) (k + 1)).sum := by
  have hA : (P.take (k + 1)).length = k + 1 := by simp; omega
  have hd : ∀ a, dg r n a = (P.take (k + 1)).countP (r a) + (P.drop (k + 1)).countP (r a) := fun a => by
    rw [dg_perm h, ← List.countP_append, List.take_append_drop]
  generalize hAe : P.take (k + 1) = A at *
  generalize P.drop (k + 1) = B at *
  have e1 : (A.map (dg r n)).sum = (A.map fun a => A.countP (r a)).sum + (A.map fun a => B.countP (r a)).sum := by
    rw [← sum_add']
    congr 1
    exact List.map_congr_left fun a _ => hd a
  have e2 : (A.map fun a => A.countP (r a)).sum ≤ (A.map fun _ => k).sum := sum_le' _ _ A fun a ha => by
    have := inner hi ha
    omega
  have e3 : (B.map fun b => A.countP (r b)).sum ≤ (B.map fun b => min (dg r n b) (k + 1)).sum := sum_le' _ _ B fun b _ => by
    have := List.countP_le_length (p := r b) (l := A)
    have := hd b
    omega
  rw [sum_const, hA, Nat.mul_comm] at e2
  rw [e1, double hs A B]
  omega

theorem perm_map {α β : Type} (f : α → β) : ∀ {l1 l2 : List β}, l1.Perm l2 → ∀ xs : List α, l2 = xs.map f → ∃ ys : List α, ys.Perm xs ∧ l1 = ys.map f := by
  intro l1 l2 h
  induction h with
  | nil =>
    intro xs e
    cases xs with
    | nil => exact ⟨[], List.Perm.refl _, rfl⟩
    | cons _ _ => cases e
  | cons a _ ih =>
    intro xs e
    cases xs with
    | nil => cases e
    | cons x xs =>
      simp only [List.map_cons, List.cons.injEq] at e
      obtain ⟨ys, h1, h2⟩ := ih xs e.2
      exact ⟨x :: ys, h1.cons x, by rw [List.map_cons, h2, e.1]⟩
  | swap a b l =>
    intro xs e
    match xs, e with
    | x :: y :: xs, e =>
      simp only [List.map_cons, List.cons.injEq] at e
      exact ⟨y :: x :: xs, List.Perm.swap x y xs, by simp only [List.map_cons]; rw [e.1, e.2.1, e.2.2]⟩
  | trans _ _ ih1 ih2 =>
    intro xs e
    obtain ⟨ys, h1, h2⟩ := ih2 xs e
    obtain ⟨zs, h3, h4⟩ := ih1 ys h2
    exact ⟨zs, h3.trans h1, h4⟩

/-- what the sums say of a list that falls -/
def canN (s : List Nat) : Bool := decide (s.sum % 2 = 0) && decide (∀ k, k < s.length → (s.take (k + 1)).sum ≤ k * (k + 1) + ((s.drop (k + 1)).map fun b => min b (k + 1)).sum)
theorem canN_graph {r : Nat → Nat → Bool} (hs : ∀ a b, r a b = r b a) (hi : ∀ a, r a a = false) {n : Nat} {s : List Nat} (h : s.Perm ((List.range n).map (dg r n))) : canN s = true := by
  unfold canN
  rw [Bool.and_eq_true, decide_eq_true_eq, decide_eq_true_eq]
  refine ⟨?_, fun k hk => ?_⟩
  · rw [h.sum_nat, hands hs hi]; omega
  · obtain ⟨P, hP, rfl⟩ := perm_map (dg r n) h _ rfl
    rw [List.length_map] at hk
    have := erdos hs hi hP hk
    rwa [← List.map_take, ← List.map_drop, List.map_map]
end Go.Proofs.Ytmkdkjdbmnocoaa.Gr
