/- Where the way starts and ends: plain. Conditions: in each statement. -/
import Derived.Test.YtoomdnbbbaooeaaDoorFindNone
namespace Go.Proofs.YtoomdnbbbaooeaaDoor
open Gr

theorem sum_mod (l : List Nat) (f g : Nat → Nat) (h : ∀ i ∈ l, f i % 2 = g i % 2) : (l.map f).sum % 2 = (l.map g).sum % 2 := by
  induction l with
  | nil => rfl
  | cons x l ih =>
    simp only [List.map_cons, List.sum_cons]
    have h1 := h x List.mem_cons_self
    have h2 := ih fun i hi => h i (List.mem_cons_of_mem _ hi)
    omega
theorem filter_sum (l : List Nat) (p : Nat → Bool) : (l.filter p).length = (l.map fun i => if p i then 1 else 0).sum := by
  induction l with
  | nil => rfl
  | cons x l ih =>
    cases hp : p x with
    | true => rw [List.filter_cons_of_pos hp, List.length_cons, List.map_cons, List.sum_cons, ih, hp]; simp; omega
    | false => rw [List.filter_cons_of_neg (by rw [hp]; simp), List.map_cons, List.sum_cons, ih, hp]; simp

theorem ends_even {n : Nat} {ls : List Ln} (hg : GoodG n ls) : (endsUp ls n).length % 2 = 0 := by
  have h1 := sumS_even (fun _ => true) n ls (fun l hl => by
    obtain ⟨x, y, _, h1, h2, h3, h4⟩ := good_line hg hl
    exact ⟨x, y, h1, h2, h3, h4, rfl⟩)
  unfold endsUp
  rw [filter_sum]
  have h2 := sum_mod (List.range n) (fun i => if decide (degL ls i % 2 = 1) = true then 1 else 0) (fun i => if true = true then degL ls i else 0) (fun i _ => by
    simp only [if_true, decide_eq_true_eq]
    split <;> omega)
  rw [h2]
  exact h1
theorem mem_ends {n : Nat} {ls : List Ln} {i : Nat} : i ∈ endsUp ls n ↔ i < n ∧ degL ls i % 2 = 1 := by
  unfold endsUp; simp

theorem min3_le (m : Int) (l : Ln) : min3 m l ≤ m ∧ min3 m l ≤ l.1 ∧ min3 m l ≤ l.2 ∧ (min3 m l = m ∨ min3 m l = l.1 ∨ min3 m l = l.2) := by
  unfold min3
  repeat' split
  all_goals omega
theorem minPt_fold : ∀ (ls : List Ln) (m : Int), ls.foldl min3 m ≤ m ∧ (ls.foldl min3 m = m ∨ ∃ l ∈ ls, ls.foldl min3 m = l.1 ∨ ls.foldl min3 m = l.2) := by
  intro ls
  induction ls with
  | nil => intro m; exact ⟨Int.le_refl _, .inl rfl⟩
  | cons l ls ih =>
    intro m
    rw [List.foldl_cons]
    obtain ⟨h1, h2⟩ := ih (min3 m l)
    obtain ⟨k1, k2, k3, k4⟩ := min3_le m l
    refine ⟨Int.le_trans h1 k1, ?_⟩
    rcases h2 with h2 | ⟨l', hl', h2⟩
    · rw [h2]
      rcases k4 with k4 | k4 | k4
      · exact .inl k4
      · exact .inr ⟨l, List.mem_cons_self, .inl k4⟩
      · exact .inr ⟨l, List.mem_cons_self, .inr k4⟩
    · exact .inr ⟨l', List.mem_cons_of_mem _ hl', h2⟩

/-- the start is a point that a line ends at -/
theorem start_ok {n : Nat} {ls : List Ln} (hg : GoodG n ls) (hne : 0 < ls.length) : ∃ a0 : Nat, startP n ls = (a0 : Int) ∧ a0 < n ∧ ∃ l ∈ ls, ∃ b, LnOf l a0 b := by
  unfold startP
  match hq : endsUp ls n with
  | p :: q =>
    have hp : p ∈ endsUp ls n := by rw [hq]; exact List.mem_cons_self
    obtain ⟨h1, h2⟩ := mem_ends.1 hp
    refine ⟨p, rfl, h1, ?_⟩
    have h3 : 0 < (ls.filter (ends1 p)).length := by unfold degL at h2; omega
    obtain ⟨l, hl⟩ := List.exists_mem_of_length_pos h3
    obtain ⟨hl1, hl2⟩ := List.mem_filter.1 hl
    obtain ⟨x, y, rfl, k1, k2, k3, k4⟩ := good_line hg hl1
    unfold ends1 at hl2
    simp only [Bool.or_eq_true, beq_iff_eq] at hl2
    rcases hl2 with e | e
    · obtain rfl : x = p := by omega
      exact ⟨_, hl1, y, k1⟩
    · obtain rfl : y = p := by omega
      exact ⟨_, hl1, x, k1.symm⟩
  | [] =>
    show ∃ a0 : Nat, minPt n ls = (a0 : Int) ∧ _
    match ls, hne with
    | l0 :: r, _ =>
      have h1 := minPt_fold r (min3 n l0)
      have h2 := min3_le (n : Int) l0
      obtain ⟨x0, y0, e0, _, _, j3, j4⟩ := good_line hg (List.mem_cons_self (a := l0) (l := r))
      have hlt : minPt n (l0 :: r) < n := by
        unfold minPt
        rw [List.foldl_cons]
        have : l0.1 = (x0 : Int) := by rw [e0]
        omega
      rcases (minPt_fold (l0 :: r) n).2 with h3 | ⟨l, hl, h3⟩
      · have : minPt n (l0 :: r) = n := h3
        omega
      · obtain ⟨x, y, rfl, k1, k2, k3, k4⟩ := good_line hg hl
        rcases h3 with h3 | h3
        · exact ⟨x, h3, k3, _, hl, y, k1⟩
        · exact ⟨y, h3, k4, _, hl, x, k1.symm⟩

/-- what is odd at the start -/
theorem par_start {n : Nat} {ls : List Ln} (hg : GoodG n ls) (h2 : (endsUp ls n).length ≤ 2) {a0 : Nat} (hs : startP n ls = (a0 : Int)) (ha : a0 < n) :
    ∃ t, t < n ∧ Par n ls a0 t ∧ ((endsUp ls n = [] ∧ t = a0) ∨ (endsUp ls n = [a0, t] ∧ a0 ≠ t)) := by
  have hev := ends_even hg
  match hq : endsUp ls n, h2, hev with
  | [], _, _ =>
    refine ⟨a0, ha, fun i hi => ?_, .inl ⟨rfl, rfl⟩⟩
    have : ¬ degL ls i % 2 = 1 := fun h => by
      have := mem_ends.2 ⟨hi, h⟩
      rw [hq] at this; cases this
    split <;> omega
  | [p, q], _, _ =>
    have hsp : startP n ls = (p : Int) := by unfold startP; rw [hq]; rfl
    obtain rfl : a0 = p := by omega
    have hnd : (endsUp ls n).Nodup := List.Pairwise.filter _ List.nodup_range
    rw [hq] at hnd
    have hne : a0 ≠ q := fun e => by simp [e] at hnd
    have hqn := (mem_ends.1 (show q ∈ endsUp ls n by rw [hq]; simp)).1
    refine ⟨q, hqn, fun i hi => ?_, .inr ⟨rfl, hne⟩⟩
    have hm : degL ls i % 2 = 1 ↔ i = a0 ∨ i = q := by
      have : i ∈ endsUp ls n ↔ i = a0 ∨ i = q := by rw [hq]; simp
      rw [← this, mem_ends]; simp [hi]
    by_cases e1 : i = a0
    · have e2 : i ≠ q := fun e => hne (e1 ▸ e)
      rw [if_pos e1, if_neg e2, hm.2 (.inl e1)]
    · by_cases e2 : i = q
      · rw [if_neg e1, if_pos e2, hm.2 (.inr e2)]
      · rw [if_neg e1, if_neg e2]
        have : ¬ degL ls i % 2 = 1 := fun h => by rcases hm.1 h with h | h <;> contradiction
        omega
  | [_], _, h => simp at h
  | _ :: _ :: _ :: _, h, _ => simp at h

/-- the way ends where all are used -/
theorem way_end {n : Nat} {ls : List Ln} {a0 t : Nat} (hg : GoodG n ls) (hpar : Par n ls a0 t) (ht : t < n) (ha : a0 < n) (hj : Joined n ls a0) : (goSt n ls a0 ls.length).2 = t := by
  have h := go_inv hg hpar ht ha hj ls.length (Nat.le_refl _)
  have h1 := h.left
  have h2 : leftL ls (goSt n ls a0 ls.length).1 = [] := List.eq_nil_of_length_eq_zero (by omega)
  have h3 := h.par _ h.lt
  rw [h2] at h3
  have h4 : degL ([] : List Ln) (goSt n ls a0 ls.length).2 = 0 := rfl
  rw [h4, if_pos rfl] at h3
  split at h3
  · rename_i e; exact e
  · omega

end Go.Proofs.YtoomdnbbbaooeaaDoor
