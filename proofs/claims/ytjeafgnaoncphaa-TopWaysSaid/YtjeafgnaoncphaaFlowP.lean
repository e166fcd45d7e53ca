/- Ways that share no line, and cuts: plain. As many ways as there are room for no more leave a cut with just so many lines. Conditions: in each statement. -/
import Derived.Test.YtjeafgnaoncphaaBridges
namespace Go.Proofs.Ytjeafgnaoncphaa
open Go.RowKit Gr

namespace Gr
/-- a sum over a list -/
def sI (A : List Nat) (f : Nat → Int) : Int := (A.map f).sum
theorem sI_nil (f : Nat → Int) : sI [] f = 0 := rfl
theorem sI_cons (a : Nat) (A : List Nat) (f : Nat → Int) : sI (a :: A) f = f a + sI A f := rfl
theorem sI_append (A B : List Nat) (f : Nat → Int) : sI (A ++ B) f = sI A f + sI B f := by
  unfold sI; rw [List.map_append, List.sum_append]
theorem sI_add (A : List Nat) (f g : Nat → Int) : sI A (fun x => f x + g x) = sI A f + sI A g := by
  induction A with
  | nil => rfl
  | cons a A ih => rw [sI_cons, sI_cons, sI_cons, ih]; omega
theorem sI_neg (A : List Nat) (f : Nat → Int) : sI A (fun x => - f x) = - sI A f := by
  induction A with
  | nil => rfl
  | cons a A ih => rw [sI_cons, sI_cons, ih]; omega
theorem sI_congr {A : List Nat} {f g : Nat → Int} (h : ∀ x ∈ A, f x = g x) : sI A f = sI A g := by
  unfold sI
  rw [List.map_congr_left h]
theorem sI_zero (A : List Nat) : sI A (fun _ => 0) = 0 := by
  induction A with
  | nil => rfl
  | cons a A ih => rw [sI_cons, ih]; rfl
theorem sI_le {A : List Nat} {f g : Nat → Int} (h : ∀ x ∈ A, f x ≤ g x) : sI A f ≤ sI A g := by
  induction A with
  | nil => exact Int.le_refl _
  | cons a A ih =>
    rw [sI_cons, sI_cons]
    have := h a List.mem_cons_self
    have := ih fun x hx => h x (List.mem_cons_of_mem _ hx)
    omega
theorem sI_perm {A B : List Nat} (h : A.Perm B) (f : Nat → Int) : sI A f = sI B f := by
  induction h with
  | nil => rfl
  | cons a _ ih => rw [sI_cons, sI_cons, ih]
  | swap a b l => rw [sI_cons, sI_cons, sI_cons, sI_cons]; omega
  | trans _ _ ih1 ih2 => exact ih1.trans ih2
theorem sI_swap (A B : List Nat) (f : Nat → Nat → Int) : sI A (fun x => sI B (f x)) = sI B (fun y => sI A fun x => f x y) := by
  induction A with
  | nil =>
    show (0 : Int) = sI B fun _ => 0
    rw [sI_zero]
  | cons a A ih =>
    rw [sI_cons, ih, ← sI_add]
    rfl
theorem sI_one {A : List Nat} (hn : A.Nodup) (p : Nat) (c : Int) : sI A (fun x => if x = p then c else 0) = if p ∈ A then c else 0 := by
  induction A with
  | nil => rfl
  | cons a A ih =>
    have hn' := List.nodup_cons.1 hn
    rw [sI_cons, ih hn'.2]
    by_cases e : a = p
    · subst e
      rw [if_pos rfl, if_neg hn'.1, if_pos List.mem_cons_self]; omega
    · rw [if_neg e]
      by_cases h : p ∈ A
      · rw [if_pos h, if_pos (List.mem_cons_of_mem _ h)]; omega
      · rw [if_neg h, if_neg (fun h' => (List.mem_cons.1 h').elim (fun e' => e e'.symm) h)]; omega
/-- one that turns its sign when turned round sums up to nothing -/
theorem sI_anti {A : List Nat} {f : Nat → Nat → Int} (h : ∀ x ∈ A, ∀ y ∈ A, f x y = - f y x) : sI A (fun x => sI A (f x)) = 0 := by
  have h1 : sI A (fun x => sI A (f x)) = sI A (fun x => - sI A fun y => f y x) := sI_congr fun x hx => by
    rw [← sI_neg]
    exact sI_congr fun y hy => h x hx y hy
  have h2 : sI A (fun x => sI A fun y => f y x) = sI A fun x => sI A (f x) := (sI_swap A A f).symm
  rw [sI_neg, h2] at h1
  generalize sI A (fun x => sI A (f x)) = z at h1 ⊢
  omega

/-- the points below n in T, and those that are not -/
def inT (n : Nat) (T : Nat → Bool) : List Nat := (List.range n).filter T
def outT (n : Nat) (T : Nat → Bool) : List Nat := (List.range n).filter fun x => !T x
theorem parts_T (n : Nat) (T : Nat → Bool) (f : Nat → Int) : sI (List.range n) f = sI (inT n T) f + sI (outT n T) f := by
  rw [← sI_append]
  exact (sI_perm (List.filter_append_perm T (List.range n)) f).symm
theorem mem_inT {n : Nat} {T : Nat → Bool} {x : Nat} : x ∈ inT n T ↔ x < n ∧ T x = true := by simp [inT]
theorem mem_outT {n : Nat} {T : Nat → Bool} {x : Nat} : x ∈ outT n T ↔ x < n ∧ T x = false := by simp [outT]
theorem nodup_inT (n : Nat) (T : Nat → Bool) : (inT n T).Nodup := List.Pairwise.filter _ List.nodup_range
theorem nodup_outT (n : Nat) (T : Nat → Bool) : (outT n T).Nodup := List.Pairwise.filter _ List.nodup_range
/-- the lines that lead out of T -/
def cutL (ls : List Ln) (T : Nat → Bool) : Nat := (ls.filter fun l => T l.1.toNat != T l.2.toNat).length
theorem cutL_cons (l : Ln) (ls : List Ln) (T : Nat → Bool) : cutL (l :: ls) T = cutL ls T + (if T l.1.toNat != T l.2.toNat then 1 else 0) := by
  unfold cutL
  rw [List.filter_cons]
  cases T l.1.toNat != T l.2.toNat <;> rfl
theorem many_cons (l : Ln) (ls : List Ln) (x y : Int) : many (l :: ls) x y = many ls x y + (if joins x y l then 1 else 0) := by
  unfold many
  by_cases e : joins x y l <;> simp [e]
theorem cut_sum {n : Nat} (T : Nat → Bool) : ∀ {ls : List Ln}, (∀ l ∈ ls, 0 ≤ l.1 ∧ l.1 < n ∧ 0 ≤ l.2 ∧ l.2 < n ∧ l.1 ≠ l.2) → sI (inT n T) (fun x => sI (outT n T) fun y => (many ls (x : Int) (y : Int) : Int)) = (cutL ls T : Int) := by
  intro ls
  induction ls with
  | nil =>
    intro _
    have : ∀ x y : Int, many [] x y = 0 := fun _ _ => rfl
    simp only [this]
    show sI _ (fun _ => sI _ fun _ => 0) = 0
    simp only [sI_zero]
  | cons l ls ih =>
    intro h
    have hl := h l List.mem_cons_self
    have ih := ih fun l hl => h l (List.mem_cons_of_mem _ hl)
    obtain ⟨p, q⟩ := l
    obtain ⟨p, rfl⟩ : ∃ k : Nat, p = (k : Int) := ⟨p.toNat, by simp only at hl; omega⟩
    obtain ⟨q, rfl⟩ : ∃ k : Nat, q = (k : Int) := ⟨q.toNat, by simp only at hl; omega⟩
    simp only at hl
    have hpq : p ≠ q := fun e => hl.2.2.2.2 (by rw [e])
    have e1 : ∀ x y : Nat, (many (((p : Int), (q : Int)) :: ls) (x : Int) (y : Int) : Int) = (many ls (x : Int) (y : Int) : Int) + ((if x = p then (if y = q then 1 else 0) else 0) + (if x = q then (if y = p then 1 else 0) else 0)) := fun x y => by
      rw [many_cons]
      have hj : joins (x : Int) (y : Int) ((p : Int), (q : Int)) = true ↔ (x = p ∧ y = q) ∨ (x = q ∧ y = p) := by
        unfold joins
        simp only [Bool.or_eq_true, Bool.and_eq_true, beq_iff_eq]
        omega
      by_cases h1 : x = p
      · have h2 : x ≠ q := by omega
        rw [if_pos h1, if_neg h2]
        by_cases h3 : y = q
        · rw [if_pos h3, if_pos (hj.2 (.inl ⟨h1, h3⟩))]; omega
        · rw [if_neg h3, if_neg (fun h => by rcases hj.1 h with h | h <;> omega)]; omega
      · rw [if_neg h1]
        by_cases h2 : x = q
        · rw [if_pos h2]
          by_cases h3 : y = p
          · rw [if_pos h3, if_pos (hj.2 (.inr ⟨h2, h3⟩))]; omega
          · rw [if_neg h3, if_neg (fun h => by rcases hj.1 h with h | h <;> omega)]; omega
        · rw [if_neg h2, if_neg (fun h => by rcases hj.1 h with h | h <;> omega)]; omega
    have e2 : ∀ x : Nat, sI (outT n T) (fun y => (many (((p : Int), (q : Int)) :: ls) (x : Int) (y : Int) : Int)) = sI (outT n T) (fun y => (many ls (x : Int) (y : Int) : Int)) + ((if x = p then (if q ∈ outT n T then 1 else 0) else 0) + (if x = q then (if p ∈ outT n T then 1 else 0) else 0)) := fun x => by
      have : sI (outT n T) (fun y => (many (((p : Int), (q : Int)) :: ls) (x : Int) (y : Int) : Int)) = sI (outT n T) (fun y => (many ls (x : Int) (y : Int) : Int) + ((if x = p then (if y = q then 1 else 0) else 0) + (if x = q then (if y = p then 1 else 0) else 0))) := sI_congr fun y _ => e1 x y
      rw [this, sI_add, sI_add]
      congr 1
      congr 1
      · by_cases h1 : x = p
        · simp only [if_pos h1]; exact sI_one (nodup_outT n T) q 1
        · simp only [if_neg h1]; exact sI_zero _
      · by_cases h1 : x = q
        · simp only [if_pos h1]; exact sI_one (nodup_outT n T) p 1
        · simp only [if_neg h1]; exact sI_zero _
    have e3 : sI (inT n T) (fun x => sI (outT n T) fun y => (many (((p : Int), (q : Int)) :: ls) (x : Int) (y : Int) : Int)) = sI (inT n T) (fun x => sI (outT n T) (fun y => (many ls (x : Int) (y : Int) : Int)) + ((if x = p then (if q ∈ outT n T then 1 else 0) else 0) + (if x = q then (if p ∈ outT n T then 1 else 0) else 0))) := sI_congr fun x _ => e2 x
    rw [e3, sI_add, ih, sI_add, sI_one (nodup_inT n T), sI_one (nodup_inT n T), cutL_cons]
    simp only [mem_inT, mem_outT, Int.toNat_natCast]
    have hp : p < n := by omega
    have hq : q < n := by omega
    rcases Bool.eq_false_or_eq_true (T p) with hTp | hTp <;> rcases Bool.eq_false_or_eq_true (T q) with hTq | hTq <;> simp [hp, hq, hTp, hTq]

/-- what is left of the room when k ways go from a to b -/
structure Flow (n : Nat) (ls : List Ln) (a b : Nat) (N : Nat → Int) (R : Nat → Nat → Int) : Prop where
  pos : ∀ x y, x < n → y < n → 0 ≤ R x y
  two : ∀ x y, x < n → y < n → R x y + R y x = 2 * (many ls (x : Int) (y : Int) : Int)
  net : ∀ x, x < n → sI (List.range n) (fun y => (many ls (x : Int) (y : Int) : Int) - R x y) = N x
/-- how much goes out of each point, where k ways go from a to b -/
def netK (a b : Nat) (k : Int) (x : Nat) : Int := (if x = a then k else 0) + (if x = b then -k else 0)
theorem manyS (ls : List Ln) (a b : Int) : many ls a b = many ls b a := by
  unfold many
  congr 1
  refine List.filter_congr fun l _ => ?_
  unfold joins; rw [Bool.or_comm]
theorem flow_cut {n : Nat} {ls : List Ln} {a b : Nat} {k : Int} {R : Nat → Nat → Int} (h : Flow n ls a b (netK a b k) R) (ha : a < n) (T : Nat → Bool) (hTa : T a = true) (hTb : T b = false) :
    k = sI (inT n T) (fun x => sI (outT n T) fun y => (many ls (x : Int) (y : Int) : Int) - R x y) := by
  have h1 : sI (inT n T) (fun x => sI (List.range n) fun y => (many ls (x : Int) (y : Int) : Int) - R x y) = k := by
    have : sI (inT n T) (fun x => sI (List.range n) fun y => (many ls (x : Int) (y : Int) : Int) - R x y) = sI (inT n T) (netK a b k) := sI_congr fun x hx => h.net x (mem_inT.1 hx).1
    rw [this]
    unfold netK
    rw [sI_add, sI_one (nodup_inT n T), sI_one (nodup_inT n T), if_pos (mem_inT.2 ⟨ha, hTa⟩), if_neg (fun hb => by rw [(mem_inT.1 hb).2] at hTb; cases hTb)]
    omega
  have h2 : sI (inT n T) (fun x => sI (List.range n) fun y => (many ls (x : Int) (y : Int) : Int) - R x y) = sI (inT n T) (fun x => sI (inT n T) fun y => (many ls (x : Int) (y : Int) : Int) - R x y) + sI (inT n T) (fun x => sI (outT n T) fun y => (many ls (x : Int) (y : Int) : Int) - R x y) := by
    rw [← sI_add]
    exact sI_congr fun x _ => parts_T n T _
  have h3 : sI (inT n T) (fun x => sI (inT n T) fun y => (many ls (x : Int) (y : Int) : Int) - R x y) = 0 := sI_anti fun x hx y hy => by
    have := h.two x y (mem_inT.1 hx).1 (mem_inT.1 hy).1
    rw [manyS ls (y : Int) (x : Int)]
    omega
  rw [h1, h3] at h2
  omega
theorem flow_le {n : Nat} {ls : List Ln} (hg : GoodG n ls) {a b : Nat} {k : Int} {R : Nat → Nat → Int} (h : Flow n ls a b (netK a b k) R) (ha : a < n) (T : Nat → Bool) (hTa : T a = true) (hTb : T b = false) : k ≤ (cutL ls T : Int) := by
  rw [flow_cut h ha T hTa hTb, ← cut_sum T hg.2.2.2]
  refine sI_le fun x hx => sI_le fun y hy => ?_
  have := h.pos x y (mem_inT.1 hx).1 (mem_outT.1 hy).1
  omega
theorem flow_eq {n : Nat} {ls : List Ln} (hg : GoodG n ls) {a b : Nat} {k : Int} {R : Nat → Nat → Int} (h : Flow n ls a b (netK a b k) R) (ha : a < n) (T : Nat → Bool) (hTa : T a = true) (hTb : T b = false)
    (hT : ∀ x y, x < n → y < n → T x = true → T y = false → R x y = 0) : k = (cutL ls T : Int) := by
  rw [flow_cut h ha T hTa hTb, ← cut_sum T hg.2.2.2]
  refine sI_congr fun x hx => sI_congr fun y hy => ?_
  rw [hT x y (mem_inT.1 hx).1 (mem_outT.1 hy).1 (mem_inT.1 hx).2 (mem_outT.1 hy).2]
  omega
/-- one way over the line from x to y -/
def pushR (R : Nat → Nat → Int) (x y : Nat) : Nat → Nat → Int := fun u v => if u = x ∧ v = y then R u v - 1 else if u = y ∧ v = x then R u v + 1 else R u v
theorem flow_push {n : Nat} {ls : List Ln} {a b : Nat} {N : Nat → Int} {R : Nat → Nat → Int} (h : Flow n ls a b N R) {x y : Nat} (hx : x < n) (hy : y < n) (hxy : x ≠ y) (hp : 1 ≤ R x y) :
    Flow n ls a b (fun u => N u + ((if u = x then 1 else 0) + (if u = y then -1 else 0))) (pushR R x y) := by
  refine ⟨fun u v hu hv => ?_, fun u v hu hv => ?_, fun u hu => ?_⟩
  · unfold pushR
    have := h.pos u v hu hv
    by_cases e : u = x ∧ v = y
    · rw [if_pos e, e.1, e.2]; omega
    · rw [if_neg e]; split <;> omega
  · have := h.two u v hu hv
    unfold pushR
    by_cases e : u = x ∧ v = y
    · obtain ⟨rfl, rfl⟩ := e
      rw [if_pos ⟨rfl, rfl⟩, if_neg (by omega), if_pos ⟨rfl, rfl⟩]; omega
    · rw [if_neg e]
      by_cases e2 : u = y ∧ v = x
      · obtain ⟨rfl, rfl⟩ := e2
        rw [if_pos ⟨rfl, rfl⟩, if_pos ⟨rfl, rfl⟩]; omega
      · rw [if_neg e2, if_neg (by omega), if_neg (by omega)]; exact this
  · have e : sI (List.range n) (fun v => (many ls (u : Int) (v : Int) : Int) - pushR R x y u v) = sI (List.range n) (fun v => ((many ls (u : Int) (v : Int) : Int) - R u v) + ((if v = y then (if u = x then 1 else 0) else 0) + (if v = x then (if u = y then -1 else 0) else 0))) := sI_congr fun v _ => by
      unfold pushR
      by_cases e1 : u = x ∧ v = y
      · obtain ⟨rfl, rfl⟩ := e1
        rw [if_pos ⟨rfl, rfl⟩, if_pos rfl, if_pos rfl, if_neg (fun e => hxy e.symm)]; omega
      · rw [if_neg e1]
        by_cases e2 : u = y ∧ v = x
        · obtain ⟨rfl, rfl⟩ := e2
          rw [if_pos ⟨rfl, rfl⟩, if_neg hxy, if_pos rfl, if_pos rfl]; omega
        · rw [if_neg e2]
          by_cases e3 : v = y
          · rw [if_pos e3, if_neg (fun e => e1 ⟨e, e3⟩)]
            by_cases e4 : v = x
            · exact absurd (e4.symm.trans e3) hxy
            · rw [if_neg e4]; omega
          · rw [if_neg e3]
            by_cases e4 : v = x
            · rw [if_pos e4, if_neg (fun e => e2 ⟨e, e4⟩)]; omega
            · rw [if_neg e4]; omega
    rw [e, sI_add, h.net u hu, sI_add, sI_one List.nodup_range, sI_one List.nodup_range, if_pos (List.mem_range.2 hy), if_pos (List.mem_range.2 hx)]
theorem flow_start {n : Nat} (ls : List Ln) (a b : Nat) : Flow n ls a b (netK a b 0) (fun x y => (many ls (x : Int) (y : Int) : Int)) := by
  refine ⟨fun x y _ _ => by omega, fun x y _ _ => by rw [manyS ls (y : Int) (x : Int)]; omega, fun x _ => ?_⟩
  have : sI (List.range n) (fun y => (many ls (x : Int) (y : Int) : Int) - (many ls (x : Int) (y : Int) : Int)) = sI (List.range n) fun _ => 0 := sI_congr fun y _ => by omega
  rw [this, sI_zero]
  unfold netK
  split <;> split <;> rfl
end Gr
end Go.Proofs.Ytjeafgnaoncphaa
