/- How many ways there are: plain. Conditions: in each statement. -/
import Derived.Test.YtjeafgnaoncphaaBfsP
import Derived.Test.YtjeafgnaoncphaaButP
import Derived.Test.YtjeafgnaoncphaaEnds
namespace Go.Proofs.Ytjeafgnaoncphaa
open Go.RowKit Gr

namespace Gr
theorem degL_consW (l : Ln) (L : List Ln) (i : Nat) : degL (l :: L) i = degL L i + (if ends1 i l then 1 else 0) := by
  unfold degL
  by_cases h : ends1 i l <;> simp [h]
/-- the degrees of the points in T are all together twice the lines within T and the lines that lead out -/
theorem deg_cut {n : Nat} (T : Nat → Bool) : ∀ {ls : List Ln}, (∀ l ∈ ls, 0 ≤ l.1 ∧ l.1 < n ∧ 0 ≤ l.2 ∧ l.2 < n ∧ l.1 ≠ l.2) → ∃ m : Int, sI (inT n T) (fun x => (degL ls x : Int)) = 2 * m + (cutL ls T : Int) := by
  intro ls
  induction ls with
  | nil =>
    intro _
    refine ⟨0, ?_⟩
    have : ∀ x, degL [] x = 0 := fun _ => rfl
    simp only [this]
    show sI _ (fun _ => 0) = _
    rw [sI_zero]; rfl
  | cons l ls ih =>
    intro h
    have hl := h l List.mem_cons_self
    obtain ⟨m, ih⟩ := ih fun l hl => h l (List.mem_cons_of_mem _ hl)
    obtain ⟨p, q⟩ := l
    obtain ⟨p, rfl⟩ : ∃ k : Nat, p = (k : Int) := ⟨p.toNat, by simp only at hl; omega⟩
    obtain ⟨q, rfl⟩ : ∃ k : Nat, q = (k : Int) := ⟨q.toNat, by simp only at hl; omega⟩
    simp only at hl
    have e1 : ∀ x : Nat, (degL (((p : Int), (q : Int)) :: ls) x : Int) = (degL ls x : Int) + ((if x = p then 1 else 0) + (if x = q then 1 else 0)) := fun x => by
      rw [degL_consW]
      have hj : ends1 x ((p : Int), (q : Int)) = true ↔ x = p ∨ x = q := by
        unfold ends1
        simp only [Bool.or_eq_true, beq_iff_eq]
        omega
      by_cases h1 : x = p
      · rw [if_pos (hj.2 (.inl h1)), if_pos h1, if_neg (by omega)]; omega
      · rw [if_neg h1]
        by_cases h2 : x = q
        · rw [if_pos (hj.2 (.inr h2)), if_pos h2]; omega
        · rw [if_neg (fun h => (hj.1 h).elim h1 h2), if_neg h2]; omega
    have e2 : sI (inT n T) (fun x => (degL (((p : Int), (q : Int)) :: ls) x : Int)) = sI (inT n T) (fun x => (degL ls x : Int) + ((if x = p then 1 else 0) + (if x = q then 1 else 0))) := sI_congr fun x _ => e1 x
    rw [e2, sI_add, ih, sI_add, sI_one (nodup_inT n T), sI_one (nodup_inT n T), cutL_cons]
    simp only [mem_inT, Int.toNat_natCast]
    have hp : p < n := by omega
    have hq : q < n := by omega
    rcases Bool.eq_false_or_eq_true (T p) with hTp | hTp <;> rcases Bool.eq_false_or_eq_true (T q) with hTq | hTq <;> simp [hp, hq, hTp, hTq]
    · exact ⟨m + 1, by omega⟩
    · exact ⟨m, by omega⟩
    · exact ⟨m, by omega⟩
    · exact ⟨m, by omega⟩
theorem cut_even {n : Nat} {ls : List Ln} (hg : GoodG n ls) (he : endsUp ls n = []) (T : Nat → Bool) : cutL ls T % 2 = 0 := by
  obtain ⟨m, hm⟩ := deg_cut (n := n) T hg.2.2.2
  have hev : ∀ x, x < n → degL ls x % 2 = 0 := fun x hx => by
    have : x ∉ endsUp ls n := by rw [he]; simp
    unfold endsUp at this
    rw [List.mem_filter] at this
    have h2 : ¬ degL ls x % 2 = 1 := fun h => this ⟨List.mem_range.2 hx, by simpa using h⟩
    omega
  have key : ∀ A : List Nat, (∀ x ∈ A, degL ls x % 2 = 0) → ∃ c : Int, sI A (fun x => (degL ls x : Int)) = 2 * c := by
    intro A
    induction A with
    | nil => intro _; exact ⟨0, rfl⟩
    | cons a A ih =>
      intro h
      obtain ⟨c, hc⟩ := ih fun x hx => h x (List.mem_cons_of_mem _ hx)
      have := h a List.mem_cons_self
      refine ⟨c + ((degL ls a / 2 : Nat) : Int), ?_⟩
      rw [sI_cons, hc]
      omega
  obtain ⟨c, hc⟩ := key (inT n T) fun x hx => hev x (mem_inT.1 hx).1
  omega
/-- no line leads out of a part -/
theorem cut_part {n : Nat} {ls : List Ln} (hg : GoodG n ls) (T : Nat → Bool) (hT : ∀ x y, adjS (beside n ls) x y → T x = true → T y = true) : cutL ls T = 0 := by
  unfold cutL
  rw [List.length_eq_zero_iff, List.filter_eq_nil_iff]
  intro l hl h
  have h1 := hg.2.2.2 l hl
  have hadj : adjS (beside n ls) l.1.toNat l.2.toNat := (adj_near hg _ _).2 (near_iff.2 ⟨l, hl, .inl (by omega)⟩)
  have e : T l.1.toNat = T l.2.toNat := by
    rw [Bool.eq_iff_iff]
    exact ⟨hT _ _ hadj, hT _ _ (adj_symm hg hadj)⟩
  rw [e] at h
  simp at h
/-- where there is a way at least one line leads out -/
theorem cut_pos {n : Nat} {ls : List Ln} (hg : GoodG n ls) {a b : Nat} (hc : Conn (beside n ls) a b) (T : Nat → Bool) (ha : T a = true) (hb : T b = false) : 1 ≤ cutL ls T := by
  refine Classical.byContradiction fun h0 => ?_
  have hz : cutL ls T = 0 := by omega
  unfold cutL at hz
  rw [List.length_eq_zero_iff, List.filter_eq_nil_iff] at hz
  have := hc (fun x => T x = true) ha (fun u v hu huv => by
    obtain ⟨l, hl, h⟩ := near_iff.1 ((adj_near hg u v).1 huv)
    have h2 := hz l hl
    have e : T l.1.toNat = T l.2.toNat := by
      cases h3 : T l.1.toNat <;> cases h4 : T l.2.toNat <;> simp_all
    rcases h with ⟨h3, h4⟩ | ⟨h3, h4⟩
    · rw [h3, h4] at e
      simp at e
      rw [← e]; exact hu
    · rw [h3, h4] at e
      simp at e
      rw [e]; exact hu)
  rw [hb] at this
  cases this
open Classical in
/-- over a line without which its ends don't hang together no more than one way leads -/
theorem cut_one {n : Nat} {ls : List Ln} (hg : GoodG n ls) {a b c : Nat} (hm : many ls (c : Int) (b : Int) = 1) (hce : ¬ CE (beside n ls) c b c b) (hac : CE (beside n ls) c b a c) : ∃ T : Nat → Bool, T a = true ∧ T b = false ∧ cutL ls T ≤ 1 := by
  have hs : Symm (beside n ls) := fun _ _ h => adj_symm hg h
  refine ⟨fun x => decide (CE (beside n ls) c b a x), by simpa using CE.refl _ _ _ _, by simpa using fun h => hce (CE.trans (CE.symm hs hac) h), ?_⟩
  rw [← hm]
  unfold cutL many
  rw [← List.countP_eq_length_filter, ← List.countP_eq_length_filter]
  refine List.countP_mono_left fun l hl h => ?_
  have h1 := hg.2.2.2 l hl
  have hadj : adjS (beside n ls) l.1.toNat l.2.toNat := (adj_near hg _ _).2 (near_iff.2 ⟨l, hl, .inl (by omega)⟩)
  refine Classical.byContradiction fun hj => ?_
  have hn : ¬ ((l.1.toNat = c ∧ l.2.toNat = b) ∨ (l.1.toNat = b ∧ l.2.toNat = c)) := fun hh => hj (by
    unfold joins
    simp only [Bool.or_eq_true, Bool.and_eq_true, beq_iff_eq]
    omega)
  have e : CE (beside n ls) c b a l.1.toNat ↔ CE (beside n ls) c b a l.2.toNat :=
    ⟨fun k => CE.trans k (CE.first hadj (fun e => hn (.inl e)) (fun e => hn (.inr e)) (CE.refl _ _ _ _)), fun k => CE.trans k (CE.first (hs _ _ hadj) (fun e => hn (.inr ⟨e.2, e.1⟩)) (fun e => hn (.inl ⟨e.2, e.1⟩)) (CE.refl _ _ _ _))⟩
  simp only [e] at h
  simp at h
/-- the last point on a way from a to b -/
theorem last_before {O : List Nat} {a b : Nat} (hab : a ≠ b) (hc : Conn O a b) : ∃ c, adjS O c b ∧ CW O b a c := by
  have := hc (fun x => (x ≠ b ∧ CW O b a x) ∨ ∃ c, adjS O c b ∧ CW O b a c) (.inl ⟨hab, CW.refl _ _ _⟩) (fun u v hu huv => by
    rcases hu with ⟨_, hu2⟩ | hu2
    · by_cases e : v = b
      · subst e; exact .inr ⟨u, huv, hu2⟩
      · exact .inl ⟨e, CW.trans hu2 (CW.first huv e (CW.refl _ _ _))⟩
    · exact .inr hu2)
  rcases this with ⟨h, _⟩ | h
  · exact absurd rfl h
  · exact h
end Gr
end Go.Proofs.Ytjeafgnaoncphaa
