/- The choice of the next line over a list from which the used ones are struck: plain. Conditions: in each statement. -/
import Derived.Test.YtoomdnbbbaooeaaDoorTrailQ
namespace Go.Proofs.YtoomdnbbbaooeaaDoor
open Gr

theorem filter_erase {l : List Nat} (hn : l.Nodup) : ∀ (q : Nat) (h : q < l.length), l.filter (fun i => decide (i ≠ l[q])) = l.eraseIdx q := by
  induction l with
  | nil => intro q h; simp at h
  | cons x l ih =>
    intro q h
    obtain ⟨hx, hn'⟩ := List.nodup_cons.1 hn
    cases q with
    | zero =>
      rw [List.eraseIdx_zero, List.tail_cons, List.getElem_cons_zero, List.filter_cons_of_neg (p := fun i => decide (i ≠ x)) (by simp), List.filter_eq_self]
      intro i hi
      exact decide_eq_true (fun e => hx (e ▸ hi))
    | succ q =>
      have hq : q < l.length := by simpa using h
      have hne : x ≠ l[q] := fun e => hx (e ▸ List.getElem_mem hq)
      rw [List.getElem_cons_succ, List.filter_cons_of_pos (p := fun i => decide (i ≠ l[q])) (by simpa using hne), List.eraseIdx_cons_succ, ih hn' q hq]
theorem map_erase {α β : Type} (f : α → β) : ∀ (l : List α) (q : Nat), (l.eraseIdx q).map f = (l.map f).eraseIdx q := by
  intro l
  induction l with
  | nil => intro q; simp
  | cons x l ih =>
    intro q
    cases q with
    | zero => simp
    | succ q => simp [ih]

/-- the numbers of the lines that are not used -/
def idxs (m : Nat) (U : List Bool) : List Nat := (List.range m).filter fun i => !(U[i]?.getD false)
theorem idxs_nodup (m : Nat) (U : List Bool) : (idxs m U).Nodup := List.Pairwise.filter _ List.nodup_range
theorem idxs_sorted (m : Nat) (U : List Bool) : (idxs m U).Pairwise (· < ·) := List.Pairwise.filter _ List.pairwise_lt_range
theorem leftL_idxs (ls : List Ln) (U : List Bool) : leftL ls U = (idxs ls.length U).map fun i => ls[i]?.getD (0, 0) := rfl
theorem idxs_mem {m : Nat} {U : List Bool} {i : Nat} : i ∈ idxs m U ↔ i < m ∧ U[i]?.getD false = false := by
  unfold idxs; simp

theorem left_erase {ls : List Ln} {U : List Bool} (hl : U.length = ls.length) {q : Nat} (hq : q < (idxs ls.length U).length) : leftL ls (U.set (idxs ls.length U)[q] true) = (leftL ls U).eraseIdx q := by
  rw [leftL_idxs, leftL_idxs, ← map_erase, ← filter_erase (idxs_nodup _ _) q hq]
  congr 1
  generalize hk : (idxs ls.length U)[q] = k
  have hkm : k ∈ idxs ls.length U := hk ▸ List.getElem_mem hq
  obtain ⟨hk1, hk2⟩ := idxs_mem.1 hkm
  unfold idxs
  rw [List.filter_filter]
  refine List.filter_congr fun i _ => ?_
  rw [List.getElem?_set]
  by_cases e : k = i
  · subst e; simp [hl, hk1]
  · have : i ≠ k := fun e2 => e e2.symm
    simp [e, this]
theorem left_get {ls : List Ln} {U : List Bool} {q : Nat} (hq : q < (idxs ls.length U).length) : ∃ h : q < (leftL ls U).length, ∃ h2 : (idxs ls.length U)[q] < ls.length, (leftL ls U)[q] = ls[(idxs ls.length U)[q]] := by
  have hk := (idxs_mem.1 (List.getElem_mem hq)).1
  refine ⟨by rw [leftL_idxs, List.length_map]; exact hq, hk, ?_⟩
  simp only [leftL_idxs, List.getElem_map]
  rw [List.getElem?_eq_getElem hk]; rfl

theorem left_one (L : List Ln) {q : Nat} (h : q < L.length) : leftL L ((List.replicate L.length false).set q true) = L.eraseIdx q := by
  have hidx : idxs L.length (List.replicate L.length false) = List.range L.length := by
    unfold idxs
    rw [List.filter_eq_self]
    intro i hi
    simp [List.mem_range.1 hi]
  have hq' : q < (idxs L.length (List.replicate L.length false)).length := by rw [hidx]; simpa using h
  have := left_erase (ls := L) (U := List.replicate L.length false) (by simp) hq'
  rw [leftL_none] at this
  rw [← this]
  congr 2
  simp [hidx]
theorem can_pos {n : Nat} {ls : List Ln} {U : List Bool} (hl : U.length = ls.length) (a b : Nat) {q : Nat} (hq : q < (idxs ls.length U).length) :
    CanGo n ls U a (idxs ls.length U)[q] b ↔ CanGo n (leftL ls U) (List.replicate (leftL ls U).length false) a q b := by
  obtain ⟨h1, h2, e⟩ := left_get hq
  have hu := (idxs_mem.1 (List.getElem_mem hq)).2
  have e2 : leftL (leftL ls U) ((List.replicate (leftL ls U).length false).set q true) = (leftL ls U).eraseIdx q := by
    have hidx : idxs (leftL ls U).length (List.replicate (leftL ls U).length false) = List.range (leftL ls U).length := by
      unfold idxs
      rw [List.filter_eq_self]
      intro i hi
      simp [List.mem_range.1 hi]
    have hq' : q < (idxs (leftL ls U).length (List.replicate (leftL ls U).length false)).length := by rw [hidx]; simpa using h1
    have := left_erase (ls := leftL ls U) (U := List.replicate (leftL ls U).length false) (by simp) hq'
    rw [leftL_none] at this
    rw [← this]
    congr 2
    simp [hidx]
  unfold CanGo
  rw [left_erase hl hq, e2]
  constructor
  · rintro ⟨_, _, k1, k2, k3, k4⟩
    exact ⟨h1, by simp [h1], by rw [e]; exact k1, k2, k3, k4⟩
  · rintro ⟨_, _, k1, k2, k3, k4⟩
    exact ⟨h2, hu, by rw [e] at k1; exact k1, k2, k3, k4⟩

/-- the choice over the lines that are left is the same -/
theorem pick_same {n : Nat} {ls : List Ln} {U : List Bool} {a i b : Nat} (hg : GoodG n ls) (hl : U.length = ls.length) (hc : CanGo n ls U a i b) (hm : ∀ j c, CanGo n ls U a j c → b ≤ c ∧ (c = b → i ≤ j)) :
    ∃ q : Nat, pickUp n (leftL ls U) (List.replicate (leftL ls U).length false) a (leftL ls U).length = ((q : Int), (b : Int)) ∧ (leftL ls U).eraseIdx q = leftL ls (U.set i true) := by
  obtain ⟨hi, hu, _⟩ := id hc
  obtain ⟨q, hq, rfl⟩ := List.mem_iff_getElem.1 (idxs_mem.2 ⟨hi, hu⟩)
  have hcq := (can_pos hl a b hq).1 hc
  have hql := (left_get hq).1
  refine ⟨q, ?_, (left_erase hl hq).symm⟩
  rcases pick_inv (List.replicate (leftL ls U).length false) a (leftL_good U hg) (leftL ls U).length (Nat.le_refl _) with ⟨_, h⟩ | ⟨q', b', e, hq', hc', h⟩
  · exact absurd hcq (h q b hql)
  · have hlen : (idxs ls.length U).length = (leftL ls U).length := by rw [leftL_idxs, List.length_map]
    have hq2 : q' < (idxs ls.length U).length := by omega
    obtain ⟨m1, m2⟩ := h q b hql hcq
    obtain ⟨k1, k2⟩ := hm _ _ ((can_pos hl a b' hq2).2 hc')
    obtain rfl : b' = b := by omega
    have h1 := m2 rfl
    have h2 := k2 rfl
    have hqq : q' = q := by
      rcases Nat.lt_trichotomy q' q with h3 | h3 | h3
      · have := List.pairwise_iff_getElem.1 (idxs_sorted ls.length U) q' q hq2 hq h3
        omega
      · exact h3
      · omega
    rw [e, hqq]

end Go.Proofs.YtoomdnbbbaooeaaDoor
