/- Where the runs of a list begin. Conditions: none. -/
import Derived.Test.YtlfinlfmlnclhaaDoorRunsP
namespace Go.Proofs.YtlfinlfmlnclhaaDoor.El

/-- where the q-th run begins -/
def runAt (r : List (Int × Int)) (q : Nat) : Nat := ((r.take q).flatMap spread).length

theorem spread_length (p : Int × Int) : (spread p).length = p.2.toNat := by simp [spread]
theorem runAt_zero (r : List (Int × Int)) : runAt r 0 = 0 := by simp [runAt]
theorem runAt_succ {r : List (Int × Int)} {q : Nat} (hq : q < r.length) : runAt r (q + 1) = runAt r q + r[q].2.toNat := by
  unfold runAt
  rw [List.take_succ_eq_append_getElem hq, List.flatMap_append, List.length_append]
  simp [spread_length]
theorem run_split {r : List (Int × Int)} {q : Nat} (hq : q < r.length) : r.flatMap spread = (r.take q).flatMap spread ++ (spread r[q] ++ (r.drop (q + 1)).flatMap spread) := by
  have e : r = r.take q ++ r[q] :: r.drop (q + 1) := by rw [← List.drop_eq_getElem_cons hq, List.take_append_drop]
  conv => lhs; rw [e, List.flatMap_append, List.flatMap_cons]
theorem runAt_le {r : List (Int × Int)} {q : Nat} (hq : q < r.length) : runAt r (q + 1) ≤ (r.flatMap spread).length := by
  rw [runAt_succ hq, run_split hq, List.length_append, List.length_append, spread_length]
  unfold runAt; omega
theorem run_val {r : List (Int × Int)} {q t : Nat} (hq : q < r.length) (ht : t < r[q].2.toNat) : at0 (r.flatMap spread) (runAt r q + t) = r[q].1 + t := by
  have h1 : t < (spread r[q]).length := by rw [spread_length]; exact ht
  rw [run_split hq]
  unfold at0 runAt
  rw [List.getElem?_append_right (by omega), Nat.add_sub_cancel_left, List.getElem?_append_left h1, List.getElem?_eq_getElem h1]
  simp [spread]

/-- how far the walk over the numbers is -/
def RunPos (r : List (Int × Int)) (i q : Nat) : Prop := q ≤ r.length ∧ ((q = 0 ∧ i = 0) ∨ ∃ p, q = p + 1 ∧ runAt r p < i ∧ i ≤ runAt r q)

variable {l : List Int} {r : List (Int × Int)}

theorem runs_flat (h : RunsI l l.length r) : r.flatMap spread = l := by rw [h.all, List.take_length]
theorem run_pos (h : RunsI l l.length r) {q : Nat} (hq : q < r.length) : 1 ≤ r[q].2.toNat := by have := h.count r[q] (List.getElem_mem hq); omega
theorem runAt_last (h : RunsI l l.length r) : runAt r r.length = l.length := by unfold runAt; rw [List.take_length, runs_flat h]

theorem pos_in (h : RunsI l l.length r) {i q : Nat} (hp : RunPos r i q) (hi : i < l.length) (he : i = runAt r q) : q < r.length := by
  rcases Nat.lt_or_ge q r.length with h1 | h1
  · exact h1
  · have : q = r.length := Nat.le_antisymm hp.1 h1
    rw [this, runAt_last h] at he; omega

theorem pos_prev (h : RunsI l l.length r) {p i : Nat} (hp : p < r.length) (h1 : runAt r p < i) (h2 : i ≤ runAt r (p + 1)) : at0 l (i - 1) = r[p].1 + ((i - 1 - runAt r p : Nat) : Int) := by
  have hs := runAt_succ hp
  have := run_val (q := p) (t := i - 1 - runAt r p) hp (by omega)
  rw [runs_flat h] at this
  rw [← this]; congr 1; omega

/-- a run begins here -/
theorem pos_start (h : RunsI l l.length r) {i q : Nat} (hp : RunPos r i q) (he : i = runAt r q) (hq : q < r.length) :
    at0 l i = r[q].1 ∧ (0 < i → at0 l (i - 1) + 1 ≠ at0 l i) := by
  have h1 : at0 l i = r[q].1 := by
    have := run_val (q := q) (t := 0) hq (by have := run_pos h hq; omega)
    rw [runs_flat h, Nat.add_zero, ← he] at this
    simpa using this
  refine ⟨h1, fun h0 => ?_⟩
  rcases hp.2 with ⟨_, h2⟩ | ⟨p, rfl, h2, h3⟩
  · omega
  · have hpl : p < r.length := by omega
    have hs := runAt_succ hpl
    have hv := pos_prev h hpl h2 h3
    have ha := h.apart (p + 1) (by omega) hq
    simp only [Nat.add_sub_cancel, List.getElem?_eq_getElem hpl, List.getElem?_eq_getElem hq, Option.getD_some] at ha
    have hc := h.count r[p] (List.getElem_mem hpl)
    rw [h1, hv]; omega

/-- no run begins here -/
theorem pos_inner (h : RunsI l l.length r) {i q : Nat} (hp : RunPos r i q) (he : i ≠ runAt r q) : 0 < i ∧ at0 l (i - 1) + 1 = at0 l i := by
  rcases hp.2 with ⟨rfl, h2⟩ | ⟨p, rfl, h2, h3⟩
  · exact absurd (h2.trans (runAt_zero r).symm) he
  · have hpl : p < r.length := by have := hp.1; omega
    have hs := runAt_succ hpl
    have hv := pos_prev h hpl h2 h3
    have hw := pos_prev h hpl (show runAt r p < i + 1 by omega) (show i + 1 ≤ runAt r (p + 1) by omega)
    simp only [Nat.add_sub_cancel] at hw
    refine ⟨by omega, ?_⟩
    rw [hv, hw]; omega

theorem pos_next {i q : Nat} (h : RunsI l l.length r) (hq : q < r.length) (he : i = runAt r q) : RunPos r (i + 1) (q + 1) := by
  have := runAt_succ hq
  have := run_pos h hq
  exact ⟨by omega, .inr ⟨q, rfl, by omega, by omega⟩⟩
theorem pos_stay {i q : Nat} (hp : RunPos r i q) (he : i ≠ runAt r q) : RunPos r (i + 1) q := by
  rcases hp.2 with ⟨rfl, h2⟩ | ⟨p, rfl, h2, h3⟩
  · exact absurd (h2.trans (runAt_zero r).symm) he
  · exact ⟨hp.1, .inr ⟨p, rfl, by omega, by omega⟩⟩

/-- how long the run is that begins here -/
theorem pos_many (h : RunsI l l.length r) {i q m : Nat} (hq : q < r.length) (he : i = runAt r q) (hm : i + m ≤ l.length) (hall : ∀ t, t < m → at0 l (i + t) = at0 l i + t)
    (hstop : i + m = l.length ∨ at0 l (i + m) ≠ at0 l i + m) : (m : Int) = r[q].2 := by
  have hs := runAt_succ hq
  have hp := run_pos h hq
  have hc := h.count r[q] (List.getElem_mem hq)
  have hle := runAt_le hq
  rw [runs_flat h] at hle
  have hv : ∀ t, t < r[q].2.toNat → at0 l (i + t) = r[q].1 + t := fun t ht => by
    have := run_val hq ht; rw [runs_flat h] at this; rw [he]; exact this
  have h0 : at0 l i = r[q].1 := by have := hv 0 (by omega); simpa using this
  rcases Nat.lt_trichotomy m r[q].2.toNat with h1 | h1 | h1
  · rcases hstop with h2 | h2
    · omega
    · exact absurd (by rw [hv m h1, h0]) h2
  · omega
  · have h2 := hall r[q].2.toNat h1
    have hq2 : q + 1 < r.length := by
      rcases Nat.lt_or_ge (q + 1) r.length with h3 | h3
      · exact h3
      · have : q + 1 = r.length := by omega
        have h4 := runAt_last h
        rw [← this] at h4; omega
    have h3 := run_val (q := q + 1) (t := 0) hq2 (by have := run_pos h hq2; omega)
    rw [runs_flat h, Nat.add_zero, hs, ← he] at h3
    have ha := h.apart (q + 1) (by omega) hq2
    simp only [Nat.add_sub_cancel, List.getElem?_eq_getElem hq, List.getElem?_eq_getElem hq2, Option.getD_some] at ha
    rw [h2, h0] at h3
    omega

theorem pos_end (h : RunsI l l.length r) {q : Nat} (hp : RunPos r l.length q) : q = r.length := by
  rcases Nat.lt_or_ge q r.length with h1 | h1
  · exfalso
    have h2 := runAt_succ h1
    have h3 := run_pos h h1
    have h4 := runAt_le h1
    rw [runs_flat h] at h4
    rcases hp.2 with ⟨rfl, h5⟩ | ⟨p, rfl, h5, h6⟩
    · omega
    · omega
  · exact Nat.le_antisymm hp.1 h1

end Go.Proofs.YtlfinlfmlnclhaaDoor.El
