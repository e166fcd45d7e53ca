/- A deep walk finds what holds together: plain. Conditions: in each statement. -/
import Derived.Test.YtjeafgnaoncphaaLowest
import Derived.Test.YtjeafgnaoncphaaCutsPoints
namespace Go.Proofs.Ytjeafgnaoncphaa
open Go.RowKit Gr

/-- how many below k were met from i -/
def kidsTo (c : List Int) (i k : Nat) : Nat := ((List.range k).filter fun j => at1 c j == (i : Int)).length
/-- one below k was met from i and comes back no higher -/
def heldTo (m c low : List Int) (i k : Nat) : Bool := (List.range k).any fun j => at1 c j == (i : Int) && decide (at1 m i ≤ at1 low j)

theorem kidsTo_succ (c : List Int) (i k : Nat) : kidsTo c i (k + 1) = kidsTo c i k + (if at1 c k = (i : Int) then 1 else 0) := by
  unfold kidsTo
  rw [List.range_succ, List.filter_append, List.length_append]
  by_cases h : at1 c k = (i : Int) <;> simp [h]
theorem kidsTo_le (c : List Int) (i k : Nat) : kidsTo c i k ≤ k := by
  unfold kidsTo; refine Nat.le_trans (List.length_filter_le _ _) ?_; simp
theorem heldTo_succ (m c low : List Int) (i k : Nat) : heldTo m c low i (k + 1) = (heldTo m c low i k || (at1 c k == (i : Int) && decide (at1 m i ≤ at1 low k))) := by
  unfold heldTo
  rw [List.range_succ, List.any_append]; simp

theorem two_of {α : Type} {l : List α} (hn : l.Nodup) : 2 ≤ l.length ↔ ∃ a b, a ∈ l ∧ b ∈ l ∧ a ≠ b := by
  constructor
  · intro h
    match l, h, hn with
    | a :: b :: r, _, hn =>
      refine ⟨a, b, by simp, by simp, ?_⟩
      rintro rfl
      simp at hn
  · rintro ⟨a, b, ha, hb, hne⟩
    match l, ha, hb with
    | [], ha, _ => cases ha
    | [x], ha, hb =>
      simp at ha hb
      exact absurd (ha.trans hb.symm) hne
    | _ :: _ :: _, _, _ => simp

theorem top_deep {O : List Nat} {n : Nat} {m l c : List Int} (h : IsDeep O n m l c) (hO : Bounded n O) (hs : Symm O) (hi : ∀ a, ¬ adjS O a a) (hN : ∀ j k, adjS O j k ↔ k ∈ nbs O j) {i : Nat} (hin : i < n) :
    IsCut O i ↔ (if at1 c i < 0 then decide (1 < kidsTo c i n) else heldTo m c (lows O n m l c) i n) = true := by
  have hat : ∀ j, j < n → at1 (lows O n m l c) j = lowOf O n m l c j := fun j hj => by
    unfold lows at1; simp [hj]
  rcases h.tree i hin with ⟨hr, _⟩ | ⟨p, hp, hc, _⟩
  · rw [if_pos (by omega), cut_root h hO hs hi hin hr]
    have hnd : ((List.range n).filter fun j => at1 c j == (i : Int)).Nodup := List.Pairwise.filter _ List.nodup_range
    unfold kidsTo
    rw [decide_eq_true_iff]
    show _ ↔ 2 ≤ _
    rw [two_of hnd]
    constructor
    · rintro ⟨a, b, ha, hb, hne, h1, h2⟩
      exact ⟨a, b, by simp [ha, h1], by simp [hb, h2], hne⟩
    · rintro ⟨a, b, ha, hb, hne⟩
      simp at ha hb
      exact ⟨a, b, ha.1, hb.1, hne, ha.2, hb.2⟩
  · rw [if_neg (by omega), cut_inner h hO hs hi hin hc (fun j hj => lowOf_is h hN hj)]
    unfold heldTo
    rw [List.any_eq_true]
    constructor
    · rintro ⟨j, hj, h1, h2⟩
      exact ⟨j, List.mem_range.2 hj, by simp [h1, hat j hj, h2]⟩
    · rintro ⟨j, hj, h1⟩
      have hj := List.mem_range.1 hj
      rw [hat j hj] at h1
      simp at h1
      exact ⟨j, hj, h1.1, h1.2⟩

theorem adj_nbs {O : List Nat} {n : Nat} (hn : n ≤ 8) (hO : Bounded n O) (j k : Nat) : adjS O j k ↔ k ∈ nbs O j := by
  unfold nbs
  constructor
  · intro h
    have := (hO j k h).2
    exact List.mem_map.2 ⟨⟨k, by omega⟩, mem_elems.2 h, rfl⟩
  · intro h
    obtain ⟨y, hy, rfl⟩ := List.mem_map.1 h
    exact mem_elems.1 hy

theorem cutsUp_has (O : List Nat) (n i : Nat) (hi : i < n) : ((i : Int) ∈ (cutsUp O n).map fun (j : Nat) => (j : Int)) ↔ IsCut O i := by
  unfold cutsUp
  simp only [List.mem_map, List.mem_filter, List.mem_range, decide_eq_true_eq]
  constructor
  · rintro ⟨a, ⟨_, h⟩, e⟩
    obtain rfl : a = i := by omega
    exact h
  · intro h
    exact ⟨i, ⟨hi, h⟩, rfl⟩


end Go.Proofs.Ytjeafgnaoncphaa
