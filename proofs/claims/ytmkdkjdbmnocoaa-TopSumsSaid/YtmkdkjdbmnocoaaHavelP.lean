/- How lines are made for so many each: plain. Conditions: in each statement. -/
import Derived.Test.YtmkdkjdbmnocoaaGraphP
namespace Go.Proofs.Ytmkdkjdbmnocoaa.Gr

/-- the number at i -/
def val (N : List Nat) (i : Nat) : Nat := N[i]?.getD 0
theorem val_lt {N : List Nat} {i : Nat} (h : i < N.length) : val N i = N[i] := by simp [val, h]
theorem val_set {N : List Nat} {i : Nat} (h : i < N.length) (v j : Nat) : val (N.set i v) j = if j = i then v else val N j := by
  unfold val
  rw [List.getElem?_set]
  by_cases e : i = j
  · subst e; simp [h]
  · rw [if_neg e, if_neg (fun h => e h.symm)]
/-- the first of the greatest, of the first k -/
def atUp (N : List Nat) : Nat → Nat
  | 0 => 0
  | k + 1 => if val N (atUp N k) < val N k then k else atUp N k
theorem atUp_ok (N : List Nat) : ∀ k, 1 ≤ k → atUp N k < k ∧ (∀ j, j < k → val N j ≤ val N (atUp N k)) ∧ ∀ j, j < atUp N k → val N j < val N (atUp N k) := by
  intro k
  induction k with
  | zero => intro h; omega
  | succ k ih =>
    intro _
    by_cases hk : k = 0
    · subst hk
      have e : atUp N (0 + 1) = 0 := by simp [atUp]
      rw [e]
      exact ⟨by omega, fun j hj => by rw [show j = 0 from by omega]; exact Nat.le_refl _, fun j hj => by omega⟩
    · obtain ⟨h1, h2, h3⟩ := ih (by omega)
      by_cases h : val N (atUp N k) < val N k
      · have e : atUp N (k + 1) = k := by simp [atUp, h]
        rw [e]
        refine ⟨by omega, fun j hj => ?_, fun j hj => by have := h2 j hj; omega⟩
        by_cases ej : j = k
        · rw [ej]; exact Nat.le_refl _
        · have := h2 j (by omega); omega
      · have e : atUp N (k + 1) = atUp N k := by simp [atUp, h]
        rw [e]
        refine ⟨by omega, fun j hj => ?_, h3⟩
        by_cases ej : j = k
        · rw [ej]; omega
        · exact h2 j (by omega)
theorem at_one {N : List Nat} {k a : Nat} (h1 : a < k) (h2 : ∀ j, j < k → val N j ≤ val N a) (h3 : ∀ j, j < a → val N j < val N a) : atUp N k = a := by
  obtain ⟨g1, g2, g3⟩ := atUp_ok N k (by omega)
  rcases Nat.lt_trichotomy (atUp N k) a with h | h | h
  · have := h3 _ h; have := g2 a h1; omega
  · exact h
  · have := g3 _ h; have := h2 _ g1; omega

/-- x needs more than y, or as much and comes first -/
def leN (N : List Nat) (x y : Nat) : Prop := val N y < val N x ∨ (val N x = val N y ∧ x ≤ y)
instance (N : List Nat) (x y : Nat) : Decidable (leN N x y) := inferInstanceAs (Decidable (_ ∨ _))
theorem leN_trans {N : List Nat} {x y z : Nat} (h : leN N x y) (k : leN N y z) : leN N x z := by unfold leN at *; omega
theorem leN_total (N : List Nat) (x y : Nat) : leN N x y ∨ leN N y x := by unfold leN; omega
theorem leN_anti {N : List Nat} {x y : Nat} (h : leN N x y) (k : leN N y x) : x = y := by unfold leN at *; omega
/-- the others, those that need most first -/
def ordN (N : List Nat) (a : Nat) : List Nat := ((List.range N.length).filter fun i => decide (i ≠ a)).mergeSort fun x y => decide (leN N x y)
theorem ordN_perm (N : List Nat) (a : Nat) : (ordN N a).Perm ((List.range N.length).filter fun i => decide (i ≠ a)) := List.mergeSort_perm _ _
theorem ordN_mem {N : List Nat} {a i : Nat} : i ∈ ordN N a ↔ i < N.length ∧ i ≠ a := by
  rw [(ordN_perm N a).mem_iff]; simp
theorem ordN_nodup (N : List Nat) (a : Nat) : (ordN N a).Nodup := (ordN_perm N a).nodup_iff.2 (List.Pairwise.filter _ List.nodup_range)
theorem ordN_sorted (N : List Nat) (a : Nat) : (ordN N a).Pairwise (leN N) := by
  have := List.pairwise_mergeSort (le := fun x y => decide (leN N x y)) (fun a b c h1 h2 => by simp at *; exact leN_trans h1 h2) (fun a b => by simp; exact leN_total N a b) ((List.range N.length).filter fun i => decide (i ≠ a))
  exact this.imp fun h => by simpa using h
theorem ordN_length {N : List Nat} {a : Nat} (h : a < N.length) : (ordN N a).length + 1 = N.length := by
  have h1 : (a :: ordN N a).Perm (List.range N.length) := by
    refine (List.perm_ext_iff_of_nodup (List.nodup_cons.2 ⟨fun h => (ordN_mem.1 h).2 rfl, ordN_nodup N a⟩) List.nodup_range).2 fun i => ?_
    rw [List.mem_cons, ordN_mem, List.mem_range]
    omega
  have := h1.length_eq
  simpa using this

/-- one less for each of T -/
def decr (N T : List Nat) : List Nat := T.foldl (fun N i => N.set i (val N i - 1)) N
theorem decr_length (T : List Nat) : ∀ N : List Nat, (decr N T).length = N.length := by
  induction T with
  | nil => intro N; rfl
  | cons i T ih => intro N; show (decr (N.set i (val N i - 1)) T).length = _; rw [ih]; simp
theorem decr_val (T : List Nat) : ∀ N : List Nat, T.Nodup → (∀ i ∈ T, i < N.length) → ∀ j, val (decr N T) j = if j ∈ T then val N j - 1 else val N j := by
  induction T with
  | nil => intro N _ _ j; simp [decr]
  | cons i T ih =>
    intro N hn hl j
    have hi := hl i List.mem_cons_self
    have hn' := List.nodup_cons.1 hn
    show val (decr (N.set i (val N i - 1)) T) j = _
    rw [ih _ hn'.2 (fun k hk => by simp; exact hl k (List.mem_cons_of_mem _ hk)), val_set hi]
    by_cases e : j = i
    · subst e
      rw [if_neg hn'.1, if_pos rfl, if_pos List.mem_cons_self]
    · rw [if_neg e]
      by_cases hj : j ∈ T
      · rw [if_pos hj, if_pos (List.mem_cons_of_mem _ hj)]
      · rw [if_neg hj, if_neg (fun h => (List.mem_cons.1 h).elim e hj)]
theorem decr_succ (N T : List Nat) {j : Nat} (h : j < T.length) : decr N (T.take (j + 1)) = (decr N (T.take j)).set T[j] (val (decr N (T.take j)) T[j] - 1) := by
  rw [List.take_succ_eq_append_getElem h]
  unfold decr
  rw [List.foldl_append]; rfl
theorem sum_set {v : Nat} : ∀ {N : List Nat} {i : Nat}, i < N.length → (N.set i v).sum + val N i = N.sum + v := by
  intro N
  induction N with
  | nil => intro i h; simp at h
  | cons x N ih =>
    intro i h
    cases i with
    | zero => simp [val]; omega
    | succ i =>
      have := ih (i := i) (by simpa using h)
      have e : val (x :: N) (i + 1) = val N i := by simp [val]
      rw [List.set_cons_succ, List.sum_cons, List.sum_cons, e]
      omega
theorem decr_sum (T : List Nat) : ∀ N : List Nat, T.Nodup → (∀ i ∈ T, i < N.length) → (∀ i ∈ T, 1 ≤ val N i) → (decr N T).sum + T.length = N.sum := by
  induction T with
  | nil => intro N _ _ _; simp [decr]
  | cons i T ih =>
    intro N hn hl hv
    have hi := hl i List.mem_cons_self
    have hn' := List.nodup_cons.1 hn
    have h1 := ih (N.set i (val N i - 1)) hn'.2 (fun k hk => by simp; exact hl k (List.mem_cons_of_mem _ hk)) (fun k hk => by
      rw [val_set hi, if_neg (by rintro rfl; exact hn'.1 hk)]
      exact hv k (List.mem_cons_of_mem _ hk))
    have h2 := sum_set (v := val N i - 1) hi
    have h3 := hv i List.mem_cons_self
    show (decr (N.set i (val N i - 1)) T).sum + (i :: T).length = _
    rw [List.length_cons]
    omega

/-- the line between a and i, the lesser one first -/
def pairL (a i : Nat) : Ln := (min (a : Int) (i : Int), max (a : Int) (i : Int))
/-- those whose need is met with a -/
def takeN (N : List Nat) : List Nat := (ordN N (atUp N N.length)).take (val N (atUp N N.length))
/-- what is needed then -/
def nextN (N : List Nat) : List Nat := decr (N.set (atUp N N.length) 0) (takeN N)
/-- the lines, or none if there are none, in f rounds -/
def hav : Nat → List Nat → Option (List Ln)
  | 0, _ => none
  | f + 1, N =>
    if val N (atUp N N.length) = 0 then some []
    else if (ordN N (atUp N N.length)).length < val N (atUp N N.length) then none
    else if (takeN N).any (fun i => val N i == 0) then none
    else (hav f (nextN N)).map fun l => (takeN N).map (pairL (atUp N N.length)) ++ l
theorem takeN_nodup (N : List Nat) : (takeN N).Nodup := (ordN_nodup _ _).sublist (List.take_sublist _ _)
theorem takeN_mem {N : List Nat} {i : Nat} (h : i ∈ takeN N) : i < N.length ∧ i ≠ atUp N N.length := ordN_mem.1 (List.mem_of_mem_take h)
theorem nextN_length (N : List Nat) : (nextN N).length = N.length := by unfold nextN; rw [decr_length]; simp
theorem takeN_length {N : List Nat} (h : ¬ (ordN N (atUp N N.length)).length < val N (atUp N N.length)) : (takeN N).length = val N (atUp N N.length) := by
  unfold takeN; rw [List.length_take]; omega
theorem nextN_sum {N : List Nat} (h0 : 0 < N.length) (h : ¬ (ordN N (atUp N N.length)).length < val N (atUp N N.length)) (hz : ∀ i ∈ takeN N, 1 ≤ val N i) : (nextN N).sum + 2 * val N (atUp N N.length) = N.sum := by
  have ha := (atUp_ok N N.length (by omega)).1
  have h1 := sum_set (v := 0) ha
  have h2 := decr_sum (takeN N) (N.set (atUp N N.length) 0) (takeN_nodup N) (fun i hi => by simp; exact (takeN_mem hi).1) (fun i hi => by
    rw [val_set ha, if_neg (takeN_mem hi).2]; exact hz i hi)
  rw [takeN_length h] at h2
  unfold nextN
  omega
theorem nextN_val {N : List Nat} (h0 : 0 < N.length) (j : Nat) : val (nextN N) j = if j = atUp N N.length then 0 else if j ∈ takeN N then val N j - 1 else val N j := by
  have ha := (atUp_ok N N.length (by omega)).1
  unfold nextN
  rw [decr_val _ _ (takeN_nodup N) (fun i hi => by simp; exact (takeN_mem hi).1), val_set ha]
  by_cases e : j = atUp N N.length
  · rw [if_pos e, if_pos e]
    split <;> rfl
  · rw [if_neg e, if_neg e]

/-- the best of the first k that are not in D; -1: none -/
def bestUp (N D : List Nat) : Nat → Int
  | 0 => -1
  | k + 1 => if k ∉ D ∧ (bestUp N D k < 0 ∨ val N (bestUp N D k).toNat < val N k) then (k : Int) else bestUp N D k
theorem bestUp_ok (N D : List Nat) : ∀ k, (bestUp N D k = -1 ∧ ∀ j, j < k → j ∈ D) ∨ ∃ b : Nat, b < k ∧ bestUp N D k = (b : Int) ∧ b ∉ D ∧ ∀ j, j < k → j ∉ D → leN N b j := by
  intro k
  induction k with
  | zero => exact .inl ⟨rfl, fun j hj => by omega⟩
  | succ k ih =>
    rcases ih with ⟨h1, h2⟩ | ⟨b, h1, h2, h3, h4⟩
    · by_cases hk : k ∈ D
      · left
        refine ⟨by unfold bestUp; rw [if_neg (fun h => h.1 hk)]; exact h1, fun j hj => ?_⟩
        by_cases e : j = k
        · subst e; exact hk
        · exact h2 j (by omega)
      · right
        refine ⟨k, by omega, by unfold bestUp; rw [if_pos ⟨hk, .inl (by omega)⟩], hk, fun j hj hjD => ?_⟩
        by_cases e : j = k
        · subst e; exact .inr ⟨rfl, Nat.le_refl _⟩
        · exact absurd (h2 j (by omega)) hjD
    · right
      by_cases hc : k ∉ D ∧ val N b < val N k
      · refine ⟨k, by omega, by unfold bestUp; rw [h2, if_pos ⟨hc.1, .inr hc.2⟩], hc.1, fun j hj hjD => ?_⟩
        by_cases e : j = k
        · subst e; exact .inr ⟨rfl, Nat.le_refl _⟩
        · have := h4 j (by omega) hjD
          have := hc.2
          unfold leN at *
          omega
      · refine ⟨b, by omega, ?_, h3, fun j hj hjD => ?_⟩
        · unfold bestUp
          rw [h2, if_neg ?_]
          rintro ⟨c1, c2⟩
          rcases c2 with c2 | c2
          · omega
          · exact hc ⟨c1, c2⟩
        · by_cases e : j = k
          · subst e
            have : ¬ val N b < val N j := fun h => hc ⟨hjD, h⟩
            unfold leN; omega
          · exact h4 j (by omega) hjD
theorem best_pick {N : List Nat} {a k : Nat} (hk : k < (ordN N a).length) : bestUp N (a :: (ordN N a).take k) N.length = (((ordN N a)[k] : Nat) : Int) := by
  have hin := ordN_mem.1 (List.getElem_mem hk)
  have hnd := ordN_nodup N a
  have hnot : (ordN N a)[k] ∉ a :: (ordN N a).take k := by
    intro h
    rcases List.mem_cons.1 h with h | h
    · exact hin.2 h
    · obtain ⟨j, hj, e⟩ := List.mem_iff_getElem.1 h
      rw [List.getElem_take] at e
      have hjk : j < k := by simp at hj; omega
      have := List.pairwise_iff_getElem.1 hnd j k (by omega) hk hjk
      exact this e
  rcases bestUp_ok N (a :: (ordN N a).take k) N.length with ⟨_, h2⟩ | ⟨b, h1, h2, h3, h4⟩
  · exact absurd (h2 _ hin.1) hnot
  · rw [h2]
    have hb : b ∈ ordN N a := ordN_mem.2 ⟨h1, fun e => h3 (e ▸ List.mem_cons_self)⟩
    obtain ⟨j, hj, e⟩ := List.mem_iff_getElem.1 hb
    have hjk : k ≤ j := by
      rcases Nat.lt_or_ge j k with h | h
      · exfalso
        refine h3 (List.mem_cons_of_mem _ ?_)
        rw [← e]
        exact List.mem_iff_getElem.2 ⟨j, by simp; omega, by rw [List.getElem_take]⟩
      · exact h
    have g1 := h4 _ hin.1 hnot
    have g2 : leN N (ordN N a)[k] b := by
      rcases Nat.lt_or_eq_of_le hjk with h | h
      · rw [← e]; exact List.pairwise_iff_getElem.1 (ordN_sorted N a) k j hk hj h
      · subst h; rw [e]; exact .inr ⟨rfl, Nat.le_refl _⟩
    rw [leN_anti g1 g2]
theorem best_none {N : List Nat} {a : Nat} : bestUp N (a :: (ordN N a).take (ordN N a).length) N.length = -1 := by
  rw [List.take_length]
  rcases bestUp_ok N (a :: ordN N a) N.length with ⟨h, _⟩ | ⟨b, h1, _, h3, _⟩
  · exact h
  · exfalso
    by_cases e : b = a
    · exact h3 (e ▸ List.mem_cons_self)
    · exact h3 (List.mem_cons_of_mem _ (ordN_mem.2 ⟨h1, e⟩))
end Go.Proofs.Ytmkdkjdbmnocoaa.Gr
