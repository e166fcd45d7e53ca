/- Lists that rise, kept by how far each number is from the one ahead: plain. Conditions: in each statement. -/
import Derived.Test.YtnnhidbnjlpjiaaEliasL
namespace Go.Proofs.Ytnnhidbnjlpjiaa.El

/-- the first of n errors that is one -/
def firstErr (f : Nat → Nat) (n : Nat) : Nat := (((List.range n).map f).find? fun e => decide (e ≠ 0)).getD 0
theorem firstErr_zero {f : Nat → Nat} {n : Nat} (h : ∀ j, j < n → f j = 0) : firstErr f n = 0 := by
  unfold firstErr
  rw [List.find?_eq_none.2 (fun e he => by
    obtain ⟨j, hj, rfl⟩ := List.mem_map.1 he
    simp [h j (List.mem_range.1 hj)])]
  rfl
theorem firstErr_at {f : Nat → Nat} {n k : Nat} (h : ∀ j, j < k → f j = 0) (hk : k < n) (he : f k ≠ 0) : firstErr f n = f k := by
  have e : List.range n = List.range k ++ (k :: (List.range (n - k - 1)).map fun i => k + 1 + i) := by
    have h1 : n = k + ((n - k - 1) + 1) := by omega
    conv => lhs; rw [h1, List.range_add, List.range_succ_eq_map]
    simp [Nat.add_comm, Nat.add_left_comm]
  unfold firstErr
  rw [e, List.map_append, List.find?_append, List.find?_eq_none.2 (fun e he => by
    obtain ⟨j, hj, rfl⟩ := List.mem_map.1 he
    simp [h j (List.mem_range.1 hj)])]
  simp [he]

def at0 (l : List Int) (k : Nat) : Int := l[k]?.getD 0
theorem at0_lt {l : List Int} {k : Nat} (h : k < l.length) : at0 l k = l[k] := by simp [at0, h]
/-- what is wrong at place k -/
def gAt (l : List Int) (k : Nat) : Nat := if ¬ (0 ≤ at0 l k ∧ at0 l k ≤ 999999) then 1 else if 0 < k ∧ at0 l (k - 1) ≥ at0 l k then 3 else 0
def gapsErr (l : List Int) : Nat := if 30 < l.length then 4 else firstErr (gAt l) l.length

structure GapsOk (l : List Int) : Prop where
  len : l.length ≤ 30
  all : ∀ k, k < l.length → gAt l k = 0
theorem gapsOk_of {l : List Int} (h : gapsErr l = 0) : GapsOk l := by
  unfold gapsErr at h
  split at h
  · omega
  · refine ⟨by omega, ?_⟩
    intro k
    induction k using Nat.strongRecOn with
    | _ k ih =>
      intro hk
      rcases Nat.eq_zero_or_pos (gAt l k) with e | e
      · exact e
      · have := firstErr_at (f := gAt l) (fun j hj => ih j hj (by omega)) hk (by omega)
        omega
theorem gapsErr_ok {l : List Int} (h : GapsOk l) : gapsErr l = 0 := by
  unfold gapsErr; rw [if_neg (by have := h.len; omega)]; exact firstErr_zero h.all
theorem gAt_zero {l : List Int} {k : Nat} (h : gAt l k = 0) : 0 ≤ at0 l k ∧ at0 l k ≤ 999999 ∧ (0 < k → at0 l (k - 1) < at0 l k) := by
  unfold gAt at h
  split at h
  · cases h
  · split at h
    · cases h
    · exact ⟨by omega, by omega, by omega⟩

/-- how far each number is from the one ahead -/
def diffs (p : Int) : List Int → List Int
  | [] => []
  | n :: r => (n - p) :: diffs n r
theorem diffs_length (p : Int) (l : List Int) : (diffs p l).length = l.length := by
  induction l generalizing p with
  | nil => rfl
  | cons n r ih => simp [diffs, ih]
theorem diffs_snoc (p : Int) (l : List Int) (x : Int) : diffs p (l ++ [x]) = diffs p l ++ [x - (l.getLast?.getD p)] := by
  induction l generalizing p with
  | nil => rfl
  | cons n r ih =>
    show (n - p) :: diffs n (r ++ [x]) = (n - p) :: diffs n r ++ _
    rw [ih, List.getLast?_cons]
    simp
def nums (l : List Int) : List Int := ((l.length : Int) + 1) :: diffs (-1) l
def writeG (l : List Int) : List Int := deltas (nums l)

/-- the last of the first k; -1: none -/
def lastOf (l : List Int) (k : Nat) : Int := if k = 0 then -1 else at0 l (k - 1)
theorem diffs_take {l : List Int} {k : Nat} (h : k < l.length) : diffs (-1) (l.take (k + 1)) = diffs (-1) (l.take k) ++ [at0 l k - lastOf l k] := by
  rw [List.take_succ_eq_append_getElem h, diffs_snoc, at0_lt h]
  congr 2
  unfold lastOf
  cases k with
  | zero => simp
  | succ k =>
    rw [if_neg (by omega), List.getLast?_take, if_neg (by omega)]
    have hk : k < l.length := by omega
    simp [at0, hk]
theorem gap_in {l : List Int} (h : GapsOk l) {k : Nat} (hk : k < l.length) : 1 ≤ at0 l k - lastOf l k ∧ at0 l k - lastOf l k ≤ 1000000 := by
  obtain ⟨h1, h2, h3⟩ := gAt_zero (h.all k hk)
  unfold lastOf
  by_cases e : k = 0
  · subst e; simp; omega
  · rw [if_neg e]
    have := h3 (by omega)
    obtain ⟨h4, h5, _⟩ := gAt_zero (h.all (k - 1) (by omega))
    omega
theorem diffs_in {l : List Int} (h : GapsOk l) : ∀ k, k ≤ l.length → ∀ x ∈ diffs (-1) (l.take k), 1 ≤ x ∧ x ≤ 1000000 := by
  intro k
  induction k with
  | zero => intro _ x hx; simp [diffs] at hx
  | succ k ih =>
    intro hk x hx
    rw [diffs_take (by omega)] at hx
    rcases List.mem_append.1 hx with h1 | h1
    · exact ih (by omega) x h1
    · rw [List.mem_singleton] at h1; subst h1; exact gap_in h (by omega)
theorem nums_in {l : List Int} (h : GapsOk l) : ∀ x ∈ nums l, 1 ≤ x ∧ x ≤ 1000000 := by
  intro x hx
  have hl := h.len
  rcases List.mem_cons.1 hx with rfl | h1
  · omega
  · have := diffs_in h l.length (Nat.le_refl _) x (by rwa [List.take_length])
    exact this
theorem diffs_inj : ∀ (p : Int) (a b : List Int), diffs p a = diffs p b → a = b := by
  intro p a
  induction a generalizing p with
  | nil => intro b h; cases b with
    | nil => rfl
    | cons y r => simp [diffs] at h
  | cons x r ih =>
    intro b h
    cases b with
    | nil => simp [diffs] at h
    | cons y s =>
      simp only [diffs, List.cons.injEq] at h
      have : x = y := by omega
      subst this
      rw [ih x s h.2]
theorem writeG_inj {a b : List Int} (ha : GapsOk a) (hb : GapsOk b) (h : writeG a = writeG b) : a = b := by
  have h1 := readD_deltas (nums a) (nums_in ha)
  have h2 := readD_deltas (nums b) (nums_in hb)
  unfold writeG at h
  rw [h, h2] at h1
  have := Option.some.inj h1
  unfold nums at this
  simp only [List.cons.injEq] at this
  exact (diffs_inj _ _ _ this.2).symm

/-- the numbers again, from how far each is from the one ahead -/
def sumsUp (last : Int) : List Int → Option (List Int)
  | [] => some []
  | n :: r => if 1000000 ≤ last + n then none else (sumsUp (last + n) r).map ((last + n) :: ·)
theorem sumsUp_diffs : ∀ (l : List Int) (p : Int), (∀ x ∈ l, x ≤ 999999) → sumsUp p (diffs p l) = some l := by
  intro l
  induction l with
  | nil => intro p _; rfl
  | cons n r ih =>
    intro p h
    have e : p + (n - p) = n := by omega
    have := h n List.mem_cons_self
    simp only [diffs, sumsUp, e]
    rw [if_neg (by omega), ih n (fun x hx => h x (List.mem_cons_of_mem _ hx))]
    rfl
def gapsSum : Option (List Int) → List Int × Nat
  | none => ([], 1)
  | some l => (l, 0)
/-- what gaps.Read makes of the numbers that were read -/
def gapsOf (all : List Int) : List Int × Nat :=
  if all.length = 0 then ([], 5) else if 31 < all.length then ([], 4) else if at0 all 0 ≠ all.length then ([], 3) else gapsSum (sumsUp (-1) (all.drop 1))
def readGaps (bits : List Int) : List Int × Nat := if (ReadDelta bits).2 ≠ 0 then ([], (ReadDelta bits).2) else gapsOf (ReadDelta bits).1

theorem mem_at0 {l : List Int} {x : Int} (h : x ∈ l) : ∃ k, k < l.length ∧ at0 l k = x := by
  obtain ⟨k, hk, rfl⟩ := List.mem_iff_getElem.1 h
  exact ⟨k, hk, at0_lt hk⟩
theorem gapsOf_nums {l : List Int} (h : GapsOk l) : gapsOf (nums l) = (l, 0) := by
  have hl := h.len
  have hn : (nums l).length = l.length + 1 := by simp [nums, diffs_length]
  unfold gapsOf
  rw [if_neg (by omega), if_neg (by omega), if_neg (by rw [hn]; simp [nums, at0])]
  show gapsSum (sumsUp (-1) (diffs (-1) l)) = _
  rw [sumsUp_diffs l (-1) (fun x hx => by
    obtain ⟨k, hk, rfl⟩ := mem_at0 hx
    exact (gAt_zero (h.all k hk)).2.1)]
  rfl
theorem readD_writeG {l : List Int} (h : GapsOk l) (hs : (writeG l).length ≤ 600) : ReadDelta (writeG l) = (nums l, 0) := by
  have hc := chk_deltas (l := nums l) hs
  unfold writeG ReadDelta
  rw [hc, readD_deltas _ (nums_in h)]; rfl
theorem readGaps_write {l : List Int} (h : GapsOk l) (hs : (writeG l).length ≤ 600) : readGaps (writeG l) = (l, 0) := by
  unfold readGaps
  rw [readD_writeG h hs]
  simp only [ne_eq, not_true_eq_false, if_false]
  exact gapsOf_nums h

end Go.Proofs.Ytnnhidbnjlpjiaa.El
