/- Plain functions on numbers and lists of bits that the program's package elias computes. Conditions: none. -/
import Derived.Test.YtlfinlfmlnclhaaDoorBase
namespace Go.Proofs.YtlfinlfmlnclhaaDoor.El

/-- the m low bits of n, the highest one first -/
def low : Nat → Nat → List Int
  | _, 0 => []
  | n, m + 1 => ((n / 2 ^ m % 2 : Nat) : Int) :: low n m

def gamma (n : Nat) : List Int := List.replicate n.log2 0 ++ low n (n.log2 + 1)
def delta (n : Nat) : List Int := gamma (n.log2 + 1) ++ low n n.log2

theorem low_length (n m : Nat) : (low n m).length = m := by
  induction m with
  | zero => rfl
  | succ m ih => simp [low, ih]

theorem gamma_length (n : Nat) : (gamma n).length = 2 * n.log2 + 1 := by simp [gamma, low_length]; omega
theorem delta_length (n : Nat) : (delta n).length = 2 * (n.log2 + 1).log2 + 1 + n.log2 := by simp [delta, gamma_length, low_length]

theorem log2_half (n : Nat) (h : 2 ≤ n) : n.log2 = (n / 2).log2 + 1 := by
  rw [Nat.log2_def]; simp [h]

theorem log2_le_of (n k : Nat) (h : n < 2 ^ (k + 1)) : n.log2 ≤ k := by
  by_cases h0 : n = 0
  · subst h0; simp
  · have := (Nat.log2_lt h0).2 h; omega


/-- a number out of its bits, none above 1000000 -/
def num (acc : Int) : List Int → Option Int
  | [] => some acc
  | b :: bs => if 1000000 < 2 * acc + b then none else num (2 * acc + b) bs

/-- what 'number' hands back -/
def numRes (acc : Int) (xs : List Int) (many : Nat) : Option Int := if xs.length < many then none else num acc (xs.take many)

/-- how many noughts a list begins with -/
def lead : List Int → Nat
  | [] => 0
  | b :: bs => if b = 0 then lead bs + 1 else 0

theorem lead_le (xs : List Int) : lead xs ≤ xs.length := by
  induction xs with
  | nil => simp [lead]
  | cons b bs ih => simp only [lead]; split <;> simp <;> omega

theorem lead_zero (xs : List Int) : ∀ (j : Nat) (h : j < xs.length), j < lead xs → xs[j] = 0 := by
  induction xs with
  | nil => intro j h; simp at h
  | cons b bs ih =>
    intro j h hj
    simp only [lead] at hj
    split at hj
    · cases j with
      | zero => simpa
      | succ j => simp; exact ih j (by simpa using h) (by omega)
    · omega

theorem lead_stop (xs : List Int) (h : lead xs < xs.length) : xs[lead xs] ≠ 0 := by
  induction xs with
  | nil => simp at h
  | cons b bs ih =>
    by_cases hb : b = 0
    · simp only [lead, hb, if_true] at h ⊢
      simp only [List.getElem_cons_succ]
      exact ih (by simpa using h)
    · simp only [lead, hb, if_false] at h ⊢
      simpa using hb

theorem lead_of (xs : List Int) (k : Nat) (h : k < xs.length) (h0 : ∀ j (hj : j < xs.length), j < k → xs[j] = 0) (h1 : xs[k] ≠ 0) : lead xs = k := by
  have h2 := lead_le xs
  rcases Nat.lt_trichotomy (lead xs) k with h3 | h3 | h3
  · exact absurd (h0 _ (by omega) h3) (lead_stop xs (by omega))
  · exact h3
  · exact absurd (lead_zero xs k h h3) h1

theorem lead_all (xs : List Int) (h0 : ∀ j (hj : j < xs.length), xs[j] = 0) : lead xs = xs.length := by
  have h2 := lead_le xs
  rcases Nat.lt_or_ge (lead xs) xs.length with h3 | h3
  · exact absurd (h0 _ h3) (lead_stop xs h3)
  · omega

/-- one gamma code at the head of a list of bits: the number, and how many bits it has -/
def rg (xs : List Int) : Option (Int × Nat) :=
  if lead xs = xs.length then none else (numRes 1 (xs.drop (lead xs + 1)) (lead xs)).map fun n => (n, 2 * lead xs + 1)


theorem rg_pos {xs : List Int} {n : Int} {m : Nat} (h : rg xs = some (n, m)) : 1 ≤ m ∧ m ≤ xs.length := by
  unfold rg at h
  split at h
  · cases h
  · rename_i hne
    have hle := lead_le xs
    cases hN : numRes 1 (xs.drop (lead xs + 1)) (lead xs) with
    | none => rw [hN] at h; cases h
    | some a =>
      rw [hN] at h; simp at h
      unfold numRes at hN
      split at hN
      · cases hN
      · rename_i h2; simp at h2; omega


theorem num_ge : ∀ (xs : List Int) (acc n : Int), 1 ≤ acc → (∀ (j : Nat) (h : j < xs.length), 0 ≤ xs[j]) → num acc xs = some n → 1 ≤ n := by
  intro xs
  induction xs with
  | nil => intro acc n h _ e; simp [num] at e; omega
  | cons b bs ih =>
    intro acc n h hb e
    have hb0 : 0 ≤ b := by have := hb 0 (by simp); simpa using this
    simp only [num] at e
    split at e
    · cases e
    · exact ih _ n (by omega) (fun j hj => by have := hb (j + 1) (by simpa using hj); simpa using this) e

theorem num_le : ∀ (xs : List Int) (acc n : Int), acc ≤ 1000000 → num acc xs = some n → n ≤ 1000000 := by
  intro xs
  induction xs with
  | nil => intro acc n h e; simp [num] at e; omega
  | cons b bs ih =>
    intro acc n h e
    simp only [num] at e
    split at e
    · cases e
    · exact ih _ n (by omega) e

theorem rg_num {xs : List Int} {n : Int} {m : Nat} (h : rg xs = some (n, m)) : num 1 ((xs.drop (lead xs + 1)).take (lead xs)) = some n ∧ m = 2 * lead xs + 1 ∧ m ≤ xs.length := by
  have hp := rg_pos h
  unfold rg at h
  split at h
  · cases h
  · cases hN : numRes 1 (xs.drop (lead xs + 1)) (lead xs) with
    | none => rw [hN] at h; cases h
    | some a =>
      rw [hN] at h; simp at h
      unfold numRes at hN
      split at hN
      · cases hN
      · exact ⟨by rw [hN, h.1], h.2.symm, hp.2⟩

theorem rg_ge {xs : List Int} {n : Int} {m : Nat} (h : rg xs = some (n, m)) (hb : ∀ (j : Nat) (hj : j < xs.length), 0 ≤ xs[j] ∧ xs[j] ≤ 1) : 1 ≤ n := by
  refine num_ge _ 1 n (by omega) (fun j hj => ?_) (rg_num h).1
  rw [List.getElem_take, List.getElem_drop]
  exact (hb _ _).1

theorem rg_le {xs : List Int} {n : Int} {m : Nat} (h : rg xs = some (n, m)) : n ≤ 1000000 := num_le _ 1 n (by omega) (rg_num h).1

/-- the numbers of which a list of bits is the gamma codes -/
def readG (xs : List Int) : Option (List Int) :=
  if _hx : xs = [] then some [] else
    match _h : rg xs with
    | none => none
    | some (n, m) => (readG (xs.drop m)).map (n :: ·)
termination_by xs.length
decreasing_by
  have := rg_pos _h
  simp; omega

theorem readG_nil : readG [] = some [] := by unfold readG; simp
theorem readG_none {xs : List Int} (hx : xs ≠ []) (h : rg xs = none) : readG xs = none := by
  unfold readG; rw [dif_neg hx]; split
  · rfl
  · rename_i h2; rw [h] at h2; cases h2
theorem readG_some {xs : List Int} {n : Int} {m : Nat} (hx : xs ≠ []) (h : rg xs = some (n, m)) : readG xs = (readG (xs.drop m)).map (n :: ·) := by
  rw [readG, dif_neg hx]; split
  · rename_i h2; rw [h] at h2; cases h2
  · rename_i h2; rw [h] at h2; cases h2; rfl

/-- one delta code at the head: the number, and how many bits it has -/
def rd (xs : List Int) : Option (Int × Nat) :=
  match rg xs with
  | none => none
  | some (k, m) => (numRes 1 (xs.drop m) (k - 1).toNat).map fun n => (n, m + (k - 1).toNat)

theorem rd_pos {xs : List Int} {n : Int} {m : Nat} (h : rd xs = some (n, m)) : 1 ≤ m ∧ m ≤ xs.length := by
  unfold rd at h
  split at h
  · cases h
  · rename_i k m1 h1
    have h2 := rg_pos h1
    cases hN : numRes 1 (xs.drop m1) (k - 1).toNat with
    | none => rw [hN] at h; cases h
    | some a =>
      rw [hN] at h; simp at h
      unfold numRes at hN
      split at hN
      · cases hN
      · rename_i h3; simp at h3; omega

/-- the numbers of which a list of bits is the delta codes -/
def readD (xs : List Int) : Option (List Int) :=
  if _hx : xs = [] then some [] else
    match _h : rd xs with
    | none => none
    | some (n, m) => (readD (xs.drop m)).map (n :: ·)
termination_by xs.length
decreasing_by
  have := rd_pos _h
  simp; omega

theorem readD_nil : readD [] = some [] := by unfold readD; simp
theorem readD_none {xs : List Int} (hx : xs ≠ []) (h : rd xs = none) : readD xs = none := by
  unfold readD; rw [dif_neg hx]; split
  · rfl
  · rename_i h2; rw [h] at h2; cases h2
theorem readD_some {xs : List Int} {n : Int} {m : Nat} (hx : xs ≠ []) (h : rd xs = some (n, m)) : readD xs = (readD (xs.drop m)).map (n :: ·) := by
  rw [readD, dif_neg hx]; split
  · rename_i h2; rw [h] at h2; cases h2
  · rename_i h2; rw [h] at h2; cases h2; rfl

/-- the error number of check -/
def chk (xs : List Int) : Nat := if 600 < xs.length then 4 else if allIn xs 0 1 then 0 else 1

/-- what is read, and the error's number -/
def outOf (e : Nat) (r : Option (List Int)) : List Int × Nat := if e ≠ 0 then ([], e) else match r with | none => ([], 2) | some l => (l, 0)
def ReadGamma (xs : List Int) : List Int × Nat := outOf (chk xs) (readG xs)
def ReadDelta (xs : List Int) : List Int × Nat := outOf (chk xs) (readD xs)

theorem chk_bits {xs : List Int} (h : chk xs = 0) : xs.length ≤ 600 ∧ ∀ (j : Nat) (hj : j < xs.length), 0 ≤ xs[j] ∧ xs[j] ≤ 1 := by
  unfold chk at h
  split at h
  · cases h
  · split at h
    · rename_i h1 h2
      refine ⟨by omega, fun j hj => ?_⟩
      simp only [allIn, List.all_eq_true] at h2
      simpa using h2 _ (List.getElem_mem hj)
    · cases h


theorem log2_mono {a b : Nat} (h : a ≤ b) : a.log2 ≤ b.log2 := by
  by_cases h0 : a = 0
  · subst h0; simp
  · exact (Nat.le_log2 (by omega)).2 (Nat.le_trans (Nat.log2_self_le h0) h)

theorem two_log2_le (k : Nat) (h : 5 ≤ k) : 2 * (k + 1).log2 ≤ k := by
  have h1 : 2 ^ (k + 1).log2 ≤ k + 1 := Nat.log2_self_le (by omega)
  have h2 : ∀ j, 3 ≤ j → 2 * j + 2 ≤ 2 ^ j := by
    intro j hj
    induction j with
    | zero => omega
    | succ j ih =>
      by_cases e : j = 2
      · subst e; decide
      · have := ih (by omega); rw [Nat.pow_succ]; omega
  rcases Nat.lt_or_ge (k + 1).log2 3 with h3 | h3
  · omega
  · have := h2 _ h3; omega

theorem log2_ge5 {n : Nat} (h : 32 ≤ n) : 5 ≤ n.log2 := by
  have := log2_mono h
  have e : (32 : Nat).log2 = 5 := by decide +kernel
  omega

theorem delta_le_gamma {n : Nat} (h : 32 ≤ n) : (delta n).length ≤ (gamma n).length := by
  have := two_log2_le _ (log2_ge5 h)
  rw [delta_length, gamma_length]; omega

theorem delta_ge (n : Nat) : n.log2 + 1 ≤ (delta n).length := by rw [delta_length]; omega
theorem gamma_mono {n m : Nat} (h : n ≤ m) : (gamma n).length ≤ (gamma m).length := by
  have := log2_mono h; rw [gamma_length, gamma_length]; omega
theorem delta_mono {n m : Nat} (h : n ≤ m) : (delta n).length ≤ (delta m).length := by
  have h1 := log2_mono h
  have h2 := log2_mono (show n.log2 + 1 ≤ m.log2 + 1 by omega)
  rw [delta_length, delta_length]; omega

end Go.Proofs.YtlfinlfmlnclhaaDoor.El
