/- Plain laws of the codes: what is written is read, and what is read was written so. Conditions: in each statement. -/
import Derived.Test.YtnnhidbnjlpjiaaEliasP
namespace Go.Proofs.Ytnnhidbnjlpjiaa.El

theorem num_low : ∀ (k n a : Nat), n / 2 ^ k = a → n ≤ 1000000 → num (a : Int) (low n k) = some (n : Int) := by
  intro k
  induction k with
  | zero => intro n a h _; simp at h; subst h; simp [low, num]
  | succ k ih =>
    intro n a h hn
    have e : 2 * (a : Int) + ((n / 2 ^ k % 2 : Nat) : Int) = ((n / 2 ^ k : Nat) : Int) := by
      have h2 : n / 2 ^ k / 2 = a := by rw [Nat.div_div_eq_div_mul, ← Nat.pow_succ]; exact h
      omega
    have hle : n / 2 ^ k ≤ n := Nat.div_le_self _ _
    rw [low, num, e, if_neg (by omega)]
    exact ih n _ rfl hn

theorem low_num : ∀ (ys : List Int) (a : Nat) (r : Int), (∀ (j : Nat) (h : j < ys.length), 0 ≤ ys[j] ∧ ys[j] ≤ 1) → num (a : Int) ys = some r →
    ∃ n : Nat, r = (n : Int) ∧ low n ys.length = ys ∧ n / 2 ^ ys.length = a := by
  intro ys
  induction ys with
  | nil => intro a r _ h; simp [num] at h; exact ⟨a, h.symm, rfl, by simp⟩
  | cons b bs ih =>
    intro a r hb h
    have hb0 : 0 ≤ b ∧ b ≤ 1 := by have := hb 0 (by simp); simpa using this
    simp only [num] at h
    split at h
    · cases h
    · have e : 2 * (a : Int) + b = ((2 * a + b.toNat : Nat) : Int) := by omega
      rw [e] at h
      obtain ⟨n, h1, h2, h3⟩ := ih _ r (fun j hj => by have := hb (j + 1) (by simpa using hj); simpa using this) h
      refine ⟨n, h1, ?_, ?_⟩
      · rw [List.length_cons, low, h2, h3]
        have : ((2 * a + b.toNat) % 2 : Nat) = b.toNat := by omega
        rw [this]
        congr 1
        omega
      · rw [List.length_cons, Nat.pow_succ, ← Nat.div_div_eq_div_mul, h3]; omega

theorem div_log2 {n : Nat} (h : 1 ≤ n) : n / 2 ^ n.log2 = 1 := by
  have h1 := Nat.log2_self_le (show n ≠ 0 by omega)
  have h2 : n < 2 ^ (n.log2 + 1) := Nat.lt_log2_self
  rw [Nat.pow_succ] at h2
  exact Nat.div_eq_of_lt_le (by omega) (by omega)

theorem log2_of_div {n k : Nat} (h : n / 2 ^ k = 1) : n.log2 = k := by
  have hp : 0 < 2 ^ k := Nat.two_pow_pos k
  have h1 : 2 ^ k ≤ n := by
    rcases Nat.lt_or_ge n (2 ^ k) with h2 | h2
    · rw [Nat.div_eq_of_lt h2] at h; omega
    · exact h2
  have h2 : n < 2 ^ (k + 1) := by
    have := Nat.lt_mul_div_succ n hp
    rw [h] at this; rw [Nat.pow_succ]; omega
  have h3 := log2_le_of n k h2
  have h4 := (Nat.le_log2 (show n ≠ 0 by omega)).2 h1
  omega

theorem low_top {n k : Nat} (h : n / 2 ^ k = 1) : low n (k + 1) = 1 :: low n k := by
  rw [low, h]; rfl

theorem lead_replicate (k : Nat) (b : Int) (r : List Int) (hb : b ≠ 0) : lead (List.replicate k 0 ++ b :: r) = k := by
  induction k with
  | zero => simp [lead, hb]
  | succ k ih => simp [List.replicate_succ, lead, ih]

theorem rg_gamma {n : Nat} (h1 : 1 ≤ n) (h2 : n ≤ 1000000) (r : List Int) : rg (gamma n ++ r) = some ((n : Int), (gamma n).length) := by
  have hd := div_log2 h1
  have e : gamma n ++ r = List.replicate n.log2 0 ++ 1 :: (low n n.log2 ++ r) := by
    rw [gamma, low_top hd]; simp
  have hl : lead (gamma n ++ r) = n.log2 := by rw [e]; exact lead_replicate _ _ _ (by decide)
  have hlen := gamma_length n
  have hdrop : (gamma n ++ r).drop (n.log2 + 1) = low n n.log2 ++ r := by
    rw [e, List.drop_append, List.length_replicate, List.drop_eq_nil_of_le (by simp)]
    simp
  unfold rg
  rw [hl, if_neg (by rw [List.length_append, hlen]; omega), hdrop, numRes, if_neg (by rw [List.length_append, low_length]; omega)]
  rw [List.take_append_of_le_length (by rw [low_length]; omega), List.take_of_length_le (by rw [low_length]; omega)]
  have := num_low n.log2 n 1 hd h2
  rw [show ((1 : Nat) : Int) = 1 from rfl] at this
  rw [this, hlen]; rfl

theorem rd_delta {n : Nat} (h1 : 1 ≤ n) (h2 : n ≤ 1000000) (r : List Int) : rd (delta n ++ r) = some ((n : Int), (delta n).length) := by
  have hd := div_log2 h1
  have hlog : n.log2 ≤ 29 := log2_le_of n 29 (by omega)
  have e : delta n ++ r = gamma (n.log2 + 1) ++ (low n n.log2 ++ r) := by rw [delta, List.append_assoc]
  have hdrop : (gamma (n.log2 + 1) ++ (low n n.log2 ++ r)).drop (gamma (n.log2 + 1)).length = low n n.log2 ++ r := by simp
  have hk : (((n.log2 + 1 : Nat) : Int) - 1).toNat = n.log2 := by omega
  unfold rd
  rw [e, rg_gamma (by omega) (by omega)]
  simp only [hdrop, hk]
  rw [numRes, if_neg (by rw [List.length_append, low_length]; omega)]
  rw [List.take_append_of_le_length (by rw [low_length]; omega), List.take_of_length_le (by rw [low_length]; omega)]
  have := num_low n.log2 n 1 hd h2
  rw [show ((1 : Nat) : Int) = 1 from rfl] at this
  rw [this, delta_length, gamma_length]; rfl

theorem replicate_lead (xs : List Int) : xs.take (lead xs) = List.replicate (lead xs) 0 := by
  apply List.ext_getElem
  · have := lead_le xs; simp; omega
  · intro j h1 h2
    have hl := lead_le xs
    simp at h1 h2
    simp
    exact lead_zero xs j (by omega) h2

/-- what is read as a gamma code is one -/
theorem gamma_rg {xs : List Int} {n : Int} {m : Nat} (hb : ∀ (j : Nat) (h : j < xs.length), 0 ≤ xs[j] ∧ xs[j] ≤ 1) (h : rg xs = some (n, m)) :
    1 ≤ n ∧ n ≤ 1000000 ∧ gamma n.toNat = xs.take m := by
  have hge := rg_ge h hb
  have hle := rg_le h
  obtain ⟨hnum, hm, hlen⟩ := rg_num h
  have hL : lead xs < xs.length := by omega
  have hone : xs[lead xs] = 1 := by
    have h1 := lead_stop xs hL
    have h2 := hb _ hL
    omega
  have hlt : ((xs.drop (lead xs + 1)).take (lead xs)).length = lead xs := by simp; omega
  obtain ⟨k, hk, hlow, hdiv⟩ := low_num _ 1 n (fun j hj => by rw [List.getElem_take, List.getElem_drop]; exact hb _ _) hnum
  rw [hlt] at hlow hdiv
  have hlog := log2_of_div hdiv
  refine ⟨hge, hle, ?_⟩
  subst hk
  rw [Int.toNat_natCast, gamma, hlog, low_top hdiv, hlow, ← replicate_lead, hm]
  have e1 : xs.drop (lead xs) = 1 :: xs.drop (lead xs + 1) := by rw [List.drop_eq_getElem_cons hL, hone]
  have e2 : 2 * lead xs + 1 = lead xs + (lead xs + 1) := by omega
  rw [e2, List.take_add, e1]
  rfl

theorem delta_rd {xs : List Int} {n : Int} {m : Nat} (hb : ∀ (j : Nat) (h : j < xs.length), 0 ≤ xs[j] ∧ xs[j] ≤ 1) (h : rd xs = some (n, m)) :
    1 ≤ n ∧ n ≤ 1000000 ∧ delta n.toNat = xs.take m := by
  unfold rd at h
  split at h
  · cases h
  · rename_i kk m1 h1
    obtain ⟨g1, g2, g3⟩ := gamma_rg hb h1
    have hp := rg_pos h1
    obtain ⟨j, hj⟩ : ∃ j : Nat, kk = (j : Int) + 1 := ⟨(kk - 1).toNat, by omega⟩
    subst hj
    have ej : ((j : Int) + 1 - 1).toNat = j := by omega
    rw [ej] at h
    cases hN : numRes 1 (xs.drop m1) j with
    | none => rw [hN] at h; cases h
    | some a =>
      rw [hN] at h
      simp at h
      obtain ⟨rfl, rfl⟩ := h
      unfold numRes at hN
      split at hN
      · cases hN
      · rename_i hlen
        have hlt : ((xs.drop m1).take j).length = j := by simp at hlen ⊢; omega
        obtain ⟨k, hk, hlow, hdiv⟩ := low_num _ 1 a (fun i hi => by rw [List.getElem_take, List.getElem_drop]; exact hb _ _) hN
        rw [hlt] at hlow hdiv
        have hlog := log2_of_div hdiv
        have hk1 : 1 ≤ k := by
          rcases Nat.eq_zero_or_pos k with h0 | h0
          · subst h0; simp at hdiv
          · exact h0
        have hle := num_le _ 1 a (by omega) hN
        refine ⟨by omega, hle, ?_⟩
        subst hk
        rw [Int.toNat_natCast, delta, hlog, hlow]
        have e3 : ((j : Int) + 1).toNat = j + 1 := by omega
        rw [e3] at g3
        rw [g3, List.take_add]

/-- the codes of a list of numbers, one behind the other -/
def gammas (l : List Int) : List Int := l.flatMap fun n => gamma n.toNat
def deltas (l : List Int) : List Int := l.flatMap fun n => delta n.toNat

theorem gamma_ne (n : Nat) : gamma n ≠ [] := by
  intro e; have := gamma_length n; rw [e] at this; simp at this
theorem delta_ne (n : Nat) : delta n ≠ [] := by
  intro e; have := delta_length n; rw [e] at this; simp at this; omega

theorem readG_gammas (l : List Int) (h : ∀ n ∈ l, 1 ≤ n ∧ n ≤ 1000000) : readG (gammas l) = some l := by
  induction l with
  | nil => exact readG_nil
  | cons n l ih =>
    obtain ⟨h1, h2⟩ := h n List.mem_cons_self
    obtain ⟨k, rfl⟩ := Int.eq_ofNat_of_zero_le (show 0 ≤ n by omega)
    have e : gammas ((k : Int) :: l) = gamma k ++ gammas l := by simp [gammas]
    rw [e, readG_some (by simp [gamma_ne]) (rg_gamma (by omega) (by omega) _)]
    simp [ih (fun x hx => h x (List.mem_cons_of_mem _ hx))]

theorem readD_deltas (l : List Int) (h : ∀ n ∈ l, 1 ≤ n ∧ n ≤ 1000000) : readD (deltas l) = some l := by
  induction l with
  | nil => exact readD_nil
  | cons n l ih =>
    obtain ⟨h1, h2⟩ := h n List.mem_cons_self
    obtain ⟨k, rfl⟩ := Int.eq_ofNat_of_zero_le (show 0 ≤ n by omega)
    have e : deltas ((k : Int) :: l) = delta k ++ deltas l := by simp [deltas]
    rw [e, readD_some (by simp [delta_ne]) (rd_delta (by omega) (by omega) _)]
    simp [ih (fun x hx => h x (List.mem_cons_of_mem _ hx))]

theorem bits_drop' {xs : List Int} (h : ∀ (j : Nat) (hj : j < xs.length), 0 ≤ xs[j] ∧ xs[j] ≤ 1) (m : Nat) : ∀ (j : Nat) (hj : j < (xs.drop m).length), 0 ≤ (xs.drop m)[j] ∧ (xs.drop m)[j] ≤ 1 := by
  intro j hj
  rw [List.getElem_drop]
  exact h _ _

theorem gammas_readG : ∀ (n : Nat) (xs l : List Int), xs.length ≤ n → (∀ (j : Nat) (h : j < xs.length), 0 ≤ xs[j] ∧ xs[j] ≤ 1) → readG xs = some l → gammas l = xs ∧ ∀ x ∈ l, 1 ≤ x ∧ x ≤ 1000000 := by
  intro n
  induction n with
  | zero =>
    intro xs l hn _ h
    have : xs = [] := List.eq_nil_of_length_eq_zero (by omega)
    subst this
    rw [readG_nil] at h; cases h
    exact ⟨rfl, by simp⟩
  | succ n ih =>
    intro xs l hn hb h
    by_cases hx : xs = []
    · subst hx; rw [readG_nil] at h; cases h; exact ⟨rfl, by simp⟩
    · cases hrg : rg xs with
      | none => rw [readG_none hx hrg] at h; cases h
      | some p =>
        obtain ⟨a, m⟩ := p
        have hp := rg_pos hrg
        rw [readG_some hx hrg] at h
        cases hr : readG (xs.drop m) with
        | none => rw [hr] at h; cases h
        | some l' =>
          rw [hr] at h; simp at h; subst h
          obtain ⟨e1, e2⟩ := ih (xs.drop m) l' (by simp; omega) (bits_drop' hb m) hr
          obtain ⟨g1, g2, g3⟩ := gamma_rg hb hrg
          refine ⟨?_, fun x hxm => ?_⟩
          · have : gammas (a :: l') = gamma a.toNat ++ gammas l' := by simp [gammas]
            rw [this, g3, e1, List.take_append_drop]
          · rcases List.mem_cons.1 hxm with rfl | hxm
            · exact ⟨g1, g2⟩
            · exact e2 x hxm

theorem deltas_readD : ∀ (n : Nat) (xs l : List Int), xs.length ≤ n → (∀ (j : Nat) (h : j < xs.length), 0 ≤ xs[j] ∧ xs[j] ≤ 1) → readD xs = some l → deltas l = xs ∧ ∀ x ∈ l, 1 ≤ x ∧ x ≤ 1000000 := by
  intro n
  induction n with
  | zero =>
    intro xs l hn _ h
    have : xs = [] := List.eq_nil_of_length_eq_zero (by omega)
    subst this
    rw [readD_nil] at h; cases h
    exact ⟨rfl, by simp⟩
  | succ n ih =>
    intro xs l hn hb h
    by_cases hx : xs = []
    · subst hx; rw [readD_nil] at h; cases h; exact ⟨rfl, by simp⟩
    · cases hrg : rd xs with
      | none => rw [readD_none hx hrg] at h; cases h
      | some p =>
        obtain ⟨a, m⟩ := p
        have hp := rd_pos hrg
        rw [readD_some hx hrg] at h
        cases hr : readD (xs.drop m) with
        | none => rw [hr] at h; cases h
        | some l' =>
          rw [hr] at h; simp at h; subst h
          obtain ⟨e1, e2⟩ := ih (xs.drop m) l' (by simp; omega) (bits_drop' hb m) hr
          obtain ⟨g1, g2, g3⟩ := delta_rd hb hrg
          refine ⟨?_, fun x hxm => ?_⟩
          · have : deltas (a :: l') = delta a.toNat ++ deltas l' := by simp [deltas]
            rw [this, g3, e1, List.take_append_drop]
          · rcases List.mem_cons.1 hxm with rfl | hxm
            · exact ⟨g1, g2⟩
            · exact e2 x hxm

theorem gamma_apart {n m : Nat} (h1 : 1 ≤ n) (h2 : n ≤ 1000000) (h3 : 1 ≤ m) (h4 : m ≤ 1000000) (hne : n ≠ m) : gamma n ≠ (gamma m).take (gamma n).length := by
  intro e
  have e1 : gamma m = gamma n ++ (gamma m).drop (gamma n).length := by
    have h6 := List.take_append_drop (gamma n).length (gamma m)
    rw [← e] at h6; exact h6.symm
  have h5 := rg_gamma h3 h4 []
  rw [List.append_nil, e1, rg_gamma h1 h2] at h5
  simp at h5
  exact hne (by omega)

theorem delta_apart {n m : Nat} (h1 : 1 ≤ n) (h2 : n ≤ 1000000) (h3 : 1 ≤ m) (h4 : m ≤ 1000000) (hne : n ≠ m) : delta n ≠ (delta m).take (delta n).length := by
  intro e
  have e1 : delta m = delta n ++ (delta m).drop (delta n).length := by
    have h6 := List.take_append_drop (delta n).length (delta m)
    rw [← e] at h6; exact h6.symm
  have h5 := rd_delta h3 h4 []
  rw [List.append_nil, e1, rd_delta h1 h2] at h5
  simp at h5
  exact hne (by omega)

theorem bit01 (n k : Nat) : ∀ b ∈ low n k, 0 ≤ b ∧ b ≤ 1 := by
  induction k with
  | zero => simp [low]
  | succ k ih =>
    intro b hb
    rcases List.mem_cons.1 hb with rfl | hb
    · omega
    · exact ih b hb
theorem gamma01 (n : Nat) : ∀ b ∈ gamma n, 0 ≤ b ∧ b ≤ 1 := by
  intro b hb
  rw [gamma, List.mem_append] at hb
  rcases hb with hb | hb
  · have := List.eq_of_mem_replicate hb; omega
  · exact bit01 _ _ b hb
theorem delta01 (n : Nat) : ∀ b ∈ delta n, 0 ≤ b ∧ b ≤ 1 := by
  intro b hb
  rw [delta, List.mem_append] at hb
  rcases hb with hb | hb
  · exact gamma01 _ b hb
  · exact bit01 _ _ b hb
theorem chk_of {xs : List Int} (hl : xs.length ≤ 600) (h : ∀ b ∈ xs, 0 ≤ b ∧ b ≤ 1) : chk xs = 0 := by
  unfold chk
  rw [if_neg (by omega), if_pos]
  simp only [allIn, List.all_eq_true, decide_eq_true_eq]
  exact h
theorem chk_gammas {l : List Int} (hl : (gammas l).length ≤ 600) : chk (gammas l) = 0 := chk_of hl fun b hb => by
  obtain ⟨n, _, hb⟩ := List.mem_flatMap.1 hb
  exact gamma01 _ b hb
theorem chk_deltas {l : List Int} (hl : (deltas l).length ≤ 600) : chk (deltas l) = 0 := chk_of hl fun b hb => by
  obtain ⟨n, _, hb⟩ := List.mem_flatMap.1 hb
  exact delta01 _ b hb

end Go.Proofs.Ytnnhidbnjlpjiaa.El
