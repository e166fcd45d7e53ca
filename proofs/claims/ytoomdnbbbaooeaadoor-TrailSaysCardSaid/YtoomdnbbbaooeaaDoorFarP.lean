/- All distances at once: plain. Conditions: in each statement. -/
import Derived.Test.YtoomdnbbbaooeaaDoorRingP
namespace Go.Proofs.YtoomdnbbbaooeaaDoor.Gr

/-- b is so many steps from a -/
inductive Steps (O : List Nat) (a : Nat) : Nat → Nat → Prop
  | refl : Steps O a a 0
  | step {u v t : Nat} : Steps O a u t → adjS O u v → Steps O a v (t + 1)
theorem Steps.trans {O : List Nat} {a b c s t : Nat} (h : Steps O a b s) (k : Steps O b c t) : Steps O a c (s + t) := by
  induction k with
  | refl => exact h
  | step _ e ih => exact .step ih e

/-- a way from a to b whose inner points are below K -/
inductive Wk (O : List Nat) (K : Nat) : Nat → Nat → Nat → Prop
  | refl (a : Nat) : Wk O K a a 0
  | edge {a b : Nat} : adjS O a b → Wk O K a b 1
  | join {a c b s t : Nat} : Wk O K a c s → c < K → Wk O K c b t → Wk O K a b (s + t)

theorem wk_split {O : List Nat} {K a b L : Nat} (h : Wk O (K + 1) a b L) : (∃ l, l ≤ L ∧ Wk O K a b l) ∨ ∃ l1 l2, l1 + l2 ≤ L ∧ Wk O K a K l1 ∧ Wk O K K b l2 := by
  induction h with
  | refl a => exact .inl ⟨0, Nat.le_refl _, .refl a⟩
  | edge e => exact .inl ⟨1, Nat.le_refl _, .edge e⟩
  | @join a c b s t h1 hc h2 ih1 ih2 =>
    by_cases hck : c = K
    · subst hck
      right
      have g1 : ∃ l, l ≤ s ∧ Wk O c a c l := by
        rcases ih1 with ⟨l, hl, w⟩ | ⟨l1, l2, hl, w1, _⟩
        · exact ⟨l, hl, w⟩
        · exact ⟨l1, by omega, w1⟩
      have g2 : ∃ l, l ≤ t ∧ Wk O c c b l := by
        rcases ih2 with ⟨l, hl, w⟩ | ⟨l1, l2, hl, _, w2⟩
        · exact ⟨l, hl, w⟩
        · exact ⟨l2, by omega, w2⟩
      obtain ⟨x, hx, wx⟩ := g1
      obtain ⟨y, hy, wy⟩ := g2
      exact ⟨x, y, by omega, wx, wy⟩
    · have hcK : c < K := by omega
      rcases ih1 with ⟨l, hl, w⟩ | ⟨l1, l2, hl, w1, w2⟩ <;> rcases ih2 with ⟨r, hr, v⟩ | ⟨r1, r2, hr, v1, v2⟩
      · exact .inl ⟨l + r, by omega, .join w hcK v⟩
      · exact .inr ⟨l + r1, r2, by omega, .join w hcK v1, v2⟩
      · exact .inr ⟨l1, l2 + r, by omega, w1, .join w2 hcK v⟩
      · exact .inr ⟨l1, r2, by omega, w1, v2⟩

theorem steps_wk {O : List Nat} {n a b t : Nat} (hO : Bounded n O) (h : Steps O a b t) : Wk O n a b t := by
  induction h with
  | refl => exact .refl a
  | @step u v t _ e ih => exact .join ih (hO _ _ e).1 (.edge e)

def far0 (O : List Nat) (a b : Nat) : Int := if a = b then 0 else if (O[a]?.getD 0).testBit b = true then 1 else -1
def farF (O : List Nat) : Nat → Nat → Nat → Int
  | 0, a, b => far0 O a b
  | k + 1, a, b => if 0 ≤ farF O k a k ∧ 0 ≤ farF O k k b ∧ (farF O k a b < 0 ∨ farF O k a k + farF O k k b < farF O k a b) then farF O k a k + farF O k k b else farF O k a b

theorem far_diag (O : List Nat) : ∀ k a, farF O k a a = 0 := by
  intro k
  induction k with
  | zero => intro a; simp [farF, far0]
  | succ k ih =>
    intro a
    unfold farF
    rw [if_neg, ih]
    rw [ih]; omega
theorem far_col (O : List Nat) (k a : Nat) : farF O (k + 1) a k = farF O k a k := by
  rw [farF, if_neg]
  have := far_diag O k k
  omega
theorem far_row (O : List Nat) (k b : Nat) : farF O (k + 1) k b = farF O k k b := by
  rw [farF, if_neg]
  have := far_diag O k k
  omega
theorem far_bounds (O : List Nat) : ∀ k a b, -1 ≤ farF O k a b ∧ farF O k a b ≤ 2 ^ k := by
  intro k
  induction k with
  | zero =>
    intro a b
    unfold farF far0
    split
    · decide
    · split <;> decide
  | succ k ih =>
    intro a b
    have h1 := ih a k
    have h2 := ih k b
    have h3 := ih a b
    have : (2 : Int) ^ (k + 1) = 2 * 2 ^ k := by rw [Int.pow_succ]; omega
    have hp : (0 : Int) < 2 ^ k := by exact_mod_cast Nat.two_pow_pos k
    unfold farF
    split <;> omega
theorem far_small (O : List Nat) {k : Nat} (hk : k ≤ 8) (a b : Nat) : -1 ≤ farF O k a b ∧ farF O k a b ≤ 256 := by
  have h := far_bounds O k a b
  have : (2 : Int) ^ k ≤ 2 ^ 8 := by
    have := Nat.pow_le_pow_right (n := 2) (by omega) hk
    exact_mod_cast this
  omega
theorem far_sound {O : List Nat} : ∀ k a b, 0 ≤ farF O k a b → Steps O a b (farF O k a b).toNat := by
  intro k
  induction k with
  | zero =>
    intro a b h
    unfold farF far0 at h ⊢
    split
    · rename_i e; subst e; exact .refl
    · split
      · rename_i e; exact .step .refl e
      · rename_i e1 e2; rw [if_neg e1, if_neg e2] at h; omega
  | succ k ih =>
    intro a b h
    rw [farF] at h ⊢
    split
    · rename_i hc
      have h1 := ih a k hc.1
      have h2 := ih k b hc.2.1
      have := h1.trans h2
      have e : (farF O k a k + farF O k k b).toNat = (farF O k a k).toNat + (farF O k k b).toNat := by omega
      rw [e]; exact this
    · rename_i hc
      rw [if_neg hc] at h
      exact ih a b h
theorem far_full {O : List Nat} : ∀ k a b L, Wk O k a b L → 0 ≤ farF O k a b ∧ farF O k a b ≤ L := by
  intro k
  induction k with
  | zero =>
    intro a b L h
    have : ∀ {a b L}, Wk O 0 a b L → 0 ≤ farF O 0 a b ∧ farF O 0 a b ≤ L := by
      intro a b L h
      cases h with
      | refl a => unfold farF far0; rw [if_pos rfl]; omega
      | edge e =>
        unfold farF far0
        split
        · omega
        · rw [if_pos (show (O[a]?.getD 0).testBit b = true from e)]; omega
      | join _ hc _ => omega
    exact this h
  | succ k ih =>
    intro a b L h
    rw [farF]
    rcases wk_split h with ⟨l, hl, w⟩ | ⟨l1, l2, hl, w1, w2⟩
    · have := ih a b l w
      split <;> omega
    · have h1 := ih a k l1 w1
      have h2 := ih k b l2 w2
      split <;> omega

theorem dist_sound {O : List Nat} {n a : Nat} {D : List Int} (h : IsDist O n a D) : ∀ (t b : Nat), at1 D b = (t : Int) → Steps O a b t := by
  intro t
  induction t with
  | zero => intro b hb; rw [h.zero b hb]; exact .refl
  | succ t ih =>
    intro b hb
    obtain ⟨j, hj, hk⟩ := h.pre b (by omega)
    exact .step (ih j (by omega)) hj
theorem dist_full {O : List Nat} {n a : Nat} {D : List Int} (h : IsDist O n a D) {b t : Nat} (hs : Steps O a b t) : 0 ≤ at1 D b ∧ at1 D b ≤ t := by
  induction hs with
  | refl => rw [h.src]; omega
  | @step u v t _ e ih =>
    obtain ⟨h1, h2⟩ := ih
    have := h.edge u v e h1
    omega

/-- a row of all distances -/
def farRow (O : List Nat) (n k a : Nat) : List Int := (List.range n).map (farF O k a)
theorem farRow_at (O : List Nat) (n k a : Nat) {b : Nat} (hb : b < n) : at1 (farRow O n k a) b = farF O k a b := by simp [farRow, at1, hb]
theorem far_is {O : List Nat} {n a : Nat} {D : List Int} (hO : Bounded n O) (h : IsDist O n a D) : farRow O n n a = D := by
  refine List.ext_getElem? fun b => ?_
  by_cases hb : b < n
  · rw [at1_lt (d := D) (by rw [h.len]; exact hb)]
    have hlt : b < (farRow O n n a).length := by simp [farRow, hb]
    rw [at1_lt hlt, farRow_at _ _ _ _ hb]
    congr 1
    have hlo := h.lo b
    have hl := (far_bounds O n a b).1
    by_cases h1 : 0 ≤ farF O n a b
    · obtain ⟨g1, g2⟩ := dist_full h (far_sound n a b h1)
      obtain ⟨g3, g4⟩ := far_full n a b _ (steps_wk hO (dist_sound h (at1 D b).toNat b (by omega)))
      omega
    · by_cases h2 : 0 ≤ at1 D b
      · obtain ⟨g3, g4⟩ := far_full n a b _ (steps_wk hO (dist_sound h (at1 D b).toNat b (by omega)))
        omega
      · omega
  · rw [List.getElem?_eq_none (by simp [farRow]; omega), List.getElem?_eq_none (by rw [h.len]; omega)]

end Go.Proofs.YtoomdnbbbaooeaaDoor.Gr
