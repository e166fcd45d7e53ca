/- A walk that goes as deep as it can: plain. Conditions: in each statement. -/
import Derived.Test.YtmkdkjdbmnocoaaPartsP
namespace Go.Proofs.Ytmkdkjdbmnocoaa.Gr

/-- where a deep walk stands -/
structure DSt where
  met : List Int
  left : List Int
  frm : List Int
  now : Nat
  seen : Nat

def DSt.enter (s : DSt) (i : Nat) (b : Int) : DSt := ⟨s.met.set i s.now, s.left, s.frm.set i b, s.now + 1, s.seen ||| 2 ^ i⟩
def DSt.leave (s : DSt) (i : Nat) : DSt := ⟨s.met, s.left.set i s.now, s.frm, s.now + 1, s.seen⟩
def visitStep (v : Nat → Int → DSt → DSt) (i : Nat) (s : DSt) (x : Nat) : DSt := if s.seen.testBit x = true then s else v x i s
def visit (O : List Nat) : Nat → Nat → Int → DSt → DSt
  | 0, _, _, s => s
  | f + 1, i, b, s => (((elems (O[i]?.getD 0)).map (·.val)).foldl (visitStep (visit O f) i) (s.enter i b)).leave i
def rootStep (O : List Nat) (n : Nat) (s : DSt) (i : Nat) : DSt := if s.seen.testBit i = true then s else visit O n i (-1) s
def deep0 (n : Nat) : DSt := ⟨List.replicate n 0, List.replicate n 0, List.replicate n 0, 0, 0⟩
def deepUp (O : List Nat) (n k : Nat) : DSt := (List.range k).foldl (rootStep O n) (deep0 n)
def deepWalk (O : List Nat) (n : Nat) : DSt := deepUp O n n

/-- how many points a set has -/
def cnt (s : Nat) : Nat := (elems s).length
theorem cnt_with {s i : Nat} (hi : i < 8) (h : s.testBit i = false) : cnt (s ||| 2 ^ i) = cnt s + 1 := by
  have e : elems (s ||| 2 ^ i) = (List.finRange 8).filter fun j => s.testBit j.val || decide (j = (⟨i, hi⟩ : Pt)) := by
    unfold elems
    apply List.filter_congr
    intro j _
    rw [Nat.testBit_or, Nat.testBit_two_pow]
    congr 1
    by_cases hj : i = j.val
    · rw [decide_eq_true hj, decide_eq_true (Fin.ext hj.symm)]
    · rw [decide_eq_false hj, decide_eq_false (fun e => hj (by rw [e]))]
  unfold cnt
  rw [e, filter_two _ _ _ (by rintro a _ ⟨h1, h2⟩; have := of_decide_eq_true h2; subst this; simp only at h1; rw [h] at h1; cases h1)]
  have : ∀ a : Pt, ((List.finRange 8).filter fun j => decide (j = a)).length = 1 := by decide
  rw [this]; rfl
theorem cnt_mono {s t : Nat} (h : ∀ x, s.testBit x = true → t.testBit x = true) : cnt s ≤ cnt t := by
  unfold cnt elems
  rw [← List.countP_eq_length_filter, ← List.countP_eq_length_filter]
  exact List.countP_mono_left fun a _ => h a.val
theorem cnt_le {s n : Nat} (hn : n ≤ 8) (h : ∀ x, s.testBit x = true → x < n) : cnt s ≤ n := by
  have : elems s = upto s n := (upto_all s n fun i h1 _ => by
    cases hb : s.testBit i with
    | false => rfl
    | true => have := h i hb; omega).symm
  unfold cnt
  rw [this]
  exact upto_le s n hn
theorem cnt_all {s n : Nat} (hn : n ≤ 8) (h : ∀ x, s.testBit x = true → x < n) (k : ∀ x, x < n → s.testBit x = true) : cnt s = n := by
  have e : s = 2 ^ n - 1 := Nat.eq_of_testBit_eq fun i => by
    rw [Bool.eq_iff_iff, below_bit]; exact ⟨h i, k i⟩
  rw [e]
  have : ∀ m : Fin 9, cnt (2 ^ m.val - 1) = m.val := by decide
  exact this ⟨n, by omega⟩

structure DOk (n : Nat) (s : DSt) (k : Nat) : Prop where
  lm : s.met.length = n
  ll : s.left.length = n
  lf : s.frm.length = n
  bits : ∀ x, s.seen.testBit x = true → x < n
  time : s.now + k = 2 * cnt s.seen

def New (s s' : DSt) (x : Nat) : Prop := s'.seen.testBit x = true ∧ s.seen.testBit x = false
/-- y was met and left within x -/
def Within (s : DSt) (x y : Nat) : Prop := at1 s.met x < at1 s.met y ∧ at1 s.left y < at1 s.left x
def Apart (s : DSt) (x y : Nat) : Prop := at1 s.left x < at1 s.met y ∨ at1 s.left y < at1 s.met x

/-- what some visits, each of them ended, have done -/
structure Eff (O : List Nat) (R : Nat → Int → Prop) (s s' : DSt) : Prop where
  mono : ∀ x, s.seen.testBit x = true → s'.seen.testBit x = true
  same : ∀ x, ¬ New s s' x → at1 s'.met x = at1 s.met x ∧ at1 s'.left x = at1 s.left x ∧ at1 s'.frm x = at1 s.frm x
  later : s.now ≤ s'.now
  times : ∀ x, New s s' x → (s.now : Int) ≤ at1 s'.met x ∧ at1 s'.met x < at1 s'.left x ∧ at1 s'.left x < s'.now
  nest : ∀ x y, New s s' x → New s s' y → x ≠ y → Apart s' x y ∨ Within s' x y ∨ Within s' y x
  full : ∀ x, New s s' x → ∀ y, adjS O x y → s'.seen.testBit y = true
  line : ∀ x y, New s s' x → New s s' y → adjS O x y → x ≠ y → Within s' x y ∨ Within s' y x
  tree : ∀ x, New s s' x → (R x (at1 s'.frm x) ∧ ∀ z, New s s' z → ¬ Within s' z x) ∨ ∃ c : Nat, New s s' c ∧ at1 s'.frm x = (c : Int) ∧ adjS O c x ∧ Within s' c x ∧ ∀ z, New s s' z → Within s' z x → z = c ∨ Within s' z c

theorem Eff.refl (O : List Nat) (R : Nat → Int → Prop) (s : DSt) : Eff O R s s := by
  have h : ∀ x, ¬ New s s x := by rintro x ⟨h1, h2⟩; rw [h1] at h2; cases h2
  exact ⟨fun _ h => h, fun _ _ => ⟨rfl, rfl, rfl⟩, Nat.le_refl _, fun x hx => (h x hx).elim, fun x _ hx => (h x hx).elim, fun x hx => (h x hx).elim, fun x _ hx => (h x hx).elim, fun x hx => (h x hx).elim⟩

theorem new_split {s s1 s2 : DSt} {x : Nat} (h : New s s2 x) (_ : ∀ x, s.seen.testBit x = true → s1.seen.testBit x = true) : (New s s1 x ∧ s1.seen.testBit x = true) ∨ (New s1 s2 x ∧ s1.seen.testBit x = false) := by
  cases h1 : s1.seen.testBit x with
  | true => exact .inl ⟨⟨h1, h.2⟩, rfl⟩
  | false => exact .inr ⟨⟨h.1, h1⟩, rfl⟩
theorem not_new {s s' : DSt} {x : Nat} (h : s.seen.testBit x = true) : ¬ New s s' x := by rintro ⟨_, h2⟩; rw [h] at h2; cases h2

theorem Eff.trans {O : List Nat} {R : Nat → Int → Prop} {s s1 s2 : DSt} (hs : Symm O) (h : Eff O R s s1) (k : Eff O R s1 s2) : Eff O R s s2 := by
  have up : ∀ x, New s s1 x → New s s2 x := fun x hx => ⟨k.mono x hx.1, hx.2⟩
  have up2 : ∀ x, New s1 s2 x → New s s2 x := fun x hx => ⟨hx.1, by
    cases hb : s.seen.testBit x with
    | false => rfl
    | true => exact absurd (h.mono x hb) (by rw [hx.2]; simp)⟩
  have old : ∀ x, s1.seen.testBit x = true → at1 s2.met x = at1 s1.met x ∧ at1 s2.left x = at1 s1.left x ∧ at1 s2.frm x = at1 s1.frm x := fun x hx => k.same x (not_new hx)
  have hl := h.later
  have kl := k.later
  refine ⟨fun x hx => k.mono x (h.mono x hx), ?_, Nat.le_trans hl kl, ?_, ?_, ?_, ?_, ?_⟩
  · intro x hx
    have h1 : ¬ New s s1 x := fun e => hx (up x e)
    have h2 : ¬ New s1 s2 x := fun e => hx (up2 x e)
    obtain ⟨a1, a2, a3⟩ := h.same x h1
    obtain ⟨b1, b2, b3⟩ := k.same x h2
    exact ⟨b1.trans a1, b2.trans a2, b3.trans a3⟩
  · intro x hx
    rcases new_split hx h.mono with ⟨h1, h2⟩ | ⟨h1, h2⟩
    · obtain ⟨e1, e2, _⟩ := old x h2
      have := h.times x h1
      omega
    · have := k.times x h1
      omega
  · intro x y hx hy hne
    rcases new_split hx h.mono with ⟨h1, h2⟩ | ⟨h1, h2⟩ <;> rcases new_split hy h.mono with ⟨g1, g2⟩ | ⟨g1, g2⟩
    · obtain ⟨e1, e2, _⟩ := old x h2
      obtain ⟨f1, f2, _⟩ := old y g2
      have := h.nest x y h1 g1 hne
      unfold Apart Within at *
      omega
    · obtain ⟨e1, e2, _⟩ := old x h2
      have a := h.times x h1
      have b := k.times y g1
      left; unfold Apart; omega
    · obtain ⟨e1, e2, _⟩ := old y g2
      have a := h.times y g1
      have b := k.times x h1
      left; unfold Apart; omega
    · exact k.nest x y h1 g1 hne
  · intro x hx y hxy
    rcases new_split hx h.mono with ⟨h1, h2⟩ | ⟨h1, h2⟩
    · exact k.mono y (h.full x h1 y hxy)
    · exact k.full x h1 y hxy
  · intro x y hx hy hxy hne
    rcases new_split hx h.mono with ⟨h1, h2⟩ | ⟨h1, h2⟩ <;> rcases new_split hy h.mono with ⟨g1, g2⟩ | ⟨g1, g2⟩
    · obtain ⟨e1, e2, _⟩ := old x h2
      obtain ⟨f1, f2, _⟩ := old y g2
      have := h.line x y h1 g1 hxy hne
      unfold Within at *
      omega
    · have := h.full x h1 y hxy
      rw [g2] at this; cases this
    · have := h.full y g1 x (hs _ _ hxy)
      rw [h2] at this; cases this
    · exact k.line x y h1 g1 hxy hne
  · intro x hx
    rcases new_split hx h.mono with ⟨h1, h2⟩ | ⟨h1, h2⟩
    · obtain ⟨e1, e2, e3⟩ := old x h2
      have tx := h.times x h1
      have zz : ∀ z, New s s2 z → Within s2 z x → New s s1 z ∧ Within s1 z x := by
        intro z hz hw
        rcases new_split hz h.mono with ⟨g1, g2⟩ | ⟨g1, g2⟩
        · obtain ⟨f1, f2, f3⟩ := old z g2
          refine ⟨g1, ?_⟩
          unfold Within at *; omega
        · have := k.times z g1
          unfold Within at hw; omega
      rcases h.tree x h1 with ⟨h3, h4⟩ | ⟨c, c1, c2, c3, c4, c5⟩
      · left; rw [e3]; exact ⟨h3, fun z hz hw => h4 z (zz z hz hw).1 (zz z hz hw).2⟩
      · right
        obtain ⟨f1, f2, f3⟩ := old c c1.1
        refine ⟨c, up c c1, by rw [e3]; exact c2, c3, by unfold Within at *; omega, fun z hz hw => ?_⟩
        obtain ⟨g1, g2⟩ := zz z hz hw
        obtain ⟨d1, d2, d3⟩ := old z g1.1
        rcases c5 z g1 g2 with h5 | h5
        · exact .inl h5
        · right; unfold Within at *; omega
    · have tx := k.times x h1
      have zz : ∀ z, New s s2 z → Within s2 z x → New s1 s2 z := by
        intro z hz hw
        rcases new_split hz h.mono with ⟨g1, g2⟩ | ⟨g1, g2⟩
        · obtain ⟨f1, f2, f3⟩ := old z g2
          have := h.times z g1
          unfold Within at hw; omega
        · exact g1
      rcases k.tree x h1 with ⟨h3, h4⟩ | ⟨c, c1, c2, c3, c4, c5⟩
      · exact .inl ⟨h3, fun z hz hw => h4 z (zz z hz hw) hw⟩
      · exact .inr ⟨c, up2 c c1, c2, c3, c4, fun z hz hw => c5 z (zz z hz hw) hw⟩

theorem bit_with {s i x : Nat} : (s ||| 2 ^ i).testBit x = true ↔ s.testBit x = true ∨ x = i := by
  rw [Nat.testBit_or, Nat.testBit_two_pow, Bool.or_eq_true, decide_eq_true_eq, @eq_comm _ i x]

theorem enter_ok {n i k : Nat} {s : DSt} {b : Int} (hn : n ≤ 8) (h : DOk n s k) (hi : i < n) (hu : s.seen.testBit i = false) : DOk n (s.enter i b) (k + 1) := by
  refine ⟨by simp [DSt.enter, h.lm], h.ll, by simp [DSt.enter, h.lf], ?_, ?_⟩
  · intro x hx
    rcases bit_with.1 hx with h1 | rfl
    · exact h.bits x h1
    · exact hi
  · have := h.time
    show s.now + 1 + (k + 1) = 2 * cnt (s.seen ||| 2 ^ i)
    rw [cnt_with (by omega) hu]; omega
theorem leave_ok {n i k : Nat} {s : DSt} (h : DOk n s (k + 1)) : DOk n (s.leave i) k :=
  ⟨h.lm, by simp [DSt.leave, h.ll], h.lf, h.bits, by have := h.time; show s.now + 1 + k = 2 * cnt s.seen; omega⟩

theorem DOk.room {n i k : Nat} {s : DSt} (hn : n ≤ 8) (h : DOk n s k) (hi : i < n) (hu : s.seen.testBit i = false) : cnt s.seen + 1 ≤ n := by
  have := (enter_ok (b := 0) hn h hi hu)
  have h2 := cnt_le hn this.bits
  have : cnt (s.enter i 0).seen = cnt s.seen + 1 := cnt_with (by omega) hu
  omega

theorem visit_eff {O : List Nat} {n : Nat} (hn : n ≤ 8) (hO : Bounded n O) (hs : Symm O) : ∀ (f i : Nat) (b : Int) (s : DSt) (k : Nat) (R : Nat → Int → Prop), DOk n s k → i < n → s.seen.testBit i = false → n ≤ cnt s.seen + f → R i b →
    DOk n (visit O f i b s) k ∧ Eff O R s (visit O f i b s) ∧ New s (visit O f i b s) i := by
  intro f
  induction f with
  | zero => intro i b s k R h hi hu hf _; have := h.room hn hi hu; omega
  | succ f ih =>
    intro i b s k R h hi hu hf hR
    have fold : ∀ (xs : List Nat), (∀ x ∈ xs, adjS O i x) → ∀ (s : DSt) (k : Nat), DOk n s k → n ≤ cnt s.seen + f →
        DOk n (xs.foldl (visitStep (visit O f) i) s) k ∧ Eff O (fun x b => b = (i : Int) ∧ adjS O i x) s (xs.foldl (visitStep (visit O f) i) s) ∧ ∀ x ∈ xs, (xs.foldl (visitStep (visit O f) i) s).seen.testBit x = true := by
      intro xs
      induction xs with
      | nil => intro _ s k h _; exact ⟨h, Eff.refl _ _ _, by simp⟩
      | cons x xs ihx =>
        intro hx s k h hf
        have hxn := (hO _ _ (hx x List.mem_cons_self)).2
        have step : DOk n (visitStep (visit O f) i s x) k ∧ Eff O (fun x b => b = (i : Int) ∧ adjS O i x) s (visitStep (visit O f) i s x) ∧ (visitStep (visit O f) i s x).seen.testBit x = true := by
          unfold visitStep
          cases hb : s.seen.testBit x with
          | true => rw [if_pos rfl]; exact ⟨h, Eff.refl _ _ _, hb⟩
          | false =>
            rw [if_neg (by simp)]
            obtain ⟨h1, h2, h3⟩ := ih x i s k (fun x b => b = (i : Int) ∧ adjS O i x) h hxn hb hf ⟨rfl, hx x List.mem_cons_self⟩
            exact ⟨h1, h2, h3.1⟩
        obtain ⟨h1, h2, h3⟩ := step
        have hc := cnt_mono h2.mono
        obtain ⟨g1, g2, g3⟩ := ihx (fun y hy => hx y (List.mem_cons_of_mem _ hy)) _ k h1 (by omega)
        rw [List.foldl_cons]
        refine ⟨g1, Eff.trans hs h2 g2, fun y hy => ?_⟩
        rcases List.mem_cons.1 hy with rfl | hy
        · exact g2.mono _ h3
        · exact g3 y hy
    have he := enter_ok (b := b) hn h hi hu
    have hc : cnt (s.enter i b).seen = cnt s.seen + 1 := cnt_with (by omega) hu
    have hmem : ∀ x, x ∈ (elems (O[i]?.getD 0)).map (·.val) → adjS O i x := by
      intro x hx
      obtain ⟨p, hp, rfl⟩ := List.mem_map.1 hx
      exact mem_elems.1 hp
    obtain ⟨h1, h2, h3⟩ := fold _ hmem (s.enter i b) (k + 1) he (by omega)
    show DOk n ((((elems (O[i]?.getD 0)).map (·.val)).foldl (visitStep (visit O f) i) (s.enter i b)).leave i) k ∧ Eff O R s ((((elems (O[i]?.getD 0)).map (·.val)).foldl (visitStep (visit O f) i) (s.enter i b)).leave i) ∧ New s ((((elems (O[i]?.getD 0)).map (·.val)).foldl (visitStep (visit O f) i) (s.enter i b)).leave i) i
    have hall : ∀ y, adjS O i y → (((elems (O[i]?.getD 0)).map (·.val)).foldl (visitStep (visit O f) i) (s.enter i b)).seen.testBit y = true := by
      intro y hy
      refine h3 y (List.mem_map.2 ⟨⟨y, by have := (hO _ _ hy).2; omega⟩, mem_elems.2 hy, rfl⟩)
    generalize ((elems (O[i]?.getD 0)).map (·.val)).foldl (visitStep (visit O f) i) (s.enter i b) = s1 at *
    clear fold ih h3 hmem
    have hie : (s.enter i b).seen.testBit i = true := bit_with.2 (.inr rfl)
    obtain ⟨i1, i2, i3⟩ := h2.same i (not_new hie)
    have hlm : i < s.met.length := by rw [h.lm]; exact hi
    have hlf : i < s.frm.length := by rw [h.lf]; exact hi
    have hll : i < s1.left.length := by rw [h1.ll]; exact hi
    have m1 : ∀ x, at1 (s.enter i b).met x = if x = i then (s.now : Int) else at1 s.met x := fun x => at1_set hlm
    have m2 : ∀ x, at1 (s.enter i b).frm x = if x = i then b else at1 s.frm x := fun x => at1_set hlf
    have m3 : ∀ x, at1 (s1.leave i).left x = if x = i then (s1.now : Int) else at1 s1.left x := fun x => at1_set hll
    have m4 : ∀ x, at1 (s1.leave i).met x = at1 s1.met x := fun _ => rfl
    have m5 : ∀ x, at1 (s1.leave i).frm x = at1 s1.frm x := fun _ => rfl
    have m6 : ∀ x, at1 (s.enter i b).left x = at1 s.left x := fun _ => rfl
    have ln : (s1.leave i).now = s1.now + 1 := rfl
    have en : (s.enter i b).now = s.now + 1 := rfl
    have hle := h2.later
    rw [en] at hle
    rw [m1, if_pos rfl] at i1
    rw [m2, if_pos rfl] at i3
    have a1 : at1 (s1.leave i).met i = s.now := by rw [m4]; exact i1
    have a2 : at1 (s1.leave i).left i = s1.now := by rw [m3, if_pos rfl]
    have a3 : at1 (s1.leave i).frm i = b := by rw [m5]; exact i3
    have hin : New s (s1.leave i) i := ⟨h2.mono i hie, hu⟩
    have split : ∀ x, New s (s1.leave i) x → x = i ∨ (x ≠ i ∧ New (s.enter i b) s1 x) := by
      rintro x ⟨hx1, hx2⟩
      by_cases e : x = i
      · exact .inl e
      · refine .inr ⟨e, hx1, ?_⟩
        cases hb : (s.enter i b).seen.testBit x with
        | false => rfl
        | true => rcases bit_with.1 hb with h4 | h4
                  · rw [h4] at hx2; cases hx2
                  · exact absurd h4 e
    have join : ∀ x, New (s.enter i b) s1 x → x ≠ i ∧ New s (s1.leave i) x := by
      rintro x ⟨hx1, hx2⟩
      have hb : ¬ (s.seen.testBit x = true ∨ x = i) := by intro hh; have := bit_with.2 hh; rw [show (s.enter i b).seen = s.seen ||| 2 ^ i from rfl, this] at hx2; cases hx2
      refine ⟨fun e => hb (.inr e), hx1, ?_⟩
      cases hh : s.seen.testBit x with
      | false => rfl
      | true => exact absurd (.inl hh) hb
    have wi : ∀ y, y ≠ i → New (s.enter i b) s1 y → Within (s1.leave i) i y := by
      intro y hy hny
      have := h2.times y hny
      rw [en] at this
      unfold Within
      rw [a1, a2, m4, m3, if_neg hy]
      omega
    refine ⟨leave_ok h1, ⟨?_, ?_, ?_, ?_, ?_, ?_, ?_, ?_⟩, hin⟩
    · intro x hx; exact h2.mono x (bit_with.2 (.inl hx))
    · intro x hx
      have hxi : x ≠ i := fun e => hx (e ▸ hin)
      have hxn : ¬ New (s.enter i b) s1 x := fun e => hx (join x e).2
      obtain ⟨e1, e2, e3⟩ := h2.same x hxn
      rw [m1, if_neg hxi] at e1
      rw [m2, if_neg hxi] at e3
      exact ⟨e1, by rw [m3, if_neg hxi]; exact e2, e3⟩
    · show s.now ≤ s1.now + 1; omega
    · intro x hx
      rcases split x hx with rfl | ⟨hxi, hxn⟩
      · rw [a1, a2, ln]; omega
      · have := h2.times x hxn
        rw [en] at this
        rw [m4, m3, if_neg hxi, ln]; omega
    · intro x y hx hy hne
      rcases split x hx with rfl | ⟨hxi, hxn⟩
      · rcases split y hy with rfl | ⟨hyi, hyn⟩
        · exact absurd rfl hne
        · exact .inr (.inl (wi y hyi hyn))
      · rcases split y hy with rfl | ⟨hyi, hyn⟩
        · exact .inr (.inr (wi x hxi hxn))
        · have := h2.nest x y hxn hyn hne
          unfold Apart Within at *
          rw [m4, m4, m3, m3, if_neg hxi, if_neg hyi]
          exact this
    · intro x hx y hxy
      rcases split x hx with rfl | ⟨hxi, hxn⟩
      · exact hall y hxy
      · exact h2.full x hxn y hxy
    · intro x y hx hy hxy hne
      rcases split x hx with rfl | ⟨hxi, hxn⟩
      · rcases split y hy with rfl | ⟨hyi, hyn⟩
        · exact absurd rfl hne
        · exact .inl (wi y hyi hyn)
      · rcases split y hy with rfl | ⟨hyi, hyn⟩
        · exact .inr (wi x hxi hxn)
        · have := h2.line x y hxn hyn hxy hne
          unfold Within at *
          rw [m4, m4, m3, m3, if_neg hxi, if_neg hyi]
          exact this
    · intro x hx
      rcases split x hx with rfl | ⟨hxi, hxn⟩
      · left; rw [a3]
        refine ⟨hR, fun z hz hw => ?_⟩
        rcases split z hz with rfl | ⟨hzi, hzn⟩
        · unfold Within at hw; omega
        · have := wi z hzi hzn
          unfold Within at this hw; omega
      · have low : ∀ z, z ≠ i → New (s.enter i b) s1 z → (Within (s1.leave i) z x ↔ Within s1 z x) := fun z hz _ => by
          unfold Within; rw [m4, m4, m3, m3, if_neg hz, if_neg hxi]
        right
        rcases h2.tree x hxn with ⟨⟨h4, h5⟩, h6⟩ | ⟨c, c1, c2, c3, c4, c5⟩
        · refine ⟨i, hin, h4, h5, wi x hxi hxn, fun z hz hw => ?_⟩
          rcases split z hz with rfl | ⟨hzi, hzn⟩
          · exact .inl rfl
          · exact absurd ((low z hzi hzn).1 hw) (h6 z hzn)
        · have hci := (join c c1).1
          refine ⟨c, (join c c1).2, c2, c3, ?_, fun z hz hw => ?_⟩
          · unfold Within at *
            rw [m4, m4, m3, m3, if_neg hxi, if_neg hci]
            exact c4
          · rcases split z hz with rfl | ⟨hzi, hzn⟩
            · exact .inr (wi c hci c1)
            · rcases c5 z hzn ((low z hzi hzn).1 hw) with h5 | h5
              · exact .inl h5
              · right
                unfold Within at *
                rw [m4, m4, m3, m3, if_neg hzi, if_neg hci]
                exact h5

/-- the points beside i, one behind the other -/
theorem fold_eff {O : List Nat} {n : Nat} (hn : n ≤ 8) (hO : Bounded n O) (hs : Symm O) (f i : Nat) : ∀ (xs : List Nat), (∀ x ∈ xs, adjS O i x) → ∀ (s : DSt) (k : Nat), DOk n s k → n ≤ cnt s.seen + f →
    DOk n (xs.foldl (visitStep (visit O f) i) s) k ∧ Eff O (fun x b => b = (i : Int) ∧ adjS O i x) s (xs.foldl (visitStep (visit O f) i) s) ∧ n ≤ cnt (xs.foldl (visitStep (visit O f) i) s).seen + f := by
  intro xs
  induction xs with
  | nil => intro _ s k h hf; exact ⟨h, Eff.refl _ _ _, hf⟩
  | cons x xs ihx =>
    intro hx s k h hf
    have hxn := (hO _ _ (hx x List.mem_cons_self)).2
    have step : DOk n (visitStep (visit O f) i s x) k ∧ Eff O (fun x b => b = (i : Int) ∧ adjS O i x) s (visitStep (visit O f) i s x) := by
      unfold visitStep
      cases hb : s.seen.testBit x with
      | true => rw [if_pos rfl]; exact ⟨h, Eff.refl _ _ _⟩
      | false =>
        rw [if_neg (by simp)]
        obtain ⟨h1, h2, h3⟩ := visit_eff hn hO hs f x i s k (fun x b => b = (i : Int) ∧ adjS O i x) h hxn hb hf ⟨rfl, hx x List.mem_cons_self⟩
        exact ⟨h1, h2⟩
    obtain ⟨h1, h2⟩ := step
    have hc := cnt_mono h2.mono
    obtain ⟨g1, g2, g3⟩ := ihx (fun y hy => hx y (List.mem_cons_of_mem _ hy)) _ k h1 (by omega)
    rw [List.foldl_cons]
    exact ⟨g1, Eff.trans hs h2 g2, g3⟩

theorem DOk.few {n k : Nat} {s : DSt} (hn : n ≤ 8) (h : DOk n s k) : s.now ≤ 16 ∧ s.seen < 256 := by
  have h1 := h.time
  have h2 := cnt_le hn h.bits
  refine ⟨by omega, ?_⟩
  have h3 : s.seen < 2 ^ 8 := Nat.lt_pow_two_of_testBit _ fun i hi => by
    cases hb : s.seen.testBit i with
    | false => rfl
    | true => have := h.bits i hb; omega
  exact h3

/-- two points hang together -/
def Conn (O : List Nat) (a b : Nat) : Prop := ∀ T : Nat → Prop, T a → (∀ u v, T u → adjS O u v → T v) → T b

theorem deepUp_eff {O : List Nat} {n : Nat} (hn : n ≤ 8) (hO : Bounded n O) (hs : Symm O) : ∀ k, k ≤ n → DOk n (deepUp O n k) 0 ∧ Eff O (fun x b => b = -1 ∧ ∀ y, Conn O x y → x ≤ y) (deep0 n) (deepUp O n k) ∧ ∀ x, x < k → (deepUp O n k).seen.testBit x = true := by
  intro k
  induction k with
  | zero => intro _; exact ⟨⟨by simp [deepUp, deep0], by simp [deepUp, deep0], by simp [deepUp, deep0], by simp [deepUp, deep0], show 0 + 0 = 2 * cnt 0 from by decide⟩, Eff.refl _ _ _, by simp⟩
  | succ k ih =>
    intro hk
    obtain ⟨h1, h2, h3⟩ := ih (by omega)
    have e : deepUp O n (k + 1) = rootStep O n (deepUp O n k) k := by unfold deepUp; rw [List.range_succ, List.foldl_append]; rfl
    rw [e]
    generalize deepUp O n k = s at *
    unfold rootStep
    cases hb : s.seen.testBit k with
    | true =>
      rw [if_pos rfl]
      refine ⟨h1, h2, fun x hx => ?_⟩
      by_cases hxk : x = k
      · subst hxk; exact hb
      · exact h3 x (by omega)
    | false =>
      rw [if_neg (by simp)]
      obtain ⟨g1, g2, g3⟩ := visit_eff hn hO hs n k (-1) s 0 (fun x b => b = -1 ∧ ∀ y, Conn O x y → x ≤ y) h1 (by omega) hb (by omega) ⟨rfl, fun y hy => by
        rcases Nat.lt_or_ge y k with hlt | hge
        · exfalso
          have hsy : s.seen.testBit y = false := hy (fun v => s.seen.testBit v = false) hb (fun u v hu huv => by
            cases hv : s.seen.testBit v with
            | false => rfl
            | true => have := h2.full v ⟨hv, by simp [deep0]⟩ u (hs _ _ huv); rw [hu] at this; cases this)
          rw [h3 y hlt] at hsy; cases hsy
        · exact hge⟩
      refine ⟨g1, Eff.trans hs h2 g2, fun x hx => ?_⟩
      by_cases hxk : x = k
      · subst hxk; exact g3.1
      · exact g2.mono x (h3 x (by omega))

/-- what a deep walk over all points says -/
structure IsDeep (O : List Nat) (n : Nat) (m l c : List Int) : Prop where
  lm : m.length = n
  ll : l.length = n
  lc : c.length = n
  times : ∀ x, x < n → 0 ≤ at1 m x ∧ at1 m x < at1 l x ∧ at1 l x < 2 * n
  nest : ∀ x y, x < n → y < n → x ≠ y → (at1 l x < at1 m y ∨ at1 l y < at1 m x) ∨ (at1 m x < at1 m y ∧ at1 l y < at1 l x) ∨ (at1 m y < at1 m x ∧ at1 l x < at1 l y)
  line : ∀ x y, adjS O x y → x ≠ y → (at1 m x < at1 m y ∧ at1 l y < at1 l x) ∨ (at1 m y < at1 m x ∧ at1 l x < at1 l y)
  tree : ∀ x, x < n → (at1 c x = -1 ∧ ∀ y, Conn O x y → x ≤ y) ∨ ∃ p : Nat, p < n ∧ at1 c x = (p : Int) ∧ adjS O p x ∧ at1 m p < at1 m x ∧ at1 l x < at1 l p
  near : ∀ x, x < n → (at1 c x = -1 → ∀ z, z < n → ¬ (at1 m z < at1 m x ∧ at1 l x < at1 l z)) ∧ (∀ p : Nat, at1 c x = (p : Int) → ∀ z, z < n → at1 m z < at1 m x ∧ at1 l x < at1 l z → z = p ∨ (at1 m z < at1 m p ∧ at1 l p < at1 l z))

theorem deepWalk_is {O : List Nat} {n : Nat} (hn : n ≤ 8) (hO : Bounded n O) (hs : Symm O) : IsDeep O n (deepWalk O n).met (deepWalk O n).left (deepWalk O n).frm := by
  obtain ⟨h1, h2, h3⟩ := deepUp_eff hn hO hs n (Nat.le_refl _)
  unfold deepWalk
  generalize deepUp O n n = s at *
  have hc := cnt_all hn h1.bits h3
  have ht := h1.time
  rw [hc] at ht
  have hnew : ∀ x, x < n → New (deep0 n) s x := fun x hx => ⟨h3 x hx, by simp [deep0]⟩
  refine ⟨h1.lm, h1.ll, h1.lf, fun x hx => ?_, fun x y hx hy hne => h2.nest x y (hnew x hx) (hnew y hy) hne, fun x y hxy hne => ?_, fun x hx => ?_, fun x hx => ?_⟩
  · have := h2.times x (hnew x hx)
    omega
  · obtain ⟨a, b⟩ := hO x y hxy
    exact h2.line x y (hnew x a) (hnew y b) hxy hne
  · rcases h2.tree x (hnew x hx) with ⟨h, _⟩ | ⟨p, p1, p2, p3, p4, _⟩
    · exact .inl h
    · exact .inr ⟨p, h1.bits p p1.1, p2, p3, p4.1, p4.2⟩
  · rcases h2.tree x (hnew x hx) with ⟨⟨h, _⟩, hz⟩ | ⟨p, p1, p2, p3, p4, p5⟩
    · exact ⟨fun _ z hzn hw => hz z (hnew z hzn) hw, fun p hp => by rw [h] at hp; omega⟩
    · refine ⟨fun hp => by rw [p2] at hp; omega, fun q hq z hzn hw => ?_⟩
      rw [p2] at hq
      have : q = p := by omega
      subst this
      exact p5 z (hnew z hzn) hw

end Go.Proofs.Ytmkdkjdbmnocoaa.Gr
