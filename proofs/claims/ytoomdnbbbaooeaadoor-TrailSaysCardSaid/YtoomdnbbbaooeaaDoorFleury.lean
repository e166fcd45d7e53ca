/- A way over all lines goes on (Fleury): plain. Conditions: in each statement. -/
import Derived.Test.YtoomdnbbbaooeaaDoorJoined
import Derived.Test.YtoomdnbbbaooeaaDoorEnds
namespace Go.Proofs.YtoomdnbbbaooeaaDoor
open Gr

/-- a line joins two points -/
def LnOf (l : Ln) (i j : Nat) : Prop := (l.1 = (i : Int) ∧ l.2 = (j : Int)) ∨ (l.1 = (j : Int) ∧ l.2 = (i : Int))
def AdjL (L : List Ln) (i j : Nat) : Prop := ∃ l ∈ L, LnOf l i j
theorem LnOf.symm {l : Ln} {i j : Nat} (h : LnOf l i j) : LnOf l j i := h.elim .inr .inl
theorem AdjL.symm {L : List Ln} {i j : Nat} (h : AdjL L i j) : AdjL L j i := by obtain ⟨l, h1, h2⟩ := h; exact ⟨l, h1, h2.symm⟩
theorem adjL_iff {n : Nat} {L : List Ln} (hg : GoodG n L) (i j : Nat) : adjS (beside n L) i j ↔ AdjL L i j := by
  rw [adj_near hg]
  unfold near AdjL LnOf
  rw [Bool.or_eq_true, goes_iff, goes_iff]
  constructor
  · rintro (⟨l, h1, h2, h3⟩ | ⟨l, h1, h2, h3⟩)
    · exact ⟨l, h1, .inl ⟨h2, h3⟩⟩
    · exact ⟨l, h1, .inr ⟨h2, h3⟩⟩
  · rintro ⟨l, h1, (⟨h2, h3⟩ | ⟨h2, h3⟩)⟩
    · exact .inl ⟨l, h1, h2, h3⟩
    · exact .inr ⟨l, h1, h2, h3⟩
def ConnL (L : List Ln) (a b : Nat) : Prop := ∀ T : Nat → Prop, T a → (∀ u v, T u → AdjL L u v → T v) → T b
theorem connL_iff {n : Nat} {L : List Ln} (hg : GoodG n L) (a b : Nat) : Conn (beside n L) a b ↔ ConnL L a b :=
  ⟨fun h T h0 hT => h T h0 (fun u v hu huv => hT u v hu ((adjL_iff hg u v).1 huv)), fun h T h0 hT => h T h0 (fun u v hu huv => hT u v hu ((adjL_iff hg u v).2 huv))⟩
theorem ConnL.refl (L : List Ln) (a : Nat) : ConnL L a a := fun _ h _ => h
theorem ConnL.step {L : List Ln} {a b c : Nat} (h : ConnL L a b) (k : AdjL L b c) : ConnL L a c := fun T h0 hT => hT b c (h T h0 hT) k
theorem ConnL.trans {L : List Ln} {a b c : Nat} (h : ConnL L a b) (k : ConnL L b c) : ConnL L a c := fun T h0 hT => k T (h T h0 hT) hT
theorem ConnL.symm {L : List Ln} {a b : Nat} (h : ConnL L a b) : ConnL L b a :=
  h (fun x => ConnL L x a) (ConnL.refl _ _) (fun u v hu huv => fun T h0 hT => hu T (hT v u h0 huv.symm) hT)

/-- all lines hang together with a point -/
def JoinL (L : List Ln) (a : Nat) : Prop := ∀ l ∈ L, ConnL L a l.1.toNat
theorem joined_iff {n : Nat} {L : List Ln} (hg : GoodG n L) (a : Nat) : Joined n L a ↔ JoinL L a :=
  ⟨fun h l hl => (connL_iff hg _ _).1 (h l hl), fun h l hl => (connL_iff hg _ _).2 (h l hl)⟩

theorem AdjL.perm {L M : List Ln} (h : L.Perm M) {i j : Nat} (k : AdjL L i j) : AdjL M i j := by obtain ⟨l, h1, h2⟩ := k; exact ⟨l, h.mem_iff.1 h1, h2⟩
theorem ConnL.perm {L M : List Ln} (h : L.Perm M) {i j : Nat} (k : ConnL L i j) : ConnL M i j := fun T h0 hT => k T h0 (fun u v hu huv => hT u v hu (huv.perm h))
theorem JoinL.perm {L M : List Ln} (h : L.Perm M) {a : Nat} (k : JoinL L a) : JoinL M a := fun l hl => (k l (h.mem_iff.2 hl)).perm h
theorem degL_perm {L M : List Ln} (h : L.Perm M) (i : Nat) : degL L i = degL M i := (h.filter _).length_eq
theorem degL_cons (l : Ln) (L : List Ln) (i : Nat) : degL (l :: L) i = degL L i + (if ends1 i l then 1 else 0) := by
  unfold degL
  by_cases h : ends1 i l <;> simp [h]

/-- what is odd: the point where one is, and the one where it ends -/
def Par (n : Nat) (L : List Ln) (a t : Nat) : Prop := ∀ i, i < n → degL L i % 2 = ((if i = a then 1 else 0) + (if i = t then 1 else 0)) % 2

theorem Par.next {n : Nat} {L M : List Ln} {e : Ln} {a b t : Nat} (h : Par n L a t) (hp : L.Perm (e :: M)) (he : LnOf e a b) (hne : a ≠ b) : Par n M b t := by
  intro i hi
  have h1 := h i hi
  rw [degL_perm hp, degL_cons] at h1
  have h2 : ends1 i e = decide (i = a ∨ i = b) := by
    rw [Bool.eq_iff_iff, decide_eq_true_iff]
    unfold ends1
    rw [Bool.or_eq_true, beq_iff_eq, beq_iff_eq]
    rcases he with ⟨e1, e2⟩ | ⟨e1, e2⟩ <;> rw [e1, e2] <;> omega
  rw [h2] at h1
  by_cases ha : i = a
  · have hb : i ≠ b := by omega
    simp only [ha, true_or, decide_true, if_true] at h1
    rw [if_neg hb]
    rw [← ha] at h1
    split at h1 <;> split <;> omega
  · by_cases hb : i = b
    · simp only [hb, or_true, decide_true, if_true] at h1
      rw [if_pos hb]
      have : b ≠ a := fun e => hne e.symm
      rw [if_neg this] at h1
      rw [← hb] at h1
      split at h1 <;> split <;> omega
    · have : decide (i = a ∨ i = b) = false := by simp [ha, hb]
      rw [this, if_neg ha] at h1
      rw [if_neg hb]
      simpa using h1

/-- the ends of lines in a set of points -/
def sumS (S : Nat → Bool) (n : Nat) (L : List Ln) : Nat := ((List.range n).map fun i => if S i then degL L i else 0).sum
theorem sum_add (l : List Nat) (f g : Nat → Nat) : (l.map fun i => f i + g i).sum = (l.map f).sum + (l.map g).sum := by
  induction l with
  | nil => rfl
  | cons x l ih => simp only [List.map_cons, List.sum_cons]; omega
theorem sum_zero (l : List Nat) : (l.map fun _ => (0 : Nat)).sum = 0 := by
  induction l with
  | nil => rfl
  | cons x l ih => rw [List.map_cons, List.sum_cons, ih]
theorem sum_one (n x : Nat) (h : x < n) (c : Nat) : ((List.range n).map fun i => if i = x then c else 0).sum = c := by
  induction n with
  | zero => omega
  | succ n ih =>
    rw [List.range_succ, List.map_append, List.sum_append]
    by_cases e : x = n
    · subst e
      have : ((List.range x).map fun i => if i = x then c else 0).sum = 0 := by
        have : (List.range x).map (fun i => if i = x then c else 0) = (List.range x).map fun _ => 0 := List.map_congr_left fun i hi => by rw [if_neg (by have := List.mem_range.1 hi; omega)]
        rw [this]; exact sum_zero _
      rw [this]; simp
    · rw [ih (by omega)]
      simp; intro e2; exact absurd e2.symm e
theorem sumS_cons (S : Nat → Bool) (n : Nat) (L : List Ln) {l : Ln} {x y : Nat} (hl : LnOf l x y) (hne : x ≠ y) (hx : x < n) (hy : y < n) :
    sumS S n (l :: L) = sumS S n L + ((if S x then 1 else 0) + (if S y then 1 else 0)) := by
  have key : ∀ i, (if S i then degL (l :: L) i else 0) = (if S i then degL L i else 0) + ((if i = x then (if S x then 1 else 0) else 0) + (if i = y then (if S y then 1 else 0) else 0)) := by
    intro i
    rw [degL_cons]
    have h2 : ends1 i l = decide (i = x ∨ i = y) := by
      rw [Bool.eq_iff_iff, decide_eq_true_iff]
      unfold ends1
      rw [Bool.or_eq_true, beq_iff_eq, beq_iff_eq]
      rcases hl with ⟨e1, e2⟩ | ⟨e1, e2⟩ <;> rw [e1, e2] <;> omega
    rw [h2]
    by_cases h3 : i = x
    · subst h3
      rw [if_neg hne]; cases S i <;> simp
    · by_cases h4 : i = y
      · subst h4
        rw [if_neg h3]; cases S i <;> simp
      · cases S i <;> simp [h3, h4]
  unfold sumS
  rw [show ((List.range n).map fun i => if S i then degL (l :: L) i else 0) = (List.range n).map fun i => (if S i then degL L i else 0) + ((if i = x then (if S x then 1 else 0) else 0) + (if i = y then (if S y then 1 else 0) else 0)) from List.map_congr_left fun i _ => key i]
  rw [sum_add, sum_add, sum_one n x hx, sum_one n y hy]
theorem sumS_perm (S : Nat → Bool) (n : Nat) {L M : List Ln} (h : L.Perm M) : sumS S n L = sumS S n M := by
  unfold sumS; rw [List.map_congr_left fun i _ => by rw [degL_perm h]]

/-- points of a good line -/
theorem good_line {n : Nat} {L : List Ln} (hg : GoodG n L) {l : Ln} (hl : l ∈ L) : ∃ x y : Nat, l = ((x : Int), (y : Int)) ∧ LnOf l x y ∧ x ≠ y ∧ x < n ∧ y < n := by
  obtain ⟨h1, h2, h3, h4, h5⟩ := hg.2.2.2 l hl
  obtain ⟨p, q⟩ := l
  simp only at h1 h2 h3 h4 h5
  obtain ⟨x, rfl⟩ := Int.eq_ofNat_of_zero_le h1
  obtain ⟨y, rfl⟩ := Int.eq_ofNat_of_zero_le h3
  exact ⟨x, y, rfl, .inl ⟨rfl, rfl⟩, by omega, by omega, by omega⟩

theorem sumS_even (S : Nat → Bool) (n : Nat) : ∀ (L : List Ln), (∀ l ∈ L, ∃ x y : Nat, LnOf l x y ∧ x ≠ y ∧ x < n ∧ y < n ∧ S x = S y) → sumS S n L % 2 = 0 := by
  intro L
  induction L with
  | nil =>
    intro _
    have : (List.range n).map (fun i => if S i then degL [] i else 0) = (List.range n).map fun _ => 0 := List.map_congr_left fun i _ => by simp [degL]
    unfold sumS
    rw [this, sum_zero]
  | cons l L ih =>
    intro h
    obtain ⟨x, y, h1, h2, h3, h4, h5⟩ := h l List.mem_cons_self
    have := ih fun l hl => h l (List.mem_cons_of_mem _ hl)
    rw [sumS_cons S n L h1 h2 h3 h4, h5]
    split <;> omega

open Classical in
/-- the far side of a line that alone holds it holds the last point -/
theorem far_side {n : Nat} {L M : List Ln} {e : Ln} {a b t : Nat} (hg : GoodG n L) (hpar : Par n L a t) (ht : t < n) (hp : L.Perm (e :: M)) (he : LnOf e a b) (hne : a ≠ b) (ha : a < n) (hb : b < n) (hbr : ¬ ConnL M b a) : ConnL M b t := by
  have hev := sumS_even (fun i => decide (ConnL M b i)) n M (fun l hl => by
    have hl' : l ∈ L := hp.mem_iff.2 (List.mem_cons_of_mem _ hl)
    obtain ⟨x, y, _, h1, h2, h3, h4⟩ := good_line hg hl'
    refine ⟨x, y, h1, h2, h3, h4, ?_⟩
    rw [decide_eq_decide]
    exact ⟨fun h => h.step ⟨l, hl, h1⟩, fun h => h.step ⟨l, hl, h1.symm⟩⟩)
  have h1 : sumS (fun i => decide (ConnL M b i)) n L = sumS (fun i => decide (ConnL M b i)) n M + ((if decide (ConnL M b a) then 1 else 0) + (if decide (ConnL M b b) then 1 else 0)) := by
    rw [sumS_perm _ n hp, sumS_cons _ n M he hne ha hb]
  rw [decide_eq_false hbr, decide_eq_true (ConnL.refl M b)] at h1
  simp only [Bool.false_eq_true, if_false, if_true] at h1
  -- by what is odd
  have key : ∀ i, i < n → (if decide (ConnL M b i) = true then degL L i else 0) % 2 = ((if i = a then 0 else 0) + (if i = t then (if decide (ConnL M b t) = true then 1 else 0) else 0)) % 2 := by
    intro i hi
    have := hpar i hi
    by_cases hc : ConnL M b i
    · have hia : i ≠ a := fun e => hbr (e ▸ hc)
      rw [if_pos (decide_eq_true hc), this, if_neg hia]
      by_cases hit : i = t
      · have hct : ConnL M b t := hit ▸ hc
        rw [if_neg hia, if_pos hit, if_pos hit, if_pos (decide_eq_true hct)]
      · rw [if_neg hia, if_neg hit, if_neg hit]
    · rw [if_neg (fun h => hc (of_decide_eq_true h))]
      by_cases hit : i = t
      · have hct : ¬ ConnL M b t := hit ▸ hc
        rw [if_pos hit, if_neg (fun h => hct (of_decide_eq_true h))]
        split <;> rfl
      · rw [if_neg hit]
        split <;> rfl
  have hmod : ∀ (l : List Nat) (f g : Nat → Nat), (∀ i ∈ l, f i % 2 = g i % 2) → (l.map f).sum % 2 = (l.map g).sum % 2 := by
    intro l f g h
    induction l with
    | nil => rfl
    | cons x l ih =>
      simp only [List.map_cons, List.sum_cons]
      have h1 := h x List.mem_cons_self
      have h2 := ih fun i hi => h i (List.mem_cons_of_mem _ hi)
      omega
  have h2 := hmod (List.range n) (fun i => if decide (ConnL M b i) = true then degL L i else 0) (fun i => (if i = a then 0 else 0) + (if i = t then (if decide (ConnL M b t) = true then 1 else 0) else 0)) (fun i hi => key i (List.mem_range.1 hi))
  rw [sum_add, sum_one n a ha, sum_one n t ht] at h2
  have h3 : ((List.range n).map fun i => if decide (ConnL M b i) = true then degL L i else 0).sum = sumS (fun i => decide (ConnL M b i)) n L := rfl
  rw [h3, h1] at h2
  by_cases hc : ConnL M b t
  · exact hc
  · rw [if_neg (fun h => hc (of_decide_eq_true h))] at h2
    omega

theorem LnOf.end {l : Ln} {a b c d : Nat} (h : LnOf l a b) (k : LnOf l c d) : (c = a ∧ d = b) ∨ (c = b ∧ d = a) := by
  rcases h with ⟨h1, h2⟩ | ⟨h1, h2⟩ <;> rcases k with ⟨k1, k2⟩ | ⟨k1, k2⟩ <;> omega
theorem ConnL.sub {L M : List Ln} (h : ∀ l ∈ L, l ∈ M) {a b : Nat} (k : ConnL L a b) : ConnL M a b := fun T h0 hT => k T h0 (fun u v hu huv => by
  obtain ⟨l, h1, h2⟩ := huv
  exact hT u v hu ⟨l, h l h1, h2⟩)

theorem fleury {n : Nat} {L : List Ln} {a t : Nat} (hg : GoodG n L) (hpar : Par n L a t) (ht : t < n) (ha : a < n) (hj : JoinL L a) (hne : L ≠ []) :
    ∃ e M b, L.Perm (e :: M) ∧ LnOf e a b ∧ a ≠ b ∧ b < n ∧ JoinL M b := by
  -- a line at a
  have hex : ∃ e ∈ L, ∃ b, LnOf e a b ∧ a ≠ b ∧ b < n := by
    apply Classical.byContradiction
    intro hno
    match L, hne with
    | l :: r, _ =>
      obtain ⟨x, y, rfl, h1, h2, h3, h4⟩ := good_line hg List.mem_cons_self
      have hx := hj _ List.mem_cons_self (fun v => v = a) rfl (fun u v hu huv => by
        subst hu
        obtain ⟨e, he, h5⟩ := huv
        obtain ⟨x', y', _, k1, k2, k3, k4⟩ := good_line hg he
        exfalso
        rcases k1.end h5 with ⟨rfl, rfl⟩ | ⟨rfl, rfl⟩
        · exact hno ⟨e, he, v, h5, k2, k4⟩
        · exact hno ⟨e, he, v, h5, k2.symm, k3⟩)
      have hxa : x = a := by simpa using hx
      subst hxa
      exact hno ⟨_, List.mem_cons_self, y, h1, h2, h4⟩
  by_cases hnb : ∃ e M b, L.Perm (e :: M) ∧ LnOf e a b ∧ a ≠ b ∧ b < n ∧ ConnL M b a
  · obtain ⟨e, M, b, h1, h2, h3, h4, h5⟩ := hnb
    refine ⟨e, M, b, h1, h2, h3, h4, fun l hl => ?_⟩
    refine hj l (h1.mem_iff.2 (List.mem_cons_of_mem _ hl)) (fun v => ConnL M b v) h5 (fun u v hu huv => ?_)
    obtain ⟨e', he', hl'⟩ := huv
    rcases List.mem_cons.1 (h1.mem_iff.1 he') with rfl | hm
    · rcases h2.end hl' with ⟨rfl, rfl⟩ | ⟨rfl, rfl⟩
      · exact ConnL.refl _ _
      · exact h5
    · exact hu.step ⟨e', hm, hl'⟩
  · obtain ⟨e, he, b, h2, h3, h4⟩ := hex
    have h1 : L.Perm (e :: L.erase e) := List.perm_cons_erase he
    generalize L.erase e = M at h1
    have hbr : ¬ ConnL M b a := fun h => hnb ⟨e, M, b, h1, h2, h3, h4, h⟩
    have honly : ∀ e2 ∈ M, ∀ b2, ¬ LnOf e2 a b2 := by
      intro e2 he2 b2 hl2
      have h5 : M.Perm (e2 :: M.erase e2) := List.perm_cons_erase he2
      generalize M.erase e2 = M2 at h5
      have h6 : L.Perm (e2 :: e :: M2) := h1.trans ((List.Perm.cons e h5).trans (List.Perm.swap e2 e M2))
      obtain ⟨x, y, _, k1, k2, k3, k4⟩ := good_line hg (h1.mem_iff.2 (List.mem_cons_of_mem _ he2))
      have hab2 : a ≠ b2 ∧ b2 < n := by
        rcases k1.end hl2 with ⟨rfl, rfl⟩ | ⟨rfl, rfl⟩
        · exact ⟨k2, k4⟩
        · exact ⟨k2.symm, k3⟩
      have hbr2 : ¬ ConnL (e :: M2) b2 a := fun h => hnb ⟨e2, e :: M2, b2, h6, hl2, hab2.1, hab2.2, h⟩
      have f1 := far_side hg hpar ht h1 h2 h3 ha h4 hbr
      have f2 := far_side hg hpar ht h6 hl2 hab2.1 ha hab2.2 hbr2
      have f3 : ConnL M2 b2 t := (f2 (fun v => ConnL M2 b2 v ∧ ConnL (e :: M2) b2 v) ⟨ConnL.refl _ _, ConnL.refl _ _⟩ (fun u v hu huv => by
        obtain ⟨e', he', hl'⟩ := huv
        have hv := hu.2.step ⟨e', he', hl'⟩
        rcases List.mem_cons.1 he' with rfl | hm
        · exfalso
          rcases h2.end hl' with ⟨rfl, rfl⟩ | ⟨rfl, rfl⟩
          · exact hbr2 hu.2
          · exact hbr2 hv
        · exact ⟨hu.1.step ⟨e', hm, hl'⟩, hv⟩)).1
      have f4 : ConnL M b2 t := f3.sub (fun l hl => h5.mem_iff.2 (List.mem_cons_of_mem _ hl))
      exact hbr ((f1.trans f4.symm).step ⟨e2, he2, hl2.symm⟩)
    refine ⟨e, M, b, h1, h2, h3, h4, fun l hl => ?_⟩
    have hlL := h1.mem_iff.2 (List.mem_cons_of_mem e hl)
    obtain ⟨x, y, rfl, k1, k2, k3, k4⟩ := good_line hg hlL
    have hT := hj _ hlL (fun v => v = a ∨ ConnL M b v) (.inl rfl) (fun u v hu huv => by
      obtain ⟨e', he', hl'⟩ := huv
      rcases List.mem_cons.1 (h1.mem_iff.1 he') with rfl | hm
      · rcases h2.end hl' with ⟨rfl, rfl⟩ | ⟨rfl, rfl⟩
        · exact .inr (ConnL.refl _ _)
        · exact .inl rfl
      · rcases hu with rfl | hu
        · exact absurd hl' (honly e' hm v)
        · exact .inr (hu.step ⟨e', hm, hl'⟩))
    have hx : ((x : Int), (y : Int)).1.toNat = x := by simp
    rw [hx] at hT ⊢
    rcases hT with rfl | hT
    · exact absurd k1 (honly _ hl y)
    · exact hT

end Go.Proofs.YtoomdnbbbaooeaaDoor
