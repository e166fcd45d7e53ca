/- As many lines as points need: plain. Conditions: in each statement. -/
import Derived.Test.YtmkdkjdbmnocoaaDeepP
namespace Go.Proofs.Ytmkdkjdbmnocoaa.Gr
open Classical

theorem Conn.refl (O : List Nat) (a : Nat) : Conn O a a := fun _ h _ => h
theorem Conn.trans {O : List Nat} {a b c : Nat} (h : Conn O a b) (k : Conn O b c) : Conn O a c := fun T h0 hT => k T (h T h0 hT) hT
theorem Conn.step {O : List Nat} {a b c : Nat} (h : Conn O a b) (k : adjS O b c) : Conn O a c := fun T h0 hT => hT b c (h T h0 hT) k
theorem Conn.symm {O : List Nat} {a b : Nat} (hs : Symm O) (h : Conn O a b) : Conn O b a :=
  h (fun x => Conn O x a) (Conn.refl O a) (fun u v hu huv T h0 hT => hu T (hT v u h0 (hs _ _ huv)) hT)
theorem Conn.mono {O O' : List Nat} {a b : Nat} (hm : ∀ u v, adjS O u v → adjS O' u v) (h : Conn O a b) : Conn O' a b := fun T h0 hT => h T h0 fun u v hu huv => hT u v hu (hm u v huv)
theorem Conn.in_ {O : List Nat} {n a b : Nat} (hO : Bounded n O) (h : Conn O a b) (ha : a < n) : b < n := h (fun x => x < n) ha (fun _ _ _ huv => (hO _ _ huv).2)

/-- one line more, between a and b -/
theorem conn_more {O O' : List Nat} {a b x y : Nat} (hm : ∀ u v, adjS O u v → adjS O' u v ∨ (u = a ∧ v = b) ∨ (u = b ∧ v = a)) (h : Conn O x y) :
    Conn O' x y ∨ (Conn O' x a ∧ Conn O' b y) ∨ (Conn O' x b ∧ Conn O' a y) := by
  refine h (fun y => Conn O' x y ∨ (Conn O' x a ∧ Conn O' b y) ∨ (Conn O' x b ∧ Conn O' a y)) (.inl (Conn.refl _ _)) ?_
  intro u v hu huv
  rcases hm u v huv with h1 | ⟨rfl, rfl⟩ | ⟨rfl, rfl⟩
  · rcases hu with h2 | ⟨h2, h3⟩ | ⟨h2, h3⟩
    · exact .inl (h2.step h1)
    · exact .inr (.inl ⟨h2, h3.step h1⟩)
    · exact .inr (.inr ⟨h2, h3.step h1⟩)
  · rcases hu with h2 | ⟨h2, h3⟩ | ⟨h2, h3⟩
    · exact .inr (.inl ⟨h2, Conn.refl _ _⟩)
    · exact .inr (.inl ⟨h2, Conn.refl _ _⟩)
    · exact .inl h2
  · rcases hu with h2 | ⟨h2, h3⟩ | ⟨h2, h3⟩
    · exact .inr (.inr ⟨h2, Conn.refl _ _⟩)
    · exact .inl h2
    · exact .inr (.inr ⟨h2, Conn.refl _ _⟩)

/-- the least of its part -/
def RootC (O : List Nat) (i : Nat) : Prop := ∀ y, Conn O i y → i ≤ y
/-- how many parts -/
noncomputable def partsN (O : List Nat) (n : Nat) : Nat := (List.range n).countP fun i => decide (RootC O i)

theorem countP_one {α : Type} {l : List α} (hn : l.Nodup) {p q : α → Bool} {r : α} (hr : r ∈ l) (h : ∀ x ∈ l, p x = true ↔ q x = true ∨ x = r) (hq : q r = false) : l.countP p = l.countP q + 1 := by
  induction l with
  | nil => cases hr
  | cons a l ih =>
    rw [List.nodup_cons] at hn
    rw [List.countP_cons, List.countP_cons]
    by_cases e : r = a
    · subst e
      have hpr : p r = true := (h r List.mem_cons_self).2 (.inr rfl)
      have hc : l.countP p = l.countP q := List.countP_congr fun x hx => by
        rw [h x (List.mem_cons_of_mem _ hx)]
        constructor
        · rintro (h1 | h1)
          · exact h1
          · subst h1; exact absurd hx hn.1
        · exact .inl
      rw [hpr, hq, hc]; simp
    · have hrl : r ∈ l := by
        rcases List.mem_cons.1 hr with h1 | h1
        · exact absurd h1 e
        · exact h1
      have hpa : p a = q a := by
        rw [Bool.eq_iff_iff, h a List.mem_cons_self]
        constructor
        · rintro (h1 | h1)
          · exact h1
          · exact absurd h1.symm e
        · exact .inl
      rw [ih hn.2 hrl (fun x hx => h x (List.mem_cons_of_mem _ hx)), hpa]
      omega

theorem exists_least {p : Nat → Prop} (h : ∃ x, p x) : ∃ x, p x ∧ ∀ y, p y → x ≤ y := by
  obtain ⟨k, hk⟩ := h
  induction k using Nat.strongRecOn with
  | _ k ih =>
    by_cases hl : ∃ j, j < k ∧ p j
    · obtain ⟨j, hj, hJ⟩ := hl; exact ih j hj hJ
    · refine ⟨k, hk, fun j hj => ?_⟩
      rcases Nat.lt_or_ge j k with h | h
      · exact absurd ⟨j, h, hj⟩ hl
      · exact h

/-- O is O' with a line between a and b more -/
structure Plus (n : Nat) (O O' : List Nat) (a b : Nat) : Prop where
  hO : Bounded n O
  hs : Symm O
  hs' : Symm O'
  sub : ∀ u v, adjS O' u v → adjS O u v
  split : ∀ u v, adjS O u v → adjS O' u v ∨ (u = a ∧ v = b) ∨ (u = b ∧ v = a)
  ab : adjS O a b
  no : ¬ adjS O' a b
  ne : a ≠ b

theorem Plus.flip {n : Nat} {O O' : List Nat} {a b : Nat} (h : Plus n O O' a b) : Plus n O O' b a :=
  ⟨h.hO, h.hs, h.hs', h.sub, fun u v huv => by
    rcases h.split u v huv with h1 | h1 | h1
    · exact .inl h1
    · exact .inr (.inr h1)
    · exact .inr (.inl h1), h.hs _ _ h.ab, fun k => h.no (h.hs' _ _ k), h.ne.symm⟩

theorem parts_same {n : Nat} {O O' : List Nat} {a b : Nat} (h : Plus n O O' a b) (hc : Conn O' a b) : partsN O' n = partsN O n := by
  have e : ∀ x y, Conn O x y ↔ Conn O' x y := fun x y => by
    constructor
    · intro k
      rcases conn_more h.split k with h1 | ⟨h1, h2⟩ | ⟨h1, h2⟩
      · exact h1
      · exact (h1.trans hc).trans h2
      · exact (h1.trans (hc.symm h.hs')).trans h2
    · exact Conn.mono h.sub
  unfold partsN RootC
  simp only [e]

theorem parts_more {n : Nat} {O O' : List Nat} {a b : Nat} (h : Plus n O O' a b) (hc : ¬ Conn O' a b) : partsN O' n = partsN O n + 1 := by
  obtain ⟨ra, ha1, ha2⟩ := exists_least ⟨a, Conn.refl O' a⟩
  obtain ⟨rb, hb1, hb2⟩ := exists_least ⟨b, Conn.refl O' b⟩
  have hne : ra ≠ rb := by rintro rfl; exact hc (ha1.trans (hb1.symm h.hs'))
  -- wlog ra < rb
  have key : ∀ (a b ra rb : Nat), Plus n O O' a b → ¬ Conn O' a b → Conn O' a ra → (∀ y, Conn O' a y → ra ≤ y) → Conn O' b rb → (∀ y, Conn O' b y → rb ≤ y) → ra < rb → partsN O' n = partsN O n + 1 := by
    intro a b ra rb h hc ha1 ha2 hb1 hb2 hlt
    have hab := h.hO a b h.ab
    have hrb : rb < n := hb1.in_ (fun u v k => h.hO u v (h.sub u v k)) hab.2
    have hroot : ∀ i, RootC O' i ↔ RootC O i ∨ i = rb := by
      intro i
      constructor
      · intro hi
        by_cases e : i = rb
        · exact .inr e
        · refine .inl fun y hy => ?_
          rcases conn_more h.split hy with h1 | ⟨h1, h2⟩ | ⟨h1, h2⟩
          · exact hi y h1
          · have := hi ra (h1.trans ha1)
            have := hb2 y h2
            omega
          · exfalso
            have h3 := hi rb (h1.trans hb1)
            have h4 := hb2 i (h1.symm h.hs')
            omega
      · rintro (hi | rfl)
        · exact fun y hy => hi y (Conn.mono h.sub hy)
        · exact fun y hy => hb2 y (hb1.trans hy)
    have hno : ¬ RootC O rb := fun hr => by
      have : Conn O rb ra := ((Conn.mono h.sub (hb1.symm h.hs')).step (h.hs _ _ h.ab)).trans (Conn.mono h.sub ha1)
      have := hr ra this
      omega
    exact countP_one List.nodup_range (List.mem_range.2 hrb) (fun x _ => by simp only [decide_eq_true_eq]; exact hroot x) (decide_eq_false hno)
  rcases Nat.lt_or_ge ra rb with h1 | h1
  · exact key a b ra rb h hc ha1 ha2 hb1 hb2 h1
  · exact key b a rb ra h.flip (fun k => hc (k.symm h.hs')) hb1 hb2 ha1 ha2 (by omega)

/-- all pairs, the greater one first -/
def pairsL (n : Nat) : List (Nat × Nat) := (List.range n).flatMap fun a => (List.range a).map fun b => (a, b)
def pairsN (O : List Nat) (n : Nat) : Nat := (pairsL n).countP fun p => (O[p.1]?.getD 0).testBit p.2
theorem mem_pairsL {n : Nat} {p : Nat × Nat} : p ∈ pairsL n ↔ p.2 < p.1 ∧ p.1 < n := by
  unfold pairsL
  simp only [List.mem_flatMap, List.mem_range, List.mem_map]
  constructor
  · rintro ⟨a, h1, b, h2, rfl⟩; exact ⟨h2, h1⟩
  · rintro ⟨h1, h2⟩; exact ⟨p.1, h2, p.2, h1, rfl⟩
theorem pairsL_succ (n : Nat) : pairsL (n + 1) = pairsL n ++ (List.range n).map fun b => (n, b) := by
  unfold pairsL; rw [List.range_succ, List.flatMap_append]; simp
theorem pairsL_nodup (n : Nat) : (pairsL n).Nodup := by
  induction n with
  | zero => exact List.nodup_nil
  | succ n ih =>
    rw [pairsL_succ, List.nodup_append]
    refine ⟨ih, ?_, ?_⟩
    · rw [List.nodup_iff_pairwise_ne, List.pairwise_map]
      exact List.nodup_range.imp (fun hab e => hab (Prod.mk.inj e).2)
    · rintro x hx y hy rfl
      have := mem_pairsL.1 hx
      simp only [List.mem_map, List.mem_range] at hy
      obtain ⟨b, _, rfl⟩ := hy
      simp at this
theorem pairs_more {n : Nat} {O O' : List Nat} {a b : Nat} (h : Plus n O O' a b) : pairsN O n = pairsN O' n + 1 := by
  have key : ∀ (a b : Nat), Plus n O O' a b → b < a → pairsN O n = pairsN O' n + 1 := by
    intro a b h hlt
    have hab := h.hO a b h.ab
    refine countP_one (pairsL_nodup n) (r := (a, b)) (mem_pairsL.2 ⟨hlt, hab.1⟩) (fun x hx => ?_) ?_
    · have hx' := mem_pairsL.1 hx
      show adjS O x.1 x.2 ↔ adjS O' x.1 x.2 ∨ x = (a, b)
      constructor
      · intro k
        rcases h.split _ _ k with h1 | ⟨h1, h2⟩ | ⟨h1, h2⟩
        · exact .inl h1
        · exact .inr (Prod.ext h1 h2)
        · omega
      · rintro (k | rfl)
        · exact h.sub _ _ k
        · exact h.ab
    · cases hb : (O'[a]?.getD 0).testBit b with
      | false => rfl
      | true => exact absurd hb h.no
  rcases Nat.lt_or_ge b a with h1 | h1
  · exact key a b h h1
  · exact key b a h.flip (by have := h.ne; omega)

theorem cut_plus {n a b : Nat} {O : List Nat} (hl : O.length = n) (hO : Bounded n O) (hs : Symm O) (hi : ∀ i, ¬ adjS O i i) (h : adjS O a b) : Plus n O (cutS O a b) a b := by
  have hab := hO a b h
  have hne : a ≠ b := by rintro rfl; exact hi _ h
  have k := cutS_adj (O := O) (a := a) (b := b) (by omega) (by omega) hne
  refine ⟨hO, hs, ?_, fun u v huv => ((k u v).1 huv).1, ?_, h, ?_, hne⟩
  · intro u v huv
    obtain ⟨h1, h2, h3⟩ := (k u v).1 huv
    exact (k v u).2 ⟨hs _ _ h1, fun e => h3 ⟨e.2, e.1⟩, fun e => h2 ⟨e.2, e.1⟩⟩
  · intro u v huv
    by_cases h1 : u = a ∧ v = b
    · exact .inr (.inl h1)
    · by_cases h2 : u = b ∧ v = a
      · exact .inr (.inr h2)
      · exact .inl ((k u v).2 ⟨huv, h1, h2⟩)
  · intro h1; exact ((k a b).1 h1).2.1 ⟨rfl, rfl⟩

theorem conn_flip {n a b c d : Nat} {O : List Nat} (hl : O.length = n) (hO : Bounded n O) (hi : ∀ i, ¬ adjS O i i) (h : adjS O a b) (hc : Conn (cutS O a b) c d) : Conn (cutS O b a) c d := by
  have hab := hO a b h
  have hne : a ≠ b := by rintro rfl; exact hi _ h
  refine hc.mono fun u v huv => ?_
  have k := (cutS_adj (O := O) (a := a) (b := b) (by omega) (by omega) hne u v).1 huv
  exact (cutS_adj (O := O) (a := b) (b := a) (by omega) (by omega) hne.symm u v).2 ⟨k.1, k.2.2, k.2.1⟩

theorem forest (n : Nat) : ∀ (N : Nat) (O : List Nat), O.length = n → Bounded n O → Symm O → (∀ i, ¬ adjS O i i) → pairsN O n = N → n ≤ N + partsN O n ∧ (n = N + partsN O n ↔ ∀ a b, adjS O a b → ¬ Conn (cutS O a b) a b) := by
  intro N
  induction N with
  | zero =>
    intro O hl hO hs hi hN
    have hno : ∀ a b, ¬ adjS O a b := by
      have k : ∀ a b, b < a → ¬ adjS O a b := by
        intro a b hlt hab
        have := List.countP_eq_zero.1 hN (a, b) (mem_pairsL.2 ⟨hlt, (hO a b hab).1⟩)
        exact this hab
      intro a b hab
      rcases Nat.lt_trichotomy a b with h | h | h
      · exact k b a h (hs _ _ hab)
      · subst h; exact hi _ hab
      · exact k a b h hab
    have hp : partsN O n = n := by
      unfold partsN
      have : ∀ i ∈ List.range n, decide (RootC O i) = true := fun i _ => decide_eq_true fun y hy => hy (fun y => i ≤ y) (Nat.le_refl _) (fun u v _ huv => absurd huv (hno u v))
      rw [List.countP_eq_length.2 this, List.length_range]
    rw [hp]
    exact ⟨by omega, fun _ a b hab => absurd hab (hno a b), fun _ => by omega⟩
  | succ N ih =>
    intro O hl hO hs hi hN
    have hex : ∃ p ∈ pairsL n, (O[p.1]?.getD 0).testBit p.2 = true := by
      have : 0 < (pairsL n).countP fun p => (O[p.1]?.getD 0).testBit p.2 := by unfold pairsN at hN; omega
      exact List.countP_pos_iff.1 this
    obtain ⟨⟨a, b⟩, _, hab⟩ := hex
    have hab : adjS O a b := hab
    have hP := cut_plus hl hO hs hi hab
    have habn := hO a b hab
    have hcl : (cutS O a b).length = n := by rw [cutS_length]; exact hl
    have hcO : Bounded n (cutS O a b) := fun u v h => hO u v (hP.sub u v h)
    have hcs := hP.hs'
    have hci : ∀ i, ¬ adjS (cutS O a b) i i := fun i h => hi i (hP.sub i i h)
    have hpn := pairs_more hP
    obtain ⟨i1, i2⟩ := ih (cutS O a b) hcl hcO hcs hci (by omega)
    have hadj := cutS_adj (O := O) (a := a) (b := b) (by omega) (by omega) hP.ne
    by_cases hc : Conn (cutS O a b) a b
    · have hps := parts_same hP hc
      refine ⟨by omega, fun e => by omega, fun h => absurd hc (h a b hab)⟩
    · have hps := parts_more hP hc
      refine ⟨by omega, ?_⟩
      have e1 : n = N + 1 + partsN O n ↔ n = N + partsN (cutS O a b) n := by rw [hps]; omega
      rw [e1, i2]
      constructor
      · -- all are bridges without it: all are bridges
        intro hall c d hcd hcon
        by_cases e : c = a ∧ d = b
        · obtain ⟨rfl, rfl⟩ := e; exact hc hcon
        · by_cases e' : c = b ∧ d = a
          · obtain ⟨rfl, rfl⟩ := e'
            exact hc ((conn_flip hl hO hi hcd hcon).symm hcs)
          · have hcd' : adjS (cutS O a b) c d := (hadj c d).2 ⟨hcd, e, e'⟩
            have hcdn := hO c d hcd
            have hne2 : c ≠ d := by rintro rfl; exact hi _ hcd
            have k1 := cutS_adj (O := O) (a := c) (b := d) (by omega) (by omega) hne2
            have k2 := cutS_adj (O := cutS O a b) (a := c) (b := d) (by omega) (by omega) hne2
            have hP2 := cut_plus hcl hcO hcs hci hcd'
            have hno := hall c d hcd'
            have hsplit : ∀ u v, adjS (cutS O c d) u v → adjS (cutS (cutS O a b) c d) u v ∨ (u = a ∧ v = b) ∨ (u = b ∧ v = a) := by
              intro u v huv
              have h1 := (k1 u v).1 huv
              by_cases g1 : u = a ∧ v = b
              · exact .inr (.inl g1)
              · by_cases g2 : u = b ∧ v = a
                · exact .inr (.inr g2)
                · exact .inl ((k2 u v).2 ⟨(hadj u v).2 ⟨h1.1, g1, g2⟩, h1.2⟩)
            rcases conn_more hsplit hcon with h1 | ⟨h1, h2⟩ | ⟨h1, h2⟩
            · exact hno h1
            · exact hc (((Conn.mono hP2.sub (h1.symm hP2.hs')).step hcd').trans (Conn.mono hP2.sub (h2.symm hP2.hs')))
            · exact hc ((((Conn.mono hP2.sub h2).step (hcs _ _ hcd')).trans (Conn.mono hP2.sub h1)))
      · intro hall c d hcd hcon
        have hcd0 := hP.sub _ _ hcd
        have hcdn := hO c d hcd0
        have hne2 : c ≠ d := by rintro rfl; exact hi _ hcd0
        refine hall c d hcd0 (hcon.mono fun u v huv => ?_)
        have h1 := (cutS_adj (O := cutS O a b) (a := c) (b := d) (by omega) (by omega) hne2 u v).1 huv
        exact (cutS_adj (O := O) (a := c) (b := d) (by omega) (by omega) hne2 u v).2 ⟨hP.sub _ _ h1.1, h1.2⟩

theorem dist_conn {O : List Nat} {n a v : Nat} {D : List Int} (h : IsDist O n a D) : Conn O a v ↔ 0 ≤ at1 D v := by
  constructor
  · intro hc
    exact hc (fun v => 0 ≤ at1 D v) (by rw [h.src]; omega) (fun u v hu huv => (h.edge u v huv hu).1)
  · have key : ∀ (k v : Nat), at1 D v = (k : Int) → Conn O a v := by
      intro k
      induction k with
      | zero => intro v hv; have := h.zero v hv; subst this; exact Conn.refl _ _
      | succ k ih =>
        intro v hv
        obtain ⟨u, h1, h2⟩ := h.pre v (by omega)
        exact (ih u (by omega)).step h1
    intro hv
    exact key (at1 D v).toNat v (by omega)

theorem ring_zero {O : List Nat} {n : Nat} {k : Int} (hn : n ≤ 8) (hl : O.length = n) (hO : Bounded n O) (hi : ∀ i, ¬ adjS O i i) (h : BestIs O n (adjS O) k) : k = 0 ↔ ∀ a b, adjS O a b → ¬ Conn (cutS O a b) a b := by
  constructor
  · rintro rfl a b hab hc
    have habn := hO a b hab
    have hne : a ≠ b := by rintro rfl; exact hi _ hab
    obtain ⟨D, hD⟩ := exists_dist hn (cutS_bounded hO (by omega) (by omega) hne) habn.1 (O := cutS O a b)
    have := (dist_conn hD).1 hc
    rcases h.least a b (at1 D b + 1) hab ⟨D, hD, rfl⟩ with h1 | ⟨h1, _⟩
    · omega
    · exact h1 rfl
  · intro hall
    by_cases e : k = 0
    · exact e
    · obtain ⟨a, b, hab, D, hD, hk⟩ := h.some e
      have h1 := hD.lo b
      exact absurd ((dist_conn hD).2 (by omega)) (hall a b hab)

theorem ring_three {O : List Nat} {n : Nat} {k : Int} (hl : O.length = n) (hO : Bounded n O) (hi : ∀ i, ¬ adjS O i i) (h : BestIs O n (adjS O) k) (hk : k ≠ 0) : 3 ≤ k ∧ k ≤ n := by
  obtain ⟨a, b, hab, D, hD, e⟩ := h.some hk
  have habn := hO a b hab
  have hne : a ≠ b := by rintro rfl; exact hi _ hab
  have h1 := hD.lo b
  refine ⟨?_, h.small⟩
  rcases (show at1 D b = 0 ∨ at1 D b = 1 ∨ 2 ≤ at1 D b from by omega) with h2 | h2 | h2
  · exact absurd (hD.zero b h2).symm hne
  · obtain ⟨j, hj, hj2⟩ := hD.pre b (by omega)
    have := hD.zero j (by omega)
    subst this
    exact absurd ⟨rfl, rfl⟩ ((cutS_adj (O := O) (by omega) (by omega) hne _ _).1 hj).2.1
  · omega

theorem parts_root {O : List Nat} {n : Nat} {p : List Int} (hO : Bounded n O) (hp : IsParts O n p) {i : Nat} (hi : i < n) : at1 p i = (i : Int) ↔ RootC O i := by
  obtain ⟨s, k, r1, r2, r3, r4⟩ := hp.least i hi
  have hconn : ∀ v, s.testBit v = true → Conn O i v := fun v hv T h0 hT => r1.least T h0 (fun u v hu huv _ => hT u v hu huv) v hv
  have hin : ∀ v, Conn O i v → s.testBit v = true := fun v hv => hv (fun v => s.testBit v = true) r1.src (fun u v hu huv => r1.shut u v hu huv ((below_bit n v).2 (hO u v huv).2))
  constructor
  · intro e y hy
    have := r4 y (hin y hy)
    omega
  · intro h
    have := h k (hconn k r3)
    have := r4 i r1.src
    omega

end Go.Proofs.Ytmkdkjdbmnocoaa.Gr
