/- The document's search for a ring of a given length, and the shortest ring: plain. Conditions: in each statement. -/
import Derived.Test.YtlfinlfmlnclhaaDoorFarP
import Derived.Test.YtlfinlfmlnclhaaDoorForestP
namespace Go.Proofs.YtlfinlfmlnclhaaDoor.Gr

/-- a list's number at a place -/
def gL (l : List Nat) (i : Nat) : Nat := l[i]?.getD 0
theorem gL_left {l r : List Nat} {i : Nat} (h : i < l.length) : gL (l ++ r) i = gL l i := by unfold gL; rw [List.getElem?_append_left h]
theorem gL_last (l : List Nat) (b : Nat) : gL (l ++ [b]) l.length = b := by simp [gL]
theorem gL_mem {l : List Nat} {i : Nat} (h : i < l.length) : gL l i ∈ l := by
  unfold gL; rw [List.getElem?_eq_getElem h]; exact List.getElem_mem h
theorem gL_inj {l : List Nat} (h : l.Nodup) {i j : Nat} (hi : i < l.length) (hj : j < l.length) (e : gL l i = gL l j) : i = j := by
  unfold gL at e
  rw [List.getElem?_eq_getElem hi, List.getElem?_eq_getElem hj] at e
  have h' := List.pairwise_iff_getElem.1 h
  rcases Nat.lt_trichotomy i j with hl | hl | hl
  · exact absurd e (h' i j hi hj hl)
  · exact hl
  · exact absurd e.symm (h' j i hj hi hl)

def adjB (O : List Nat) (a b : Nat) : Bool := (O[a]?.getD 0).testBit b

def ringB (O : List Nat) (n : Nat) : Nat → List Nat → Bool
  | 0, way => adjB O (gL way (way.length - 1)) (gL way 0)
  | f + 1, way => (List.range n).any fun b => adjB O (gL way (way.length - 1)) b && !decide (b ∈ way) && ringB O n f (way ++ [b])

/-- a way with its extension that comes back -/
def RingExt (O : List Nat) (n : Nat) (way ext : List Nat) : Prop :=
  (way ++ ext).Nodup ∧ (∀ x ∈ ext, x < n) ∧ (∀ i, way.length - 1 ≤ i → i + 1 < (way ++ ext).length → adjS O (gL (way ++ ext) i) (gL (way ++ ext) (i + 1))) ∧ adjS O (gL (way ++ ext) ((way ++ ext).length - 1)) (gL (way ++ ext) 0)

theorem ring_iff {O : List Nat} {n : Nat} : ∀ (f : Nat) (way : List Nat), 0 < way.length → way.Nodup → (ringB O n f way = true ↔ ∃ ext : List Nat, ext.length = f ∧ RingExt O n way ext) := by
  intro f
  induction f with
  | zero =>
    intro way hw hnd
    constructor
    · intro h
      refine ⟨[], rfl, by simpa using hnd, fun x hx => absurd hx (by simp), fun i h1 h2 => ?_, ?_⟩
      · simp at h2; omega
      · simpa using (show adjS O _ _ from h)
    · rintro ⟨ext, he, h⟩
      obtain rfl : ext = [] := List.eq_nil_of_length_eq_zero he
      have := h.2.2.2
      simp only [List.append_nil] at this
      exact this
  | succ f ih =>
    intro way hw hnd
    unfold ringB
    rw [List.any_eq_true]
    constructor
    · rintro ⟨b, hb, h⟩
      simp only [Bool.and_eq_true, Bool.not_eq_true', decide_eq_false_iff_not] at h
      obtain ⟨⟨h1, h2⟩, h3⟩ := h
      have hnd' : (way ++ [b]).Nodup := by
        rw [List.nodup_append]
        exact ⟨hnd, by simp, fun a ha c hc e => h2 (by rw [List.mem_singleton] at hc; rw [← hc, ← e]; exact ha)⟩
      obtain ⟨ext, he, g1, g2, g3, g4⟩ := (ih (way ++ [b]) (by simp) hnd').1 h3
      rw [List.append_assoc, List.singleton_append] at g1 g3 g4
      refine ⟨b :: ext, by simp [he], g1, fun x hx => ?_, fun i hi1 hi2 => ?_, g4⟩
      · rcases List.mem_cons.1 hx with rfl | hx
        · exact List.mem_range.1 hb
        · exact g2 x hx
      · by_cases e : i = way.length - 1
        · subst e
          have e1 : gL (way ++ b :: ext) (way.length - 1) = gL way (way.length - 1) := gL_left (by omega)
          have e2 : gL (way ++ b :: ext) (way.length - 1 + 1) = b := by
            rw [show way.length - 1 + 1 = way.length by omega]
            simp [gL]
          rw [e1, e2]
          exact h1
        · exact g3 i (by simp; omega) hi2
    · rintro ⟨ext, he, h1, h2, h3, h4⟩
      match ext, he with
      | b :: ext, he =>
        have e0 : way ++ b :: ext = (way ++ [b]) ++ ext := by simp
        have hnd' : (way ++ [b]).Nodup := by
          rw [e0] at h1
          exact (List.nodup_append.1 h1).1
        have hadj := h3 (way.length - 1) (Nat.le_refl _) (by simp; omega)
        have e1 : gL (way ++ b :: ext) (way.length - 1) = gL way (way.length - 1) := gL_left (by omega)
        have e2 : gL (way ++ b :: ext) (way.length - 1 + 1) = b := by
          rw [show way.length - 1 + 1 = way.length by omega]
          simp [gL]
        rw [e1, e2] at hadj
        refine ⟨b, List.mem_range.2 (h2 b List.mem_cons_self), ?_⟩
        simp only [Bool.and_eq_true, Bool.not_eq_true', decide_eq_false_iff_not]
        refine ⟨⟨hadj, fun hb => ?_⟩, (ih (way ++ [b]) (by simp) hnd').2 ⟨ext, by simpa using he, ?_⟩⟩
        · rw [List.nodup_append] at hnd'
          exact hnd'.2.2 b hb b (by simp) rfl
        · rw [e0] at h1 h3 h4
          exact ⟨h1, fun x hx => h2 x (List.mem_cons_of_mem _ hx), fun i hi1 hi2 => h3 i (by simp at hi1; omega) hi2, h4⟩

/-- a ring of m points -/
def Cyc (O : List Nat) (n m : Nat) : Prop :=
  ∃ l : List Nat, l.length = m ∧ l.Nodup ∧ (∀ x ∈ l, x < n) ∧ (∀ i, i + 1 < l.length → adjS O (gL l i) (gL l (i + 1))) ∧ adjS O (gL l (l.length - 1)) (gL l 0)

def hasRing (O : List Nat) (n m : Nat) : Bool := (List.range n).any fun a => ringB O n (m - 1) [a]
theorem hasRing_iff {O : List Nat} {n m : Nat} (hm : 1 ≤ m) : hasRing O n m = true ↔ Cyc O n m := by
  unfold hasRing
  rw [List.any_eq_true]
  constructor
  · rintro ⟨a, ha, h⟩
    obtain ⟨ext, he, h1, h2, h3, h4⟩ := (ring_iff (m - 1) [a] (by simp) (by simp)).1 h
    refine ⟨[a] ++ ext, by simp [he]; omega, h1, fun x hx => ?_, fun i hi => h3 i (by simp) hi, h4⟩
    rcases List.mem_append.1 hx with hx | hx
    · rw [List.mem_singleton] at hx; rw [hx]; exact List.mem_range.1 ha
    · exact h2 x hx
  · rintro ⟨l, hl, h1, h2, h3, h4⟩
    match l, hl with
    | [], hl => simp at hl; omega
    | a :: ext, hl =>
      refine ⟨a, List.mem_range.2 (h2 a List.mem_cons_self), (ring_iff (m - 1) [a] (by simp) (by simp)).2 ⟨ext, by simp at hl; omega, h1, fun x hx => h2 x (List.mem_cons_of_mem _ hx), fun i _ hi => h3 i hi, h4⟩⟩

theorem cyc_best {O : List Nat} {n m : Nat} {k : Int} (hn : n ≤ 8) (hl : O.length = n) (hO : Bounded n O) (hs : Symm O) (hi : ∀ i, ¬ adjS O i i) (h : BestIs O n (adjS O) k) (hm : 3 ≤ m) (hc : Cyc O n m) : k ≠ 0 ∧ k ≤ m := by
  obtain ⟨l, hlen, hnd, hlt, hp, hclose⟩ := hc
  have hab : adjS O (gL l 0) (gL l (l.length - 1)) := hs _ _ hclose
  have ha := hO _ _ hab
  have hne : gL l 0 ≠ gL l (l.length - 1) := fun e => by rw [e] at hab; exact hi _ hab
  have hcut := cutS_adj (O := O) (a := gL l 0) (b := gL l (l.length - 1)) (by omega) (by omega) hne
  obtain ⟨D, hD⟩ := exists_dist hn (cutS_bounded hO (by rw [hl]; exact ha.1) (by rw [hl]; exact ha.2) hne) ha.1
  have steps : ∀ i, i < l.length → Steps (cutS O (gL l 0) (gL l (l.length - 1))) (gL l 0) (gL l i) i := by
    intro i
    induction i with
    | zero => intro _; exact .refl
    | succ i ih =>
      intro hi'
      refine .step (ih (by omega)) ((hcut _ _).2 ⟨hp i hi', fun e => ?_, fun e => ?_⟩)
      · have e1 := gL_inj hnd (by omega) (by omega) e.1
        have e2 := gL_inj hnd (by omega) (by omega) e.2
        omega
      · have e1 := gL_inj hnd (by omega) (by omega) e.1
        omega
  obtain ⟨d1, d2⟩ := dist_full hD (steps (l.length - 1) (by omega))
  rcases h.least _ _ (at1 D (gL l (l.length - 1)) + 1) hab ⟨D, hD, rfl⟩ with h0 | ⟨h0, h1⟩
  · omega
  · exact ⟨h0, by omega⟩

theorem path_of {O : List Nat} {n a : Nat} {D : List Int} (h : IsDist O n a D) : ∀ (t v : Nat), at1 D v = (t : Int) → ∃ l : List Nat, l.length = t + 1 ∧ gL l t = v ∧ (∀ i, i < l.length → at1 D (gL l i) = (i : Int)) ∧ ∀ i, i + 1 < l.length → adjS O (gL l i) (gL l (i + 1)) := by
  intro t
  induction t with
  | zero =>
    intro v hv
    refine ⟨[v], rfl, rfl, fun i hi => ?_, fun i hi => ?_⟩
    · have : i = 0 := by simp at hi; omega
      subst this; exact hv
    · simp at hi
  | succ t ih =>
    intro v hv
    obtain ⟨u, hu, hd⟩ := h.pre v (by omega)
    obtain ⟨l, h1, h2, h3, h4⟩ := ih u (by omega)
    have hlast : gL (l ++ [v]) (t + 1) = v := by rw [← h1]; exact gL_last l v
    refine ⟨l ++ [v], by simp [h1], hlast, fun i hi => ?_, fun i hi => ?_⟩
    · by_cases e : i = t + 1
      · subst e; rw [hlast]; exact hv
      · rw [gL_left (by simp at hi; omega)]
        exact h3 i (by simp at hi; omega)
    · by_cases e : i = t
      · subst e
        rw [hlast, gL_left (by omega), h2]; exact hu
      · simp at hi
        rw [gL_left (by omega), gL_left (by omega)]
        exact h4 i (by omega)

theorem best_cyc {O : List Nat} {n : Nat} {k : Int} (hl : O.length = n) (hO : Bounded n O) (hs : Symm O) (hi : ∀ i, ¬ adjS O i i) (h : BestIs O n (adjS O) k) (hk : k ≠ 0) : Cyc O n k.toNat := by
  obtain ⟨a, b, hab, D, hD, e⟩ := h.some hk
  have h3 := ring_three hl hO hi h hk
  have ha := hO _ _ hab
  have hne : a ≠ b := fun e => by rw [e] at hab; exact hi _ hab
  have hcut := cutS_adj (O := O) (a := a) (b := b) (by omega) (by omega) hne
  obtain ⟨l, l1, l2, l3, l4⟩ := path_of hD (k - 1).toNat b (by omega)
  have hlen : l.length = k.toNat := by omega
  have hfirst : gL l 0 = a := hD.zero _ (l3 0 (by omega))
  refine ⟨l, hlen, ?_, fun x hx => ?_, fun i hi' => ((hcut _ _).1 (l4 i hi')).1, ?_⟩
  · rw [List.Nodup, List.pairwise_iff_getElem]
    intro i j hi' hj' hij he
    have e1 := l3 i hi'
    have e2 := l3 j hj'
    have g1 : gL l i = l[i] := by unfold gL; rw [List.getElem?_eq_getElem hi']; rfl
    have g2 : gL l j = l[j] := by unfold gL; rw [List.getElem?_eq_getElem hj']; rfl
    rw [g1, he, ← g2, e2] at e1
    omega
  · obtain ⟨i, hi', rfl⟩ := List.mem_iff_getElem.1 hx
    have e1 := l3 i hi'
    have g1 : gL l i = l[i] := by unfold gL; rw [List.getElem?_eq_getElem hi']; rfl
    rw [g1] at e1
    have := at1_in (d := D) (i := l[i]) (by omega)
    rwa [hD.len] at this
  · rw [hfirst, show l.length - 1 = (k - 1).toNat by omega, l2]
    exact hs _ _ hab

end Go.Proofs.YtlfinlfmlnclhaaDoor.Gr
