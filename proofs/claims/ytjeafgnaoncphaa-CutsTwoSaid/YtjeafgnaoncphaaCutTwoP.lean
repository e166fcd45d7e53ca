/- Two points hold nothing together: plain. Conditions: in each statement. -/
import Derived.Test.YtjeafgnaoncphaaLowP
import Derived.Test.YtjeafgnaoncphaaPartsP
import Derived.Test.YtjeafgnaoncphaaHandsP
namespace Go.Proofs.Ytjeafgnaoncphaa.Gr

theorem far_free {O : List Nat} {n s v : Nat} {x : List Int} (h : IsDist O n s x) (hs : Symm O) (hi : ∀ a, ¬ adjS O a a) (hv : 0 < at1 x v) (hm : ∀ u, at1 x u ≤ at1 x v) : ¬ IsCut O v := by
  have key : ∀ (t u : Nat), at1 x u = (t : Int) → u ≠ v → CW O v s u := by
    intro t
    induction t with
    | zero =>
      intro u hu _
      have := h.zero u hu
      subst this
      exact CW.refl _ _ _
    | succ t ih =>
      intro u hu hne
      obtain ⟨j, h1, h2⟩ := h.pre u (by omega)
      have hjv : j ≠ v := by rintro rfl; have := hm u; omega
      have k := ih j (by omega) hjv
      exact fun T h0 hT => hT j u (k T h0 hT) h1 hne
  have hsv : s ≠ v := by rintro rfl; have := h.src; omega
  rintro ⟨a, b, ha, hb, hn⟩
  have c : ∀ a, adjS O v a → CW O v s a := fun a ha => by
    have h0 := (h.edge v a ha (by omega)).1
    exact key (at1 x a).toNat a (by omega) (by rintro rfl; exact hi _ ha)
  exact hn (CW.trans (CW.symm hs hsv (c a ha)) (c b hb))

theorem max_at {n s : Nat} {O : List Nat} {x : List Int} (h : IsDist O n s x) : ∃ v, ∀ u, at1 x u ≤ at1 x v := by
  have key : ∀ k : Nat, ∃ v, 0 ≤ at1 x v ∧ ∀ u, u < k → at1 x u ≤ at1 x v := by
    intro k
    induction k with
    | zero => exact ⟨s, by rw [h.src]; omega, fun u hu => absurd hu (Nat.not_lt_zero _)⟩
    | succ k ih =>
      obtain ⟨v, h0, hv⟩ := ih
      by_cases hk : at1 x k ≤ at1 x v
      · refine ⟨v, h0, fun u hu => ?_⟩
        by_cases e : u = k
        · subst e; exact hk
        · exact hv u (by omega)
      · refine ⟨k, by omega, fun u hu => ?_⟩
        by_cases e : u = k
        · subst e; omega
        · have := hv u (by omega); omega
  obtain ⟨v, h0, hv⟩ := key n
  refine ⟨v, fun u => ?_⟩
  by_cases hu : u < n
  · exact hv u hu
  · rw [at1_ge (by rw [h.len]; omega)]; omega

theorem two_free {O : List Nat} {n : Nat} (hn : n ≤ 8) (h2 : 2 ≤ n) (hO : Bounded n O) (hs : Symm O) (hi : ∀ a, ¬ adjS O a a) : ∃ v w, v < n ∧ w < n ∧ v ≠ w ∧ ¬ IsCut O v ∧ ¬ IsCut O w := by
  by_cases he : ∃ s t, adjS O s t
  · obtain ⟨s, t, hst⟩ := he
    obtain ⟨x, hx⟩ := exists_dist hn hO (hO s t hst).1 (O := O)
    obtain ⟨v, hv⟩ := max_at hx
    have h1 := hx.edge s t hst (by rw [hx.src]; omega)
    have h3 : at1 x t ≠ 0 := fun e => by have := hx.zero t e; subst this; exact hi _ hst
    have h4 := hv t
    have hv0 : 0 < at1 x v := by omega
    obtain ⟨j, hj, _⟩ := hx.pre v hv0
    have hvn : v < n := by rw [← hx.len]; exact at1_in (by omega)
    obtain ⟨y, hy⟩ := exists_dist hn hO hvn (O := O)
    obtain ⟨w, hw⟩ := max_at hy
    have g1 := hy.edge v j (hs _ _ hj) (by rw [hy.src]; omega)
    have g3 : at1 y j ≠ 0 := fun e => by have := hy.zero j e; subst this; exact hi _ hj
    have g4 := hw j
    have hw0 : 0 < at1 y w := by omega
    exact ⟨v, w, hvn, by rw [← hy.len]; exact at1_in (by omega), by rintro rfl; have := hy.src; omega, far_free hx hs hi hv0 hv, far_free hy hs hi hw0 hw⟩
  · refine ⟨0, 1, by omega, by omega, by omega, ?_, ?_⟩
    · rintro ⟨a, _, h, _⟩; exact he ⟨_, _, h⟩
    · rintro ⟨a, _, h, _⟩; exact he ⟨_, _, h⟩
end Go.Proofs.Ytjeafgnaoncphaa.Gr
