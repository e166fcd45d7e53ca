/- What the answers of the closure of cuts.Points say: plain. Conditions: in each statement. -/
import Derived.Test.YtjeafgnaoncphaaPoints
import Derived.Test.YtjeafgnaoncphaaPlainA
namespace Go.Proofs.Ytjeafgnaoncphaa
open Go.RowKit Gr

theorem reach_cw {O : List Nat} {n i f Wn s : Nat} (hO : Bounded n O) (hW : ∀ v, Wn.testBit v = true ↔ v < n ∧ v ≠ i) (h : IsReach O Wn f s) (x : Nat) : s.testBit x = true ↔ CW O i f x := by
  constructor
  · intro hx
    exact h.least (fun v => CW O i f v) (CW.refl _ _ _) (fun u v hu huv hv => fun T h0 hT => hT u v (hu T h0 hT) huv ((hW v).1 hv).2) x hx
  · intro hx
    exact hx (fun v => s.testBit v = true) h.src (fun u v hu huv hv => h.shut u v hu huv ((hW v).2 ⟨(hO u v huv).2, hv⟩))

theorem cut_yes {O : List Nat} {n i f Wn x : Nat} (hO : Bounded n O) (hW : ∀ v, Wn.testBit v = true ↔ v < n ∧ v ≠ i) (hf : adjS O i f) (hx : adjS O i x) (h : PtsAns O Wn f x true) : IsCut O i := by
  obtain ⟨s, e, hs⟩ := h
  refine ⟨f, x, hf, hx, fun hc => ?_⟩
  rw [(reach_cw hO hW hs x).2 hc] at e
  cases e

theorem cut_no {O : List Nat} {n i f Wn : Nat} (hO : Bounded n O) (hs : Symm O) (hi : ∀ a, ¬ adjS O a a) (hW : ∀ v, Wn.testBit v = true ↔ v < n ∧ v ≠ i) (h : ∀ x, adjS O i x → PtsAns O Wn f x false) (hf : adjS O i f) : ¬ IsCut O i := by
  rintro ⟨a, b, ha, hb, hn⟩
  have key : ∀ x, adjS O i x → CW O i f x := fun x hx => by
    obtain ⟨s, e, hr⟩ := h x hx
    refine (reach_cw hO hW hr x).1 ?_
    cases hb : s.testBit x with
    | true => rfl
    | false => rw [hb] at e; cases e
  have hfi : f ≠ i := by rintro rfl; exact hi _ hf
  exact hn (CW.trans (CW.symm hs hfi (key a ha)) (key b hb))

end Go.Proofs.Ytjeafgnaoncphaa
