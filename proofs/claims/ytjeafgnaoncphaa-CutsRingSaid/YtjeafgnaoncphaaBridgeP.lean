/- What a bridge is: plain. Conditions: in each statement. -/
import Derived.Test.YtjeafgnaoncphaaLowP
namespace Go.Proofs.Ytjeafgnaoncphaa.Gr

/-- hang together without the line between a and b -/
def CE (O : List Nat) (a b x y : Nat) : Prop := ∀ T : Nat → Prop, T x → (∀ u v, T u → adjS O u v → ¬ (u = a ∧ v = b) → ¬ (u = b ∧ v = a) → T v) → T y
theorem CE.refl (O : List Nat) (a b x : Nat) : CE O a b x x := fun _ h _ => h
theorem CE.trans {O : List Nat} {a b x y z : Nat} (h : CE O a b x y) (k : CE O a b y z) : CE O a b x z := fun T h0 hT => k T (h T h0 hT) hT
theorem CE.first {O : List Nat} {a b x y z : Nat} (h : adjS O x y) (h1 : ¬ (x = a ∧ y = b)) (h2 : ¬ (x = b ∧ y = a)) (k : CE O a b y z) : CE O a b x z := fun T h0 hT => k T (hT x y h0 h h1 h2) hT
theorem CE.symm {O : List Nat} {a b x y : Nat} (hs : Symm O) (h : CE O a b x y) : CE O a b y x :=
  h (fun z => CE O a b z x) (CE.refl _ _ _ _) (fun _ _ hu huv h1 h2 => CE.first (hs _ _ huv) (fun e => h2 ⟨e.2, e.1⟩) (fun e => h1 ⟨e.2, e.1⟩) hu)
theorem CE.swap {O : List Nat} {a b x y : Nat} (h : CE O a b x y) : CE O b a x y := fun T h0 hT => h T h0 (fun u v hu huv h1 h2 => hT u v hu huv h2 h1)
theorem CE.of_cw {O : List Nat} {a b x y : Nat} (hx : x ≠ a) (h : CW O a x y) : CE O a b x y := fun T h0 hT =>
  (h (fun v => v ≠ a ∧ T v) ⟨hx, h0⟩ (fun u v hu huv hv => ⟨hv, hT u v hu.2 huv (fun e => hu.1 e.1) (fun e => hv e.2)⟩)).2

section
variable {O : List Nat} {n : Nat} {m l c : List Int}

/-- a line to the point from which i was met, over which alone one comes back: without it i hangs no more -/
theorem bridge_cut (h : IsDeep O n m l c) (hO : Bounded n O) (hi' : ∀ a, ¬ adjS O a a) {i p : Nat} (hin : i < n) (hp : at1 c i = (p : Int)) {low : Int} (hl : IsLow O n m l c i low) (hlt : at1 m p < low) : ¬ CE O i p i p := by
  obtain ⟨hpn, hpi, hadj⟩ := child_in h hin hp
  intro hc
  have := hc (fun v => v < n ∧ Sub m l i v) ⟨hin, .inl rfl⟩ (fun u v hu huv h1 h2 => by
    obtain ⟨hun, hsu⟩ := hu
    have hvn := (hO u v huv).2
    refine ⟨hvn, ?_⟩
    have huv' : u ≠ v := by rintro rfl; exact hi' _ huv
    have hcv : at1 c u ≠ (v : Int) ∨ Sub m l i v := by
      rcases hsu with rfl | hw
      · left
        rw [hp]
        intro e
        exact h1 ⟨rfl, by omega⟩
      · obtain ⟨q, q1, q2, _, _, q5⟩ := deep_parent h hin hun hw
        by_cases e : q = v
        · right; rw [← e]; exact q5
        · left; rw [q2]; intro e2; exact e (by omega)
    rcases hcv with hcv | hcv
    · have hlo := hl.all u v hun hsu huv hcv
      rcases h.line u v huv huv' with hw | hw
      · right
        rcases hsu with rfl | hs
        · exact hw
        · exact hs.trans hw
      · rcases nested h hin hvn hsu (.inr hw) hun with e | e | e
        · exact .inl e.symm
        · exact .inr e
        · exfalso
          rcases (h.near i hin).2 p hp v hvn e with e2 | e2
          · subst e2; omega
          · have := e2.1; omega
    · exact hcv)
  rcases this.2 with e | e
  · subst e; exact hpi.irr
  · have h1 := e.1
    have h2 := hpi.1
    omega

/-- a line without which its ends don't hang together goes to the point from which the one was met, and one comes back over it alone -/
theorem bridge_back (h : IsDeep O n m l c) (hO : Bounded n O) (hs : Symm O) (hi' : ∀ a, ¬ adjS O a a) {a b : Nat} (hadj : adjS O a b) (hw : Wi m l a b) {low : Int} (hl : IsLow O n m l c b low) (hn : ¬ CE O a b b a) : at1 c b = (a : Int) ∧ at1 m a < low := by
  obtain ⟨han, hbn⟩ := hO a b hadj
  obtain ⟨p, p1, p2, p3, p4, p5⟩ := deep_parent h han hbn hw
  have hab : a ≠ b := by rintro rfl; exact hi' _ hadj
  have hpb : p ≠ b := p4.ne.symm
  have hpa : p = a := by
    refine Classical.byContradiction fun hne => hn ?_
    have k : CW O b p a := chain_up h hs han (at1 m p).toNat p p1 (Nat.le_refl _) p5 p4
    exact CE.first (hs _ _ p3) (fun e => hab e.1.symm) (fun e => hne e.2) (CE.of_cw hpb k).swap
  subst hpa
  refine ⟨p2, ?_⟩
  refine Classical.byContradiction fun hlo => hn ?_
  rcases hl.some with e | ⟨j, k, j1, j2, j3, j4, j5⟩
  · have := hw.1; omega
  · have hjk : j ≠ k := by rintro rfl; exact hi' _ j3
    have hkn := (hO j k j3).2
    have hmj : at1 m b ≤ at1 m j := by
      rcases j2 with rfl | j2
      · exact Int.le_refl _
      · have := j2.1; omega
    have hwb := hw.1
    have hkj : Wi m l k j := by
      rcases h.line j k j3 hjk with e | e
      · have := e.1; omega
      · exact e
    have hkb : Wi m l k b := by
      rcases nested h hkn hbn (.inr hkj) j2 j1 with e | e | e
      · subst e; omega
      · exact e
      · have := e.1; omega
    have hka : Sub m l k p := by
      rcases (h.near b hbn).2 p p2 k hkn hkb with e | e
      · exact .inl e.symm
      · exact .inr e
    have hjp : j ≠ p := by rintro rfl; have := hw.1; omega
    have c1 : CE O p b b j := CE.symm hs (CE.of_cw hjp (sub_conn h hs hbn hw (at1 m j).toNat j j1 (Nat.le_refl _) j2))
    have c2 : CE O p b k p := CE.symm hs (CE.of_cw (b := p) hpb (chain_up h hs hkn (at1 m p).toNat p han (Nat.le_refl _) hka hw)).swap
    exact CE.trans c1 (CE.first j3 (fun e => hjp e.1) (fun e => j4 (by rw [e.1, e.2]; exact p2)) c2)
end

/-- an end of a bridge with another one beside it holds its part together -/
theorem end_cut {O : List Nat} {a b d : Nat} (hs : Symm O) (hi' : ∀ a, ¬ adjS O a a) (hab : adjS O a b) (had : adjS O a d) (hdb : d ≠ b) (hn : ¬ CE O a b a b) : IsCut O a := by
  refine ⟨b, d, hab, had, fun hc => hn ?_⟩
  have hba : b ≠ a := by rintro rfl; exact hi' _ hab
  have hda : d ≠ a := by rintro rfl; exact hi' _ had
  have c1 : CE O a b b d := CE.of_cw hba hc
  exact CE.first had (fun e => hdb e.2) (fun e => hba e.1.symm) (CE.symm hs c1)
end Go.Proofs.Ytjeafgnaoncphaa.Gr
