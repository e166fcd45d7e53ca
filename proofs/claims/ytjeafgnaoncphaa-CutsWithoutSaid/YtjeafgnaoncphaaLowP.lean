/- A deep walk finds the points that hold their part together: plain. Conditions: in each statement. -/
import Derived.Test.YtjeafgnaoncphaaForestP
namespace Go.Proofs.Ytjeafgnaoncphaa.Gr

/-- y was met and left within x -/
def Wi (m l : List Int) (x y : Nat) : Prop := at1 m x < at1 m y ∧ at1 l y < at1 l x
def Sub (m l : List Int) (x y : Nat) : Prop := y = x ∨ Wi m l x y

theorem Wi.trans {m l : List Int} {x y z : Nat} (h : Wi m l x y) (k : Wi m l y z) : Wi m l x z := ⟨by have := h.1; have := k.1; omega, by have := h.2; have := k.2; omega⟩
theorem Wi.irr {m l : List Int} {x : Nat} (h : Wi m l x x) : False := by have := h.1; omega
theorem Wi.ne {m l : List Int} {x y : Nat} (h : Wi m l x y) : y ≠ x := by rintro rfl; exact h.irr
theorem Sub.up {m l : List Int} {x y z : Nat} (h : Wi m l x y) (k : Sub m l y z) : Wi m l x z := by
  rcases k with rfl | k
  · exact h
  · exact h.trans k

/-- the earliest time that comes back from i -/
structure IsLow (O : List Nat) (n : Nat) (m l c : List Int) (i : Nat) (v : Int) : Prop where
  own : v ≤ at1 m i
  all : ∀ j k, j < n → Sub m l i j → adjS O j k → at1 c j ≠ (k : Int) → v ≤ at1 m k
  some : v = at1 m i ∨ ∃ j k, j < n ∧ Sub m l i j ∧ adjS O j k ∧ at1 c j ≠ (k : Int) ∧ v = at1 m k

/-- hang together without i -/
def CW (O : List Nat) (i a b : Nat) : Prop := ∀ T : Nat → Prop, T a → (∀ u v, T u → adjS O u v → v ≠ i → T v) → T b
theorem CW.refl (O : List Nat) (i a : Nat) : CW O i a a := fun _ h _ => h
theorem CW.trans {O : List Nat} {i a b c : Nat} (h : CW O i a b) (k : CW O i b c) : CW O i a c := fun T h0 hT => k T (h T h0 hT) hT
theorem CW.first {O : List Nat} {i a b c : Nat} (h : adjS O a b) (hb : b ≠ i) (k : CW O i b c) : CW O i a c := fun T h0 hT => k T (hT a b h0 h hb) hT
theorem CW.symm {O : List Nat} {i a b : Nat} (hs : Symm O) (ha : a ≠ i) (h : CW O i a b) : CW O i b a :=
  (h (fun x => x ≠ i ∧ CW O i x a) ⟨ha, CW.refl _ _ _⟩ (fun _ _ hu huv hv => ⟨hv, CW.first (hs _ _ huv) hu.1 hu.2⟩)).2
def IsCut (O : List Nat) (i : Nat) : Prop := ∃ a b, adjS O i a ∧ adjS O i b ∧ ¬ CW O i a b

section
variable {O : List Nat} {n : Nat} {m l c : List Int}

theorem deep_parent (h : IsDeep O n m l c) {x y : Nat} (hx : x < n) (hy : y < n) (hw : Wi m l x y) : ∃ p, p < n ∧ at1 c y = (p : Int) ∧ adjS O p y ∧ Wi m l p y ∧ Sub m l x p := by
  rcases h.tree y hy with ⟨h1, _⟩ | ⟨p, p1, p2, p3, p4, p5⟩
  · exact absurd hw ((h.near y hy).1 h1 x hx)
  · refine ⟨p, p1, p2, p3, ⟨p4, p5⟩, ?_⟩
    rcases (h.near y hy).2 p p2 x hx hw with h1 | h1
    · exact .inl h1.symm
    · exact .inr h1

/-- up from y to x, above i -/
theorem chain_up (h : IsDeep O n m l c) (hs : Symm O) {i x : Nat} (hx : x < n) : ∀ (t y : Nat), y < n → (at1 m y).toNat ≤ t → Sub m l x y → Wi m l y i → CW O i y x := by
  intro t
  induction t with
  | zero =>
    intro y hy ht hxy hyi
    rcases hxy with rfl | hxy
    · exact CW.refl _ _ _
    · have := h.times x hx; have := hxy.1; omega
  | succ t ih =>
    intro y hy ht hxy hyi
    rcases hxy with rfl | hxy
    · exact CW.refl _ _ _
    · obtain ⟨p, p1, p2, p3, p4, p5⟩ := deep_parent h hx hy hxy
      have hpi := p4.trans hyi
      have := (h.times p p1).1
      have h4 := p4.1
      exact CW.first (hs _ _ p3) hpi.ne.symm (ih p p1 (by omega) p5 hpi)
/-- up from y to j, below i -/
theorem sub_conn (h : IsDeep O n m l c) (hs : Symm O) {i j : Nat} (hj : j < n) (hij : Wi m l i j) : ∀ (t y : Nat), y < n → (at1 m y).toNat ≤ t → Sub m l j y → CW O i y j := by
  intro t
  induction t with
  | zero =>
    intro y hy ht hjy
    rcases hjy with rfl | hjy
    · exact CW.refl _ _ _
    · have := h.times j hj; have := hjy.1; omega
  | succ t ih =>
    intro y hy ht hjy
    rcases hjy with rfl | hjy
    · exact CW.refl _ _ _
    · obtain ⟨p, p1, p2, p3, p4, p5⟩ := deep_parent h hj hy hjy
      have hip := Sub.up hij p5
      have := (h.times p p1).1
      have h4 := p4.1
      exact CW.first (hs _ _ p3) hip.ne (ih p p1 (by omega) p5)
/-- the child of i above y -/
theorem child_above (h : IsDeep O n m l c) {i : Nat} (hi : i < n) : ∀ (t y : Nat), y < n → (at1 m y).toNat ≤ t → Wi m l i y → ∃ j, j < n ∧ at1 c j = (i : Int) ∧ Wi m l i j ∧ Sub m l j y := by
  intro t
  induction t with
  | zero => intro y hy ht hw; have := h.times i hi; have := hw.1; omega
  | succ t ih =>
    intro y hy ht hw
    obtain ⟨p, p1, p2, p3, p4, p5⟩ := deep_parent h hi hy hw
    rcases p5 with rfl | p5
    · exact ⟨y, hy, p2, hw, .inl rfl⟩
    · have := (h.times p p1).1
      have h4 := p4.1
      obtain ⟨j, j1, j2, j3, j4⟩ := ih p p1 (by omega) p5
      refine ⟨j, j1, j2, j3, .inr ?_⟩
      rcases j4 with rfl | j4
      · exact p4
      · exact j4.trans p4
/-- a child lies within -/
theorem child_in (h : IsDeep O n m l c) {i j : Nat} (hj : j < n) (hc : at1 c j = (i : Int)) : i < n ∧ Wi m l i j ∧ adjS O i j := by
  rcases h.tree j hj with ⟨h1, _⟩ | ⟨p, p1, p2, p3, p4, p5⟩
  · rw [hc] at h1; omega
  · have : p = i := by omega
    subst this
    exact ⟨p1, ⟨p4, p5⟩, p3⟩
theorem nested (h : IsDeep O n m l c) {x y z : Nat} (hx : x < n) (hz : z < n) (h1 : Sub m l x y) (h2 : Sub m l z y) (hy : y < n) : x = z ∨ Wi m l x z ∨ Wi m l z x := by
  by_cases e : x = z
  · exact .inl e
  · have tx := h.times x hx
    have tz := h.times z hz
    have ty := h.times y hy
    rcases h.nest x z hx hz e with h3 | h3 | h3
    · exfalso
      rcases h1 with rfl | h1 <;> rcases h2 with rfl | h2
      · exact e rfl
      · have := h2.1; have := h2.2; omega
      · have := h1.1; have := h1.2; omega
      · have := h1.1; have := h1.2; have := h2.1; have := h2.2; omega
    · exact .inr (.inl h3)
    · exact .inr (.inr h3)

/-- no line leads out of what was met from j on, but to i -/
theorem sub_shut (h : IsDeep O n m l c) (hO : Bounded n O) (hi' : ∀ a, ¬ adjS O a a) {i j : Nat} (hj : j < n) (hc : at1 c j = (i : Int))
    (hout : ∀ y k, y < n → Sub m l j y → adjS O y k → at1 c y ≠ (k : Int) → ¬ Wi m l k i) {b : Nat} (hb : CW O i j b) : Sub m l j b ∧ b < n := by
  obtain ⟨hin, hij, _⟩ := child_in h hj hc
  refine hb (fun y => Sub m l j y ∧ y < n) ⟨.inl rfl, hj⟩ ?_
  rintro y k ⟨hy, hyn⟩ hyk hki
  have hkn := (hO y k hyk).2
  refine ⟨?_, hkn⟩
  have hne : y ≠ k := by rintro rfl; exact hi' _ hyk
  rcases h.line y k hyk hne with hw | hw
  · rcases hy with rfl | hy
    · exact .inr hw
    · exact .inr (hy.trans hw)
  · -- k is above y
    rcases nested h hj hkn hy (.inr hw) hyn with e | e | e
    · exact .inl e.symm
    · exact .inr e
    · exfalso
      -- k is above j: above i
      have hki2 : k = i ∨ Wi m l k i := (h.near j hj).2 i hc k hkn e
      rcases hki2 with h1 | h1
      · exact hki h1
      · refine hout y k hyn hy hyk ?_ h1
        intro hcy
        rcases hy with rfl | hy
        · rw [hc] at hcy
          have : k = i := by omega
          exact hki this
        · rcases (h.near y hyn).2 k hcy j hj hy with h2 | h2
          · subst h2; exact e.irr
          · exact (e.trans h2).irr

theorem cut_inner (h : IsDeep O n m l c) (hO : Bounded n O) (hs : Symm O) (hi' : ∀ a, ¬ adjS O a a) {i q : Nat} (hin : i < n) (hq : at1 c i = (q : Int)) {low : Nat → Int} (hl : ∀ j, j < n → IsLow O n m l c j (low j)) :
    IsCut O i ↔ ∃ j, j < n ∧ at1 c j = (i : Int) ∧ at1 m i ≤ low j := by
  obtain ⟨hqn, hqi, hqa⟩ := child_in h hin hq
  constructor
  · rintro ⟨a, b, ha, hb, hab⟩
    apply Classical.byContradiction
    intro hno
    have key : ∀ x, adjS O i x → CW O i x q := by
      intro x hx
      have hxn := (hO i x hx).2
      have hne : i ≠ x := by rintro rfl; exact hi' _ hx
      have anc : ∀ k, k < n → Wi m l k i → CW O i k q := by
        intro k hk hki
        -- k above i: q below or at k
        have : Sub m l k q := by
          rcases (h.near i hin).2 q hq k hk hki with e | e
          · exact .inl e.symm
          · exact .inr e
        exact (chain_up h hs hk _ q hqn (Nat.le_refl _) this hqi).symm hs hqi.ne.symm
      rcases h.line i x hx hne with hw | hw
      · obtain ⟨j, j1, j2, j3, j4⟩ := child_above h hin _ x hxn (Nat.le_refl _) hw
        have hlj := hl j j1
        have hlt : low j < at1 m i := by
          rcases Int.lt_or_le (low j) (at1 m i) with h1 | h1
          · exact h1
          · exact absurd ⟨j, j1, j2, h1⟩ hno
        rcases hlj.some with h1 | ⟨y, k, y1, y2, y3, y4, y5⟩
        · have := j3.1; omega
        · have hkn := (hO y k y3).2
          have hiy := Sub.up j3 y2
          have hki : k ≠ i := by rintro rfl; omega
          have hyk : y ≠ k := by rintro rfl; exact hi' _ y3
          have hwk : Wi m l k y := by
            rcases h.line y k y3 hyk with h2 | h2
            · have := h2.1; have := hiy.1; omega
            · exact h2
          have hki2 : Wi m l k i := by
            rcases nested h hkn hin (.inr hwk) (.inr hiy) y1 with e | e | e
            · exact absurd e hki
            · exact e
            · have := e.1; omega
          have c1 := sub_conn h hs j1 j3 _ x hxn (Nat.le_refl _) j4
          have c2 := (sub_conn h hs j1 j3 _ y y1 (Nat.le_refl _) y2).symm hs hiy.ne
          exact (c1.trans c2).trans (CW.first y3 hki (anc k hkn hki2))
      · exact anc x hxn hw
    have hbi : b ≠ i := by rintro rfl; exact hi' _ hb
    exact hab ((key a ha).trans ((key b hb).symm hs hbi))
  · rintro ⟨j, hj, hc, hlow⟩
    obtain ⟨_, hij, hia⟩ := child_in h hj hc
    refine ⟨j, q, hia, hs _ _ hqa, fun hcon => ?_⟩
    obtain ⟨h1, _⟩ := sub_shut h hO hi' hj hc (fun y k hy hjy hyk hck hki => by
      have := (hl j hj).all y k hy hjy hyk hck
      have := hki.1
      omega) hcon
    have := Sub.up hij h1
    exact (this.trans hqi).irr

theorem cut_root (h : IsDeep O n m l c) (hO : Bounded n O) (hs : Symm O) (hi' : ∀ a, ¬ adjS O a a) {i : Nat} (hin : i < n) (hr : at1 c i = -1) :
    IsCut O i ↔ ∃ j j', j < n ∧ j' < n ∧ j ≠ j' ∧ at1 c j = (i : Int) ∧ at1 c j' = (i : Int) := by
  have hroot := (h.near i hin).1 hr
  constructor
  · rintro ⟨a, b, ha, hb, hab⟩
    have key : ∀ x, adjS O i x → ∃ j, j < n ∧ at1 c j = (i : Int) ∧ Wi m l i j ∧ Sub m l j x ∧ x < n := by
      intro x hx
      have hxn := (hO i x hx).2
      have hne : i ≠ x := by rintro rfl; exact hi' _ hx
      rcases h.line i x hx hne with hw | hw
      · obtain ⟨j, j1, j2, j3, j4⟩ := child_above h hin _ x hxn (Nat.le_refl _) hw
        exact ⟨j, j1, j2, j3, j4, hxn⟩
      · exact absurd hw (hroot x hxn)
    obtain ⟨j, j1, j2, j3, j4, j5⟩ := key a ha
    obtain ⟨j', k1, k2, k3, k4, k5⟩ := key b hb
    refine ⟨j, j', j1, k1, ?_, j2, k2⟩
    rintro rfl
    have hbi : b ≠ i := (Sub.up j3 k4).ne
    exact hab ((sub_conn h hs j1 j3 _ a j5 (Nat.le_refl _) j4).trans ((sub_conn h hs j1 j3 _ b k5 (Nat.le_refl _) k4).symm hs hbi))
  · rintro ⟨j, j', hj, hj', hne, hc, hc'⟩
    obtain ⟨_, hij, hia⟩ := child_in h hj hc
    obtain ⟨_, hij', hia'⟩ := child_in h hj' hc'
    refine ⟨j, j', hia, hia', fun hcon => ?_⟩
    obtain ⟨h1, _⟩ := sub_shut h hO hi' hj hc (fun y k hy hjy hyk hck hki => hroot k (hO y k hyk).2 hki) hcon
    rcases h1 with h1 | h1
    · exact hne h1.symm
    · rcases (h.near j' hj').2 i hc' j hj h1 with h2 | h2
      · subst h2; exact hij.irr
      · exact (hij.trans h2).irr
end

end Go.Proofs.Ytjeafgnaoncphaa.Gr
