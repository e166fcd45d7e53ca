/- The way that trail.Find goes: plain. Conditions: in each statement. -/
import Derived.Test.YtoomdnbbbaooeaaDoorFleury
namespace Go.Proofs.YtoomdnbbbaooeaaDoor
open Gr

theorem filter_out {l : List Nat} (hn : l.Nodup) {k : Nat} (hk : k ∈ l) {p q : Nat → Bool} (hp : p k = true) (hq : ∀ i, q i = (p i && decide (i ≠ k))) : (l.filter p).Perm (k :: l.filter q) := by
  induction l with
  | nil => cases hk
  | cons x l ih =>
    obtain ⟨hx, hn'⟩ := List.nodup_cons.1 hn
    by_cases e : x = k
    · subst e
      have e2 : l.filter q = l.filter p := List.filter_congr fun i hi => by
        rw [hq]
        have : i ≠ x := fun e => hx (e ▸ hi)
        simp [this]
      have e3 : q x = false := by rw [hq]; simp
      rw [List.filter_cons_of_pos hp, List.filter_cons_of_neg (by rw [e3]; simp), e2]
    · have hk' : k ∈ l := (List.mem_cons.1 hk).resolve_left (fun h => e h.symm)
      have := ih hn' hk'
      have e3 : q x = p x := by rw [hq]; simp [e]
      cases hpx : p x with
      | true =>
        rw [List.filter_cons_of_pos hpx, List.filter_cons_of_pos (by rw [e3]; exact hpx)]
        exact (this.cons x).trans (List.Perm.swap k x _)
      | false =>
        rw [List.filter_cons_of_neg (by rw [hpx]; simp), List.filter_cons_of_neg (by rw [e3, hpx]; simp)]
        exact this

theorem leftL_out {ls : List Ln} {U : List Bool} {k : Nat} (hl : U.length = ls.length) (hk : k < ls.length) (hu : U[k]?.getD false = false) : (leftL ls U).Perm (ls[k] :: leftL ls (U.set k true)) := by
  unfold leftL leftUp
  have h := filter_out (p := fun i => !(U[i]?.getD false)) (q := fun i => !((U.set k true)[i]?.getD false)) (List.nodup_range (n := ls.length)) (List.mem_range.2 hk) (by simp [hu]) (fun i => by
    rw [List.getElem?_set]
    by_cases e : k = i
    · subst e; simp [hl, hk]
    · have : i ≠ k := fun e2 => e e2.symm
      simp [e, this])
  have h2 := h.map (fun i => ls[i]?.getD (0, 0))
  rw [List.map_cons, List.getElem?_eq_getElem hk] at h2
  exact h2
theorem leftL_mem {ls : List Ln} {U : List Bool} {l : Ln} (h : l ∈ leftL ls U) : ∃ k, ∃ hk : k < ls.length, U[k]?.getD false = false ∧ ls[k] = l := by
  unfold leftL leftUp at h
  obtain ⟨i, hi, rfl⟩ := List.mem_map.1 h
  obtain ⟨h1, h2⟩ := List.mem_filter.1 hi
  have h1 := List.mem_range.1 h1
  exact ⟨i, h1, by simpa using h2, by rw [List.getElem?_eq_getElem h1]; rfl⟩
theorem leftL_none (ls : List Ln) : leftL ls (List.replicate ls.length false) = ls := by
  unfold leftL leftUp
  have : (List.range ls.length).filter (fun i => !((List.replicate ls.length false)[i]?.getD false)) = List.range ls.length := by
    rw [List.filter_eq_self]
    intro i hi
    simp [List.mem_range.1 hi]
  rw [this]
  refine List.ext_getElem? fun i => ?_
  by_cases hi : i < ls.length
  · simp [hi]
  · rw [List.getElem?_eq_none (by simp; omega), List.getElem?_eq_none (by omega)]

open Classical in
/-- line i, seen from a, and what was best ahead of it -/
noncomputable def pickStep (n : Nat) (ls : List Ln) (U : List Bool) (a : Nat) (b : Int × Int) (i : Nat) : Int × Int :=
  if U[i]?.getD false = true then b else if (ls[i]?.getD (0, 0)).1 ≠ (a : Int) ∧ (ls[i]?.getD (0, 0)).2 ≠ (a : Int) then b
  else if (ls[i]?.getD (0, 0)).1 + (ls[i]?.getD (0, 0)).2 - a < b.2 ∧ Joined n (leftL ls (U.set i true)) ((ls[i]?.getD (0, 0)).1 + (ls[i]?.getD (0, 0)).2 - a).toNat then ((i : Int), (ls[i]?.getD (0, 0)).1 + (ls[i]?.getD (0, 0)).2 - a) else b
noncomputable def pickUp (n : Nat) (ls : List Ln) (U : List Bool) (a k : Nat) : Int × Int := (List.range k).foldl (pickStep n ls U a) (-1, (n : Int))
theorem pickUp_succ (n : Nat) (ls : List Ln) (U : List Bool) (a k : Nat) : pickUp n ls U a (k + 1) = pickStep n ls U a (pickUp n ls U a k) k := by
  unfold pickUp; rw [List.range_succ, List.foldl_append]; rfl

/-- a line that can be gone over next -/
def CanGo (n : Nat) (ls : List Ln) (U : List Bool) (a i b : Nat) : Prop := ∃ h : i < ls.length, U[i]?.getD false = false ∧ LnOf ls[i] a b ∧ a ≠ b ∧ b < n ∧ Joined n (leftL ls (U.set i true)) b

theorem pick_inv {n : Nat} {ls : List Ln} (U : List Bool) (a : Nat) (hg : GoodG n ls) : ∀ k, k ≤ ls.length →
    ((pickUp n ls U a k = (-1, (n : Int)) ∧ ∀ i b, i < k → ¬ CanGo n ls U a i b) ∨ ∃ i b : Nat, pickUp n ls U a k = ((i : Int), (b : Int)) ∧ i < k ∧ CanGo n ls U a i b ∧ ∀ j c, j < k → CanGo n ls U a j c → b ≤ c ∧ (c = b → i ≤ j)) := by
  intro k
  induction k with
  | zero => intro _; exact .inl ⟨rfl, fun i b h => absurd h (by omega)⟩
  | succ k ih =>
    intro hk
    have ih := ih (by omega)
    rw [pickUp_succ]
    have hkl : k < ls.length := by omega
    obtain ⟨x, y, hxy, h1, h2, h3, h4⟩ := good_line hg (List.getElem_mem hkl)
    have hget : ls[k]?.getD (0, 0) = ((x : Int), (y : Int)) := by rw [List.getElem?_eq_getElem hkl, hxy]; rfl
    have only : ∀ c, CanGo n ls U a k c → (x = a ∧ y = c) ∨ (y = a ∧ x = c) := by
      rintro c ⟨_, _, hl, _⟩
      rcases h1.end hl with ⟨e1, e2⟩ | ⟨e1, e2⟩
      · exact .inl ⟨e1.symm, e2.symm⟩
      · exact .inr ⟨e1.symm, e2.symm⟩
    -- nothing new at k
    have skip : (∀ c, CanGo n ls U a k c → ∃ i b : Nat, pickUp n ls U a k = ((i : Int), (b : Int)) ∧ b ≤ c) →
        ((pickUp n ls U a k = (-1, (n : Int)) ∧ ∀ i b, i < k + 1 → ¬ CanGo n ls U a i b) ∨ ∃ i b : Nat, pickUp n ls U a k = ((i : Int), (b : Int)) ∧ i < k + 1 ∧ CanGo n ls U a i b ∧ ∀ j c, j < k + 1 → CanGo n ls U a j c → b ≤ c ∧ (c = b → i ≤ j)) := by
      intro hno
      rcases ih with ⟨e, h⟩ | ⟨i, b, e, hi, hc, h⟩
      · refine .inl ⟨e, fun i b hi hc => ?_⟩
        by_cases e2 : i = k
        · subst e2
          obtain ⟨i', b', e3, _⟩ := hno b hc
          rw [e] at e3
          have := (Prod.mk.inj e3).1
          omega
        · exact h i b (by omega) hc
      · refine .inr ⟨i, b, e, by omega, hc, fun j c hj hjc => ?_⟩
        by_cases e2 : j = k
        · subst e2
          obtain ⟨i', b', e3, hle⟩ := hno c hjc
          rw [e] at e3
          have := (Prod.mk.inj e3).2
          exact ⟨by omega, fun _ => by omega⟩
        · exact h j c (by omega) hjc
    unfold pickStep
    rw [hget]
    by_cases hu : U[k]?.getD false = true
    · rw [if_pos hu]
      exact skip fun c hc => by obtain ⟨_, h5, _⟩ := hc; rw [hu] at h5; cases h5
    · rw [if_neg hu]
      by_cases hinc : (x : Int) ≠ (a : Int) ∧ (y : Int) ≠ (a : Int)
      · rw [if_pos hinc]
        exact skip fun c hc => by rcases only c hc with ⟨e1, _⟩ | ⟨e1, _⟩ <;> omega
      · rw [if_neg hinc]
        obtain ⟨b, hb, hlb, hab, hbn⟩ : ∃ b : Nat, (x : Int) + y - a = (b : Int) ∧ LnOf ls[k] a b ∧ a ≠ b ∧ b < n := by
          by_cases e : x = a
          · subst e; exact ⟨y, by omega, h1, h2, h4⟩
          · have e2 : y = a := by omega
            subst e2; exact ⟨x, by omega, h1.symm, h2.symm, h3⟩
        simp only
        rw [hb]
        have uniq : ∀ c, CanGo n ls U a k c → c = b := by
          intro c hc
          rcases only c hc with ⟨e1, e2⟩ | ⟨e1, e2⟩ <;> omega
        by_cases hlt : (b : Int) < (pickUp n ls U a k).2 ∧ Joined n (leftL ls (U.set k true)) (b : Int).toNat
        · rw [if_pos hlt]
          have hcg : CanGo n ls U a k b := ⟨hkl, by simpa using hu, hlb, hab, hbn, by simpa using hlt.2⟩
          refine .inr ⟨k, b, rfl, by omega, hcg, fun j c hj hjc => ?_⟩
          by_cases e2 : j = k
          · subst e2
            have := uniq c hjc
            exact ⟨by omega, fun _ => by omega⟩
          · rcases ih with ⟨e, h⟩ | ⟨i', b', e, hi', hc', h⟩
            · exact absurd hjc (h j c (by omega))
            · rw [e] at hlt
              have h5 := (h j c (by omega) hjc).1
              have h6 := hlt.1
              simp only at h6
              exact ⟨by omega, fun e5 => by omega⟩
        · rw [if_neg hlt]
          refine skip fun c hc => ?_
          have hcb := uniq c hc
          subst hcb
          obtain ⟨_, _, _, _, _, hj⟩ := hc
          have h6 : ¬ ((c : Int) < (pickUp n ls U a k).2) := fun h => hlt ⟨h, by simpa using hj⟩
          rcases ih with ⟨e, _⟩ | ⟨i', b', e, _⟩
          · rw [e] at h6; simp only at h6; omega
          · rw [e] at h6; simp only at h6
            exact ⟨i', b', e, by omega⟩

/-- the next line and point, if all is as it shall be -/
theorem pick_ok {n : Nat} {ls : List Ln} {U : List Bool} {a t : Nat} (hg : GoodG n ls) (hul : U.length = ls.length) (hpar : Par n (leftL ls U) a t) (ht : t < n) (ha : a < n) (hj : Joined n (leftL ls U) a) (hne : leftL ls U ≠ []) :
    ∃ i b : Nat, pickUp n ls U a ls.length = ((i : Int), (b : Int)) ∧ CanGo n ls U a i b ∧ ∀ j c, CanGo n ls U a j c → b ≤ c ∧ (c = b → i ≤ j) := by
  rcases pick_inv U a hg ls.length (Nat.le_refl _) with ⟨_, h⟩ | ⟨i, b, e, hi, hc, h⟩
  · exfalso
    have hgl := leftL_good U hg
    obtain ⟨e, M, b, h1, h2, h3, h4, h5⟩ := fleury hgl hpar ht ha ((joined_iff hgl a).1 hj) hne
    obtain ⟨k, hk, hu, rfl⟩ := leftL_mem (h1.mem_iff.2 List.mem_cons_self)
    have h6 := leftL_out hul hk hu
    have h7 : M.Perm (leftL ls (U.set k true)) := (List.perm_cons _).1 (h1.symm.trans h6)
    exact h k b hk ⟨hk, hu, h2, h3, h4, (joined_iff (leftL_good _ hg) b).2 (h5.perm h7)⟩
  · exact ⟨i, b, e, hc, fun j c hjc => h j c (by obtain ⟨hj, _⟩ := hjc; exact hj) hjc⟩

/-- which lines are used, and where one is, after j lines -/
noncomputable def goSt (n : Nat) (ls : List Ln) (a0 : Nat) : Nat → List Bool × Nat
  | 0 => (List.replicate ls.length false, a0)
  | j + 1 => ((goSt n ls a0 j).1.set (pickUp n ls (goSt n ls a0 j).1 (goSt n ls a0 j).2 ls.length).1.toNat true, (pickUp n ls (goSt n ls a0 j).1 (goSt n ls a0 j).2 ls.length).2.toNat)
/-- the points gone over, after j lines -/
noncomputable def wayUp (n : Nat) (ls : List Ln) (a0 j : Nat) : List Nat := (List.range (j + 1)).map fun i => (goSt n ls a0 i).2
theorem wayUp_succ (n : Nat) (ls : List Ln) (a0 j : Nat) : wayUp n ls a0 (j + 1) = wayUp n ls a0 j ++ [(goSt n ls a0 (j + 1)).2] := by
  unfold wayUp; rw [List.range_succ, List.map_append]; rfl
theorem wayUp_length (n : Nat) (ls : List Ln) (a0 j : Nat) : (wayUp n ls a0 j).length = j + 1 := by simp [wayUp]

structure GoInv (n : Nat) (ls : List Ln) (t j : Nat) (s : List Bool × Nat) : Prop where
  len : s.1.length = ls.length
  left : (leftL ls s.1).length + j = ls.length
  par : Par n (leftL ls s.1) s.2 t
  join : Joined n (leftL ls s.1) s.2
  lt : s.2 < n
theorem GoInv.pick {n : Nat} {ls : List Ln} {t j : Nat} {s : List Bool × Nat} (hg : GoodG n ls) (ht : t < n) (h : GoInv n ls t j s) (hj : j < ls.length) :
    ∃ i b : Nat, pickUp n ls s.1 s.2 ls.length = ((i : Int), (b : Int)) ∧ CanGo n ls s.1 s.2 i b ∧ ∀ j c, CanGo n ls s.1 s.2 j c → b ≤ c ∧ (c = b → i ≤ j) :=
  pick_ok hg h.len h.par ht h.lt h.join (fun e => by have := h.left; rw [e] at this; simp at this; omega)
theorem go_inv {n : Nat} {ls : List Ln} {a0 t : Nat} (hg : GoodG n ls) (hpar : Par n ls a0 t) (ht : t < n) (ha : a0 < n) (hj : Joined n ls a0) : ∀ j, j ≤ ls.length → GoInv n ls t j (goSt n ls a0 j) := by
  intro j
  induction j with
  | zero =>
    intro _
    have e : leftL ls (goSt n ls a0 0).1 = ls := leftL_none ls
    exact ⟨by simp [goSt], by rw [e]; omega, by rw [e]; exact hpar, by rw [e]; exact hj, ha⟩
  | succ j ih =>
    intro hjl
    have h := ih (by omega)
    obtain ⟨i, b, e, hc, _⟩ := h.pick hg ht (by omega)
    obtain ⟨hi, hu, hl, hab, hb, hjn⟩ := hc
    have e1 : goSt n ls a0 (j + 1) = ((goSt n ls a0 j).1.set i true, b) := by rw [goSt, e]; simp
    rw [e1]
    have hp := leftL_out h.len hi hu
    have hlen := hp.length_eq
    rw [List.length_cons] at hlen
    exact ⟨by simp [h.len], by have := h.left; simp only; omega, h.par.next hp hl hab, hjn, hb⟩

end Go.Proofs.YtoomdnbbbaooeaaDoor
