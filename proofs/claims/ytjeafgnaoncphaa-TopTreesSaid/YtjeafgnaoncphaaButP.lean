/- One line less: plain. Conditions: in each statement. -/
import Derived.Test.YtjeafgnaoncphaaBridges
import Derived.Test.YtjeafgnaoncphaaPlainA
import Derived.Test.YtjeafgnaoncphaaTopDeepQ
namespace Go.Proofs.Ytjeafgnaoncphaa
open Go.RowKit Gr

theorem joins_swap (a b : Int) (l : Ln) : joins a b l = joins b a l := by unfold joins; rw [Bool.or_comm]
theorem many_swap (ls : List Ln) (a b : Int) : many ls a b = many ls b a := by
  unfold many
  congr 1
  exact List.filter_congr fun l _ => joins_swap a b l
theorem many_near (ls : List Ln) (a b : Int) : near ls a b = true ↔ 0 < many ls a b := by
  rw [near_iff]
  unfold many
  rw [List.length_pos_iff_exists_mem]
  constructor
  · rintro ⟨l, hl, h⟩
    refine ⟨l, List.mem_filter.2 ⟨hl, ?_⟩⟩
    unfold joins
    simp only [Bool.or_eq_true, Bool.and_eq_true, beq_iff_eq]
    exact h
  · rintro ⟨l, hl⟩
    obtain ⟨h1, h2⟩ := List.mem_filter.1 hl
    unfold joins at h2
    simp only [Bool.or_eq_true, Bool.and_eq_true, beq_iff_eq] at h2
    exact ⟨l, h1, h2⟩
theorem many_but {ls : List Ln} : ∀ {k : Nat} (h : k < ls.length) (a b : Int), many (ls.eraseIdx k) a b + (if joins a b ls[k] then 1 else 0) = many ls a b := by
  induction ls with
  | nil => intro k h; simp at h
  | cons l ls ih =>
    intro k h a b
    have hc : ∀ m : List Ln, many (l :: m) a b = many m a b + (if joins a b l then 1 else 0) := fun m => by
      unfold many
      by_cases e : joins a b l <;> simp [e]
    cases k with
    | zero => rw [List.eraseIdx_cons_zero, hc]; rfl
    | succ k =>
      have h' : k < ls.length := by simpa using h
      rw [List.eraseIdx_cons_succ, hc, hc, ← ih h' a b, List.getElem_cons_succ]
      omega

theorem mem_brUp {n : Nat} {ls : List Ln} (hg : GoodG n ls) {l : Ln} (h : l ∈ bridgesL n ls) : ∃ a b : Nat, l = ((a : Int), (b : Int)) ∧ a < b ∧ b < n ∧ many ls a b = 1 ∧ adjS (beside n ls) a b ∧ ¬ CE (beside n ls) a b a b := by
  have hD := deepWalk_is hg.2.1 (adj_bounded hg) (fun _ _ h => adj_symm hg h)
  have h1 := (lsort_perm _).mem_iff.1 h
  unfold brUp at h1
  obtain ⟨i, hi, e⟩ := List.mem_map.1 h1
  have hin := List.mem_range.1 (List.mem_filter.1 hi).1
  have hb := (List.mem_filter.1 hi).2
  unfold brAt at hb
  rcases hD.tree i hin with ⟨h0, _⟩ | ⟨p, hpn, hp, hadj, hm, _⟩
  · rw [h0] at hb; simp at hb
  · rw [hp] at hb
    have htn : ((p : Int)).toNat = p := by omega
    rw [htn] at hb
    simp only [Bool.and_eq_true, decide_eq_true_eq] at hb
    obtain ⟨⟨_, h2⟩, h3⟩ := hb
    have hat : at1 (lows (beside n ls) n (deepWalk (beside n ls) n).met (deepWalk (beside n ls) n).left (deepWalk (beside n ls) n).frm) i = lowOf (beside n ls) n (deepWalk (beside n ls) n).met (deepWalk (beside n ls) n).left (deepWalk (beside n ls) n).frm i := by unfold lows at1; simp [hin]
    rw [hat] at h2
    have hc := bridge_cut hD (adj_bounded hg) (fun a h => adj_ne hg h rfl) hin hp (lowOf_is hD (adj_nbs hg.2.1 (adj_bounded hg)) hin) h2
    have hne : i ≠ p := by rintro rfl; omega
    have hms : many ls (p : Int) (i : Int) = 1 := by rw [many_swap]; exact h3
    unfold brLn at e
    rw [hp] at e
    by_cases hip : i < p
    · refine ⟨i, p, ?_, hip, hpn, h3, adj_symm hg hadj, hc⟩
      rw [← e]
      exact Prod.ext (by simp only; omega) (by simp only; omega)
    · refine ⟨p, i, ?_, by omega, hin, hms, hadj, fun hce => hc (CE.symm (fun _ _ h => adj_symm hg h) hce.swap)⟩
      rw [← e]
      exact Prod.ext (by simp only; omega) (by simp only; omega)

theorem brUp_near {n : Nat} {ls : List Ln} (hg : GoodG n ls) {a b : Nat} (hadj : adjS (beside n ls) a b) (hm : many ls a b = 1) (hc : ¬ CE (beside n ls) a b a b) (hw : Wi (deepWalk (beside n ls) n).met (deepWalk (beside n ls) n).left a b) : near (bridgesL n ls) a b = true := by
  have hs : Symm (beside n ls) := fun _ _ h => adj_symm hg h
  have hD := deepWalk_is hg.2.1 (adj_bounded hg) hs
  have hbn := (adj_bounded hg a b hadj).2
  obtain ⟨h1, h2⟩ := bridge_back hD (adj_bounded hg) hs (fun a h => adj_ne hg h rfl) hadj hw (lowOf_is hD (adj_nbs hg.2.1 (adj_bounded hg)) hbn) (fun h => hc (CE.symm hs h))
  have hat : at1 (lows (beside n ls) n (deepWalk (beside n ls) n).met (deepWalk (beside n ls) n).left (deepWalk (beside n ls) n).frm) b = lowOf (beside n ls) n (deepWalk (beside n ls) n).met (deepWalk (beside n ls) n).left (deepWalk (beside n ls) n).frm b := by unfold lows at1; simp [hbn]
  have hbr : brAt ls (deepWalk (beside n ls) n).met (deepWalk (beside n ls) n).frm (lows (beside n ls) n (deepWalk (beside n ls) n).met (deepWalk (beside n ls) n).left (deepWalk (beside n ls) n).frm) b = true := by
    unfold brAt
    have htn : ((a : Int)).toNat = a := by omega
    have hm' : many ls (b : Int) (a : Int) = 1 := by rw [many_swap]; exact hm
    rw [h1, htn, hat, decide_eq_true h2, decide_eq_true hm']
    simp
  have hmem : brLn (deepWalk (beside n ls) n).frm b ∈ bridgesL n ls :=
    (lsort_perm _).mem_iff.2 (List.mem_map.2 ⟨b, List.mem_filter.2 ⟨List.mem_range.2 hbn, hbr⟩, rfl⟩)
  rw [near_iff]
  refine ⟨_, hmem, ?_⟩
  unfold brLn
  rw [h1]
  simp only
  omega

theorem near_bridges {n : Nat} {ls : List Ln} (hg : GoodG n ls) (a b : Nat) : near (bridgesL n ls) a b = true ↔ many ls a b = 1 ∧ ¬ CE (beside n ls) a b a b := by
  have hs : Symm (beside n ls) := fun _ _ h => adj_symm hg h
  constructor
  · intro h
    rw [near_iff] at h
    obtain ⟨l, hl, h1⟩ := h
    obtain ⟨x, y, rfl, _, _, h2, _, h4⟩ := mem_brUp hg hl
    simp only at h1
    rcases h1 with ⟨e1, e2⟩ | ⟨e1, e2⟩
    · obtain rfl : x = a := by omega
      obtain rfl : y = b := by omega
      exact ⟨h2, h4⟩
    · obtain rfl : x = b := by omega
      obtain rfl : y = a := by omega
      exact ⟨by rw [many_swap]; exact h2, fun h => h4 (CE.symm hs h.swap)⟩
  · rintro ⟨h1, h2⟩
    have hadj : adjS (beside n ls) a b := by rw [adj_near hg, many_near]; omega
    have hD := deepWalk_is hg.2.1 (adj_bounded hg) hs
    rcases hD.line a b hadj (adj_ne hg hadj) with h | h
    · exact brUp_near hg hadj h1 h2 h
    · have := brUp_near hg (adj_symm hg hadj) (by rw [many_swap]; exact h1) (fun h => h2 (CE.symm hs h.swap)) h
      rw [near_symm]; exact this

theorem good_but {n : Nat} {ls : List Ln} (hg : GoodG n ls) (k : Nat) : GoodG n (ls.eraseIdx k) := by
  obtain ⟨h1, h2, h3, h4⟩ := hg
  exact ⟨h1, h2, Nat.le_trans (List.length_eraseIdx_le _ _) h3, fun l hl => h4 l (List.mem_of_mem_eraseIdx hl)⟩

/-- a part more just without a bridge -/
theorem parts_but {n : Nat} {ls : List Ln} (hg : GoodG n ls) {k x y : Nat} (hk : k < ls.length) (hxy : ls[k] = ((x : Int), (y : Int))) :
    partsN (beside n (ls.eraseIdx k)) n = partsN (beside n ls) n + (if near (bridgesL n ls) x y = true then 1 else 0) := by
  have hg' := good_but hg k
  have hs : Symm (beside n ls) := fun _ _ h => adj_symm hg h
  have hs' : Symm (beside n (ls.eraseIdx k)) := fun _ _ h => adj_symm hg' h
  have hA : ∀ u v, adjS (beside n ls) u v ↔ 0 < many ls (u : Int) (v : Int) := fun u v => by rw [adj_near hg, many_near]
  have hA' : ∀ u v, adjS (beside n (ls.eraseIdx k)) u v ↔ 0 < many (ls.eraseIdx k) (u : Int) (v : Int) := fun u v => by rw [adj_near hg', many_near]
  have hM : ∀ u v : Nat, many (ls.eraseIdx k) (u : Int) (v : Int) + (if (x = u ∧ y = v) ∨ (x = v ∧ y = u) then 1 else 0) = many ls u v := fun u v => by
    have := many_but hk (u : Int) (v : Int)
    rw [hxy] at this
    rw [← this]
    congr 1
    unfold joins
    simp only [Bool.or_eq_true, Bool.and_eq_true, beq_iff_eq]
    have e : ((x : Int) = u ∧ (y : Int) = v ∨ (x : Int) = v ∧ (y : Int) = u) ↔ ((x = u ∧ y = v) ∨ (x = v ∧ y = u)) := by omega
    simp only [e]
  have hxx := hM x y
  rw [if_pos (.inl ⟨rfl, rfl⟩)] at hxx
  have hadj : adjS (beside n ls) x y := by rw [hA]; omega
  have hne := adj_ne hg hadj
  have hsub : ∀ u v, adjS (beside n (ls.eraseIdx k)) u v → adjS (beside n ls) u v := fun u v h => by
    rw [hA'] at h
    rw [hA, ← hM]; omega
  by_cases h1 : many ls (x : Int) (y : Int) = 1
  · have hP : Plus n (beside n ls) (beside n (ls.eraseIdx k)) x y := by
      refine ⟨adj_bounded hg, hs, hs', hsub, fun u v h => ?_, hadj, ?_, hne⟩
      · by_cases e : (x = u ∧ y = v) ∨ (x = v ∧ y = u)
        · rcases e with ⟨e1, e2⟩ | ⟨e1, e2⟩
          · exact .inr (.inl ⟨e1.symm, e2.symm⟩)
          · exact .inr (.inr ⟨e2.symm, e1.symm⟩)
        · left
          rw [hA, ← hM, if_neg e] at h
          rw [hA']; omega
      · rw [hA']; omega
    have hCE : Conn (beside n (ls.eraseIdx k)) x y ↔ CE (beside n ls) x y x y := by
      constructor
      · intro h T h0 hT
        refine h T h0 fun u v hu huv => hT u v hu (hsub u v huv) ?_ ?_
        · rintro ⟨rfl, rfl⟩; exact hP.no huv
        · rintro ⟨rfl, rfl⟩; exact hP.no (hs' _ _ huv)
      · intro h T h0 hT
        refine h T h0 fun u v hu huv n1 n2 => hT u v hu ?_
        rcases hP.split u v huv with h | h | h
        · exact h
        · exact absurd h n1
        · exact absurd h n2
    by_cases hb : near (bridgesL n ls) (x : Int) (y : Int) = true
    · rw [if_pos hb]
      exact parts_more hP (fun h => ((near_bridges hg x y).1 hb).2 (hCE.1 h))
    · rw [if_neg hb]
      refine parts_same hP (Classical.byContradiction fun h => hb ((near_bridges hg x y).2 ⟨h1, fun hc => h (hCE.2 hc)⟩))
  · have hb : ¬ near (bridgesL n ls) (x : Int) (y : Int) = true := fun h => h1 ((near_bridges hg x y).1 h).1
    rw [if_neg hb]
    have hsup : ∀ u v, adjS (beside n ls) u v → adjS (beside n (ls.eraseIdx k)) u v := fun u v h => by
      rw [hA'] 
      by_cases e : (x = u ∧ y = v) ∨ (x = v ∧ y = u)
      · have h2 := hM u v
        rw [if_pos e] at h2
        have h3 : many ls (u : Int) (v : Int) = many ls (x : Int) (y : Int) := by
          rcases e with ⟨rfl, rfl⟩ | ⟨rfl, rfl⟩
          · rfl
          · exact many_swap _ _ _
        omega
      · have h2 := hM u v
        rw [if_neg e] at h2
        rw [hA] at h; omega
    have e : ∀ a b, Conn (beside n (ls.eraseIdx k)) a b ↔ Conn (beside n ls) a b := fun a b => ⟨Conn.mono hsub, Conn.mono hsup⟩
    have e2 : ∀ i, RootC (beside n (ls.eraseIdx k)) i ↔ RootC (beside n ls) i := fun i => by unfold RootC; simp only [e]
    rw [Nat.add_zero]
    unfold partsN
    exact List.countP_congr fun i _ => by simpa using e2 i
end Go.Proofs.Ytjeafgnaoncphaa
