/- What the document asks of points and lines that hold parts together: plain. Conditions: in each statement. -/
import Derived.Test.YtgjkefniknbdeaaDoorButP
import Derived.Test.YtgjkefniknbdeaaDoorCutsPoints
import Derived.Test.YtgjkefniknbdeaaDoorFarO
namespace Go.Proofs.YtgjkefniknbdeaaDoor
open Go.RowKit Gr

/-- the lines that don't touch i -/
def awayL (ls : List Ln) (i : Nat) : List Ln := ls.filter fun l => decide (l.1 ≠ (i : Int)) && decide (l.2 ≠ (i : Int))
theorem away_good {n : Nat} {ls : List Ln} (hg : GoodG n ls) (i : Nat) : GoodG n (awayL ls i) :=
  ⟨hg.1, hg.2.1, Nat.le_trans (List.length_filter_le _ _) hg.2.2.1, fun l hl => hg.2.2.2 l (List.mem_filter.1 hl).1⟩
theorem near_away (ls : List Ln) (i : Nat) (a b : Int) : near (awayL ls i) a b = true ↔ a ≠ (i : Int) ∧ b ≠ (i : Int) ∧ near ls a b = true := by
  rw [near_iff, near_iff]
  unfold awayL
  constructor
  · rintro ⟨l, hl, h⟩
    obtain ⟨h1, h2⟩ := List.mem_filter.1 hl
    simp only [Bool.and_eq_true, decide_eq_true_eq] at h2
    exact ⟨by omega, by omega, l, h1, h⟩
  · rintro ⟨h1, h2, l, hl, h⟩
    refine ⟨l, List.mem_filter.2 ⟨hl, ?_⟩, h⟩
    simp only [Bool.and_eq_true, decide_eq_true_eq]
    omega
theorem adj_away {n : Nat} {ls : List Ln} (hg : GoodG n ls) (i : Nat) (a b : Nat) : adjS (beside n (awayL ls i)) a b ↔ ((a : Int) ≠ (i : Int) ∧ (b : Int) ≠ (i : Int) ∧ near ls a b = true) := by
  rw [adj_near (away_good hg i), near_away]
theorem cw_away {n : Nat} {ls : List Ln} (hg : GoodG n ls) {i a b : Nat} (ha : a ≠ i) : Conn (beside n (awayL ls i)) a b ↔ CW (beside n ls) i a b := by
  constructor
  · intro h T h0 hT
    refine h T h0 fun u v hu huv => ?_
    have := (adj_away hg i u v).1 huv
    exact hT u v hu ((adj_near hg u v).2 this.2.2) (by omega)
  · intro h T h0 hT
    have := h (fun v => v ≠ i ∧ T v) ⟨ha, h0⟩ (fun u v hu huv hv => ⟨hv, hT u v hu.2 ((adj_away hg i u v).2 ⟨by have := hu.1; omega, by omega, (adj_near hg u v).1 huv⟩)⟩)
    exact this.2
/-- i holds its part together just if two others hang together with it alone -/
theorem cut_far {n : Nat} {ls : List Ln} (hg : GoodG n ls) (i : Nat) : IsCut (beside n ls) i ↔ ∃ a b, a < n ∧ b < n ∧ a ≠ i ∧ b ≠ i ∧ 0 ≤ farF (beside n ls) n a b ∧ farF (beside n (awayL ls i)) n a b < 0 := by
  have hs : Symm (beside n ls) := fun _ _ h => adj_symm hg h
  have hb := adj_bounded hg
  have hb' := adj_bounded (away_good hg i)
  constructor
  · rintro ⟨a, b, h1, h2, h3⟩
    have ha := adj_ne hg h1
    have hbb := adj_ne hg h2
    refine ⟨a, b, (hb _ _ h1).2, (hb _ _ h2).2, fun e => ha e.symm, fun e => hbb e.symm, (far_conn hb b).2 (Conn.step (Conn.step (Conn.refl _ a) (hs _ _ h1)) h2), ?_⟩
    have : ¬ 0 ≤ farF (beside n (awayL ls i)) n a b := fun h => h3 ((cw_away hg (fun e => ha e.symm)).1 ((far_conn hb' b).1 h))
    omega
  · rintro ⟨a, b, _, _, ha, hbi, h1, h2⟩
    refine Classical.byContradiction fun hn => ?_
    have key : ∀ x y, adjS (beside n ls) i x → adjS (beside n ls) i y → CW (beside n ls) i x y := fun x y hx hy => Classical.byContradiction fun h => hn ⟨x, y, hx, hy, h⟩
    have h3 := (far_conn hb b).1 h1 (fun v => (v = i ∧ ∃ x, adjS (beside n ls) i x ∧ CW (beside n ls) i a x) ∨ (v ≠ i ∧ CW (beside n ls) i a v)) (.inr ⟨ha, CW.refl _ _ _⟩) (fun u v hu huv => by
      rcases hu with ⟨rfl, x, hx, hc⟩ | ⟨hu, hc⟩
      · exact .inr ⟨fun e => adj_ne hg huv e.symm, CW.trans hc (key x v hx huv)⟩
      · by_cases e : v = i
        · subst e
          exact .inl ⟨rfl, u, hs _ _ huv, hc⟩
        · exact .inr ⟨e, CW.trans hc (CW.first huv e (CW.refl _ _ _))⟩)
    rcases h3 with ⟨e, _⟩ | ⟨_, hc⟩
    · exact hbi e
    · have := (far_conn hb' b).2 ((cw_away hg ha).2 hc)
      omega

/-- was one of the pairs before (a, b) such? -/
def seenP (P : Nat → Nat → Bool) (n a b : Nat) : Bool := ((List.range a).any fun a' => (List.range n).any (P a')) || (List.range b).any (P a)
theorem seenP_zero (P : Nat → Nat → Bool) (n : Nat) : seenP P n 0 0 = false := rfl
theorem seenP_next (P : Nat → Nat → Bool) (n a b : Nat) : seenP P n a (b + 1) = (seenP P n a b || P a b) := by
  unfold seenP
  rw [List.range_succ, List.any_append]
  simp [Bool.or_assoc]
theorem seenP_row (P : Nat → Nat → Bool) (n a : Nat) : seenP P n a n = seenP P n (a + 1) 0 := by
  unfold seenP
  rw [List.range_succ, List.any_append]
  simp
theorem seenP_all (P : Nat → Nat → Bool) (n : Nat) : seenP P n n 0 = true ↔ ∃ a b, a < n ∧ b < n ∧ P a b = true := by
  unfold seenP
  simp only [List.range_zero, List.any_nil, Bool.or_false, List.any_eq_true, List.mem_range]
  constructor
  · rintro ⟨a, ha, b, hb, h⟩; exact ⟨a, b, ha, hb, h⟩
  · rintro ⟨a, b, ha, hb, h⟩; exact ⟨a, ha, b, hb, h⟩
/-- a and b hang together with i alone -/
def partB (n : Nat) (ls : List Ln) (i a b : Nat) : Bool := decide (a ≠ i) && decide (b ≠ i) && decide (0 ≤ farF (beside n ls) n a b) && decide (farF (beside n (awayL ls i)) n a b < 0)
theorem seen_cut {n : Nat} {ls : List Ln} (hg : GoodG n ls) (i : Nat) : seenP (partB n ls i) n n 0 = true ↔ IsCut (beside n ls) i := by
  rw [seenP_all, cut_far hg]
  unfold partB
  simp only [Bool.and_eq_true, decide_eq_true_eq, and_assoc]

/-- without line k, which joins i and j, they hang together no more just if it is a bridge -/
theorem but_bridge {n : Nat} {ls : List Ln} (hg : GoodG n ls) {k i j : Nat} (hk : k < ls.length) (hj : joins (i : Int) (j : Int) ls[k] = true) :
    farF (beside n (ls.eraseIdx k)) n i j < 0 ↔ near (bridgesL n ls) i j = true := by
  have hg' := good_but hg k
  have hA : ∀ u v, adjS (beside n ls) u v ↔ 0 < many ls (u : Int) (v : Int) := fun u v => by rw [adj_near hg, many_near]
  have hA' : ∀ u v, adjS (beside n (ls.eraseIdx k)) u v ↔ 0 < many (ls.eraseIdx k) (u : Int) (v : Int) := fun u v => by rw [adj_near hg', many_near]
  have hfc := far_conn (n := n) (a := i) (adj_bounded hg') j
  have hlt : farF (beside n (ls.eraseIdx k)) n i j < 0 ↔ ¬ Conn (beside n (ls.eraseIdx k)) i j := by rw [← hfc]; omega
  have hM := many_but hk (i : Int) (j : Int)
  rw [hj, if_pos rfl] at hM
  have hJ : ∀ u v : Nat, ¬ (u = i ∧ v = j) → ¬ (u = j ∧ v = i) → joins (u : Int) (v : Int) ls[k] = false := fun u v h1 h2 => by
    rw [Bool.eq_false_iff]
    intro h
    unfold joins at h hj
    simp only [Bool.or_eq_true, Bool.and_eq_true, beq_iff_eq] at h hj
    omega
  rw [hlt, near_bridges hg]
  constructor
  · intro hn
    have h1 : many ls (i : Int) (j : Int) = 1 := by
      refine Classical.byContradiction fun h => hn ?_
      exact Conn.step (Conn.refl _ i) ((hA' i j).2 (by omega))
    refine ⟨h1, fun hc => hn fun T h0 hT => ?_⟩
    refine hc T h0 fun u v hu huv n1 n2 => hT u v hu ?_
    have := many_but hk (u : Int) (v : Int)
    rw [hJ u v n1 n2] at this
    rw [hA] at huv
    rw [hA']
    rw [if_neg (by simp), Nat.add_zero] at this
    omega
  · rintro ⟨h1, h2⟩ hc
    refine h2 fun T h0 hT => hc T h0 fun u v hu huv => ?_
    have h0' : many (ls.eraseIdx k) (i : Int) (j : Int) = 0 := by omega
    rw [hA'] at huv
    refine hT u v hu ?_ ?_ ?_
    · rw [hA]
      have := many_but hk (u : Int) (v : Int)
      omega
    · rintro ⟨rfl, rfl⟩; omega
    · rintro ⟨rfl, rfl⟩
      rw [many_swap] at huv
      omega

/-- is line k one that joins i and j, and a bridge? -/
def hitB (n : Nat) (ls : List Ln) (i j k : Nat) : Bool := joins (i : Int) (j : Int) (ls[k]?.getD (0, 0)) && decide (farF (beside n (ls.eraseIdx k)) n i j < 0)
def hitUp (n : Nat) (ls : List Ln) (i j k : Nat) : List Ln := ((List.range k).filter (hitB n ls i j)).map fun _ => ((i : Int), (j : Int))
theorem hitUp_succ (n : Nat) (ls : List Ln) (i j k : Nat) : hitUp n ls i j (k + 1) = hitUp n ls i j k ++ (if hitB n ls i j k = true then [((i : Int), (j : Int))] else []) := by
  unfold hitUp
  rw [List.range_succ, List.filter_append, List.map_append]
  cases h : hitB n ls i j k <;> simp [h]
theorem many_range (ls : List Ln) (i j : Int) : ((List.range ls.length).filter fun k => joins i j (ls[k]?.getD (0, 0))).length = many ls i j := by
  have e : (List.range ls.length).map (fun k => ls[k]?.getD (0, 0)) = ls := by
    refine List.ext_getElem (by simp) fun k h1 h2 => ?_
    simp [h2]
  unfold many
  conv => rhs; rw [← e]
  rw [List.filter_map, List.length_map]
  rfl
theorem hits_all {n : Nat} {ls : List Ln} (hg : GoodG n ls) (i j : Nat) : hitUp n ls i j ls.length = if near (bridgesL n ls) i j = true then [((i : Int), (j : Int))] else [] := by
  have e : (List.range ls.length).filter (hitB n ls i j) = (List.range ls.length).filter fun k => joins (i : Int) (j : Int) (ls[k]?.getD (0, 0)) && near (bridgesL n ls) i j := List.filter_congr fun k hk => by
    have hk' := List.mem_range.1 hk
    unfold hitB
    rw [List.getElem?_eq_getElem hk', Option.getD_some]
    cases hj : joins (i : Int) (j : Int) ls[k] with
    | false => rfl
    | true =>
      have := but_bridge hg hk' hj
      rw [Bool.true_and, Bool.true_and, Bool.eq_iff_iff, decide_eq_true_eq]
      exact this
  unfold hitUp
  rw [e]
  by_cases hb : near (bridgesL n ls) i j = true
  · rw [if_pos hb, hb]
    simp only [Bool.and_true]
    have h1 := many_range ls (i : Int) (j : Int)
    rw [((near_bridges hg i j).1 hb).1] at h1
    obtain ⟨x, hx⟩ := List.length_eq_one_iff.1 h1
    rw [hx]; rfl
  · have hb' : near (bridgesL n ls) i j = false := by cases h : near (bridgesL n ls) (i : Int) (j : Int) with | false => rfl | true => exact absurd h hb
    rw [if_neg hb, hb']
    simp

/-- the bridges from i on to points below j -/
def rowUp (n : Nat) (ls : List Ln) (i j : Nat) : List Ln := ((List.range j).filter fun j' => decide (i < j') && near (bridgesL n ls) (i : Int) (j' : Int)).map fun (j' : Nat) => ((i : Int), (j' : Int))
theorem rowUp_succ (n : Nat) (ls : List Ln) {i j : Nat} (h : i < j) : rowUp n ls i (j + 1) = rowUp n ls i j ++ (if near (bridgesL n ls) i j = true then [((i : Int), (j : Int))] else []) := by
  unfold rowUp
  rw [List.range_succ, List.filter_append, List.map_append]
  cases hn : near (bridgesL n ls) (i : Int) (j : Int) <;> simp [hn, h]
theorem rowUp_none (n : Nat) (ls : List Ln) (i : Nat) : rowUp n ls i (i + 1) = [] := by
  unfold rowUp
  rw [List.map_eq_nil_iff, List.filter_eq_nil_iff]
  intro a ha
  have := List.mem_range.1 ha
  simp; omega
def allUp (n : Nat) (ls : List Ln) (i : Nat) : List Ln := (List.range i).flatMap fun i' => rowUp n ls i' n
theorem allUp_succ (n : Nat) (ls : List Ln) (i : Nat) : allUp n ls (i + 1) = allUp n ls i ++ rowUp n ls i n := by
  unfold allUp
  rw [List.range_succ, List.flatMap_append]
  simp
theorem rowUp_le (n : Nat) (ls : List Ln) (i j : Nat) : (rowUp n ls i j).length ≤ j := by
  unfold rowUp; rw [List.length_map]; refine Nat.le_trans (List.length_filter_le _ _) ?_; simp
theorem allUp_le (n : Nat) (ls : List Ln) : ∀ i, (allUp n ls i).length ≤ i * n := by
  intro i
  induction i with
  | zero => simp [allUp]
  | succ i ih =>
    rw [allUp_succ, List.length_append, Nat.succ_mul]
    have := rowUp_le n ls i n
    omega
theorem hitUp_le (n : Nat) (ls : List Ln) (i j k : Nat) : (hitUp n ls i j k).length ≤ k := by
  unfold hitUp; rw [List.length_map]; refine Nat.le_trans (List.length_filter_le _ _) ?_; simp

def ltL (x y : Ln) : Prop := x.1 < y.1 ∨ (x.1 = y.1 ∧ x.2 < y.2)
theorem all_rises (n : Nat) (ls : List Ln) : (allUp n ls n).Pairwise ltL := by
  unfold allUp
  rw [List.pairwise_flatMap]
  refine ⟨fun i _ => ?_, ?_⟩
  · unfold rowUp
    rw [List.pairwise_map]
    refine (List.Pairwise.filter _ List.pairwise_lt_range).imp fun {a b} h => ?_
    right
    exact ⟨rfl, by simp only; omega⟩
  · refine List.pairwise_lt_range.imp fun {a b} h x hx y hy => ?_
    unfold rowUp at hx hy
    obtain ⟨p, _, rfl⟩ := List.mem_map.1 hx
    obtain ⟨q, _, rfl⟩ := List.mem_map.1 hy
    left
    simp only
    omega
theorem mem_all {n : Nat} {ls : List Ln} (hg : GoodG n ls) (l : Ln) : l ∈ allUp n ls n ↔ l ∈ bridgesL n ls := by
  unfold allUp rowUp
  rw [List.mem_flatMap]
  constructor
  · rintro ⟨i, hi, h⟩
    obtain ⟨j, hj, rfl⟩ := List.mem_map.1 h
    have h2 := (List.mem_filter.1 hj).2
    simp only [Bool.and_eq_true, decide_eq_true_eq] at h2
    obtain ⟨l, hl, h3⟩ := near_iff.1 h2.2
    obtain ⟨a, b, rfl, hab, _⟩ := mem_brUp hg hl
    simp only at h3
    have e : ((i : Int), (j : Int)) = ((a : Int), (b : Int)) := Prod.ext (by simp only; omega) (by simp only; omega)
    rw [e]; exact hl
  · intro h
    obtain ⟨a, b, rfl, hab, hbn, _⟩ := mem_brUp hg h
    refine ⟨a, List.mem_range.2 (by omega), List.mem_map.2 ⟨b, List.mem_filter.2 ⟨List.mem_range.2 hbn, ?_⟩, rfl⟩⟩
    simp only [Bool.and_eq_true, decide_eq_true_eq]
    exact ⟨hab, near_iff.2 ⟨_, h, .inl ⟨rfl, rfl⟩⟩⟩
theorem bridges_once {n : Nat} {ls : List Ln} (hg : GoodG n ls) : (bridgesL n ls).Nodup := by
  have hD := deepWalk_is hg.2.1 (adj_bounded hg) (fun _ _ h => adj_symm hg h)
  unfold bridgesL
  refine (lsort_perm _).nodup_iff.2 ?_
  unfold brUp
  refine List.pairwise_map.2 ?_
  refine (List.Pairwise.filter _ List.pairwise_lt_range).imp_of_mem fun {i j} hi hj hij e => ?_
  have hin := List.mem_range.1 (List.mem_filter.1 hi).1
  have hjn := List.mem_range.1 (List.mem_filter.1 hj).1
  have hbi := (List.mem_filter.1 hi).2
  have hbj := (List.mem_filter.1 hj).2
  unfold brAt at hbi hbj
  simp only [Bool.and_eq_true, decide_eq_true_eq] at hbi hbj
  rcases hD.tree i hin with ⟨h0, _⟩ | ⟨p, _, hp, _, hm, _⟩
  · rw [h0] at hbi; simp at hbi
  · rcases hD.tree j hjn with ⟨h0, _⟩ | ⟨q, _, hq, _, hm2, _⟩
    · rw [h0] at hbj; simp at hbj
    · unfold brLn at e
      rw [hp, hq] at e
      have e1 := congrArg Prod.fst e
      have e2 := congrArg Prod.snd e
      simp only at e1 e2
      have h1 : p = j := by omega
      have h2 : q = i := by omega
      subst h1 h2
      omega
theorem all_bridges {n : Nat} {ls : List Ln} (hg : GoodG n ls) : allUp n ls n = bridgesL n ls := by
  have hperm : (allUp n ls n).Perm (bridgesL n ls) := (List.perm_ext_iff_of_nodup ((all_rises n ls).imp fun h e => by subst e; unfold ltL at h; omega) (bridges_once hg)).2 fun l => mem_all hg l
  have hs : (bridgesL n ls).Pairwise fun x y => x.1 < y.1 ∨ (x.1 = y.1 ∧ x.2 ≤ y.2) := by
    have := List.pairwise_mergeSort (le := fun x y : Ln => decide (x.1 < y.1 ∨ (x.1 = y.1 ∧ x.2 ≤ y.2))) (fun a b c h1 h2 => by simp only [decide_eq_true_eq] at *; omega) (fun a b => by simp only [Bool.or_eq_true, decide_eq_true_eq]; omega) (brUp ls (deepWalk (beside n ls) n).met (deepWalk (beside n ls) n).frm (lows (beside n ls) n (deepWalk (beside n ls) n).met (deepWalk (beside n ls) n).left (deepWalk (beside n ls) n).frm) n)
    exact this.imp fun h => by simpa using h
  refine hperm.eq_of_pairwise (le := fun x y : Ln => x.1 < y.1 ∨ (x.1 = y.1 ∧ x.2 ≤ y.2)) (fun a b _ _ h1 h2 => ?_) ((all_rises n ls).imp fun h => by unfold ltL at h; omega) hs
  exact Prod.ext (by omega) (by omega)
end Go.Proofs.YtgjkefniknbdeaaDoor
