/- CutsEnds returns true for every input: the walk. Conditions: none. -/
import Derived.Test.YtjeafgnaoncphaaCutsFact
import Derived.Test.YtjeafgnaoncphaaBridgeP
import Derived.Test.YtjeafgnaoncphaaNear
namespace Go.Proofs.Ytjeafgnaoncphaa
open Go.RowKit Gr

theorem mem_brUp {n : Nat} {ls : List Ln} (hg : GoodG n ls) {l : Ln} (h : l ∈ bridgesL n ls) : ∃ a b : Nat, l = ((a : Int), (b : Int)) ∧ a < b ∧ b < n ∧ many ls a b = 1 ∧ adjS (beside n ls) a b ∧ ¬ CE (beside n ls) a b a b := by
  have hD := deepWalk_is hg.2.1 (adj_bounded hg) (fun _ _ h => adj_symm hg h)
  have h1 := (lsort_perm _).mem_iff.1 h
  unfold brUp at h1
  obtain ⟨i, hi, e⟩ := List.mem_map.1 h1
  have hin := List.mem_range.1 (List.mem_filter.1 hi).1
  have hb := (List.mem_filter.1 hi).2
  unfold brAt at hb
  rcases hD.tree i hin with ⟨h0, _⟩ | ⟨p, hpn, hp, hadj, hm, _⟩
  · rw [h0] at hb; simp at hb
  · rw [hp] at hb
    have htn : ((p : Int)).toNat = p := by omega
    rw [htn] at hb
    simp only [Bool.and_eq_true, decide_eq_true_eq] at hb
    obtain ⟨⟨_, h2⟩, h3⟩ := hb
    have hat : at1 (lows (beside n ls) n (deepWalk (beside n ls) n).met (deepWalk (beside n ls) n).left (deepWalk (beside n ls) n).frm) i = lowOf (beside n ls) n (deepWalk (beside n ls) n).met (deepWalk (beside n ls) n).left (deepWalk (beside n ls) n).frm i := by unfold lows at1; simp [hin]
    rw [hat] at h2
    have hc := bridge_cut hD (adj_bounded hg) (fun a h => adj_ne hg h rfl) hin hp (lowOf_is hD (adj_nbs hg.2.1 (adj_bounded hg)) hin) h2
    have hne : i ≠ p := by rintro rfl; omega
    have hms : many ls (p : Int) (i : Int) = 1 := by
      rw [← h3]
      unfold many
      congr 1
      apply List.filter_congr
      intro x _
      unfold joins
      rw [Bool.or_comm]
    unfold brLn at e
    rw [hp] at e
    by_cases hip : i < p
    · refine ⟨i, p, ?_, hip, hpn, h3, adj_symm hg hadj, hc⟩
      rw [← e]
      exact Prod.ext (by simp only; omega) (by simp only; omega)
    · refine ⟨p, i, ?_, by omega, hin, hms, hadj, fun hce => hc (CE.symm (fun _ _ h => adj_symm hg h) hce.swap)⟩
      rw [← e]
      exact Prod.ext (by simp only; omega) (by simp only; omega)

theorem near_more_one {n : Nat} {ls : List Ln} (hg : GoodG n ls) {a b : Nat} (h : 1 < (nearU ls a n).length) : ∃ d, adjS (beside n ls) a d ∧ d ≠ b := by
  refine Classical.byContradiction fun hn => ?_
  have hl : (nearU ls a n).length = ((List.range n).filter fun (b : Nat) => near ls a b).length := by simp [nearU]
  have hnd : ((List.range n).filter fun (b : Nat) => near ls a b).Nodup := List.Pairwise.filter _ List.nodup_range
  have := hnd.length_le_of_subset (l₂ := [b]) fun d hd => by
    have h1 := (List.mem_filter.1 hd).2
    have : d = b := Classical.byContradiction fun e => hn ⟨d, (adj_near hg a d).2 h1, e⟩
    simp [this]
  simp at this
  omega

theorem ends_fact {n : Nat} {ls : List Ln} (hg : GoodG n ls) {a b : Nat} (ha : a < n) (hadj : adjS (beside n ls) a b) (hce : ¬ CE (beside n ls) a b a b) (h : 1 < (nearU ls a n).length) : (a : Int) ∈ (cutsUp (beside n ls) n).map fun (i : Nat) => (i : Int) := by
  obtain ⟨d, h1, h2⟩ := near_more_one hg (b := b) h
  exact (cutsUp_has _ _ _ ha).2 (end_cut (fun _ _ h => adj_symm hg h) (fun a h => adj_ne hg h rfl) hadj h1 h2 hce)

-- the second end

set_option maxRecDepth 100000 in
set_option maxHeartbeats 4000000 in
theorem cutsEnds_ok (n : Nat) {v : Value} {ls : List Ln} {w : World} (hr : LinesRd w v ls) (hg : GoodG n ls) :
    Calls Try.prog 3 #[.int .i64 (n : Int), v] w fun e w' => e = .returned (.bool true) ∧ Below w.heap.size w w' := by
  have KP := fun w hr => points_ok n v ls w hr hg
  have KB := fun w hr => bridges_ok n v ls w hr hg
  have hn1 := hg.1
  have hn8 := hg.2.1
  have HF : Hid (∀ l ∈ bridgesL n ls, ∃ a b : Nat, l = ((a : Int), (b : Int)) ∧ a < n ∧ b < n ∧ (1 < (nearU ls a n).length → (a : Int) ∈ (cutsUp (beside n ls) n).map fun (i : Nat) => (i : Int)) ∧ (1 < (nearU ls b n).length → (b : Int) ∈ (cutsUp (beside n ls) n).map fun (i : Nat) => (i : Int))) := fun l hl => by
    obtain ⟨a, b, e, hab, hb, _, hadj, hce⟩ := mem_brUp hg hl
    exact ⟨a, b, e, by omega, hb, ends_fact hg (by omega) hadj hce, ends_fact hg hb (adj_symm hg hadj) (fun h => hce (CE.symm (fun _ _ h => adj_symm hg h) h.swap))⟩
  generalize (cutsUp (beside n ls) n).map (fun (i : Nat) => (i : Int)) = Q at *
  generalize bridgesL n ls = BR at *
  clear hg
  go_enter Try.func3, Try.ntmps3
  go_wp2_with fail
  refine (cutsFact_any _).mono ?_
  rintro e w1 ⟨rfl, hB1⟩
  go_wp2_with fail
  refine (KB _ (hr.later hB1)).mono ?_
  rintro e w2 ⟨am, cm, rfl, om', hB2⟩
  have hB02 := below_c hB1 hB2
  have rm2 : LinesRd w2 (.slice am BR.length cm) BR := rd_of_owns om'
  go_wp2_with fail
  refine (KP _ (hr.later hB02)).mono ?_
  rintro e w3 ⟨ap, cp, rfl, op, hB3⟩
  have hB03 := below_c hB02 hB3
  have rm := rm2.later hB3
  have rp := rd_of_owns op
  have hmb := rm.bounds.2
  unfold maxLen at hmb
  have hr3 := hr.later hB03
  have wn1 : IntKind.i64.wrap ((n : Int) - 1) = (n : Int) - 1 := IntWalk.i64_in _ (by omega)
  have KN := fun (a : Int) w (h : LinesRd w v ls) => refNear_any n v ls a w h hn8
  have KH := fun (a : Int) w (h : Rd w (.slice ap Q.length cp) Q.length (ints Q)) => refHas_any (.slice ap Q.length cp) Q a w h
  clear om' op KB KP rm2 hB1 hB2 hB3 hB02
  go_wp2_with fail
  go_loopw [9] (fun ii wr => ∃ k : Nat, k ≤ BR.length ∧ ii = .int .i64 k ∧ Below w3.heap.size w3 wr) (fun ii _ => BR.length - (intOf ii).toNat)
  case atStart => exact ⟨0, by omega, rfl, Below.refl _ _⟩
  case round =>
    obtain ⟨k, hk, rfl, hB⟩ := hrel
    by_cases hlt : k < BR.length
    · have hki : (k : Int) < (BR.length : Int) := by omega
      obtain ⟨_, _, e, _, _, _, hcell⟩ := id rm
      cases e
      obtain ⟨bm, om, rfl, hbm, hcx⟩ := hcell (by omega)
      obtain ⟨g1, g2⟩ := lines_at hcx hlt
      obtain ⟨a, b, hab, ha, hb, h1, h2⟩ := HF.out _ (List.getElem_mem hlt)
      rw [hab] at g1 g2
      simp only at g1 g2
      have HHA : Hid (1 < (nearU ls a n).length → decide ((a : Int) ∈ Q) = true) := fun h => decide_eq_true (h1 h)
      have HHB : Hid (1 < (nearU ls b n).length → decide ((b : Int) ∈ Q) = true) := fun h => decide_eq_true (h2 h)
      have y1 := (hB.cell (p := ⟨bm, om + k * 2, none⟩) hbm).trans g1
      have y2 := (hB.cell (p := ⟨bm, om + k * 2 + 1, none⟩) hbm).trans g2
      have KI1 := in_any (a : Int) 0 ((n : Int) - 1) wr
      rw [decide_eq_true (by omega)] at KI1
      have KI2 := in_any (b : Int) 0 ((n : Int) - 1) wr
      rw [decide_eq_true (by omega)] at KI2
      clear hcx hcell hab h1 h2
      go_wp2_with fail
      refine KI1.mono ?_
      rintro e w' ⟨rfl, rfl⟩
      go_wp2_with fail
      refine KI2.mono ?_
      rintro e w' ⟨rfl, rfl⟩
      go_wp2_with fail
      refine (KN (a : Int) _ (hr3.later hB)).mono ?_
      rintro e w5 ⟨a5, c5, rfl, _, hB5⟩
      have hBx := below_c hB hB5
      have x1 := (hBx.cell (p := ⟨bm, om + k * 2, none⟩) hbm).trans g1
      have x2 := (hBx.cell (p := ⟨bm, om + k * 2 + 1, none⟩) hbm).trans g2
      have HZ := And.intro (hr3.later hBx) hBx
      clear KI1 KI2
      by_cases ha' : 1 < (nearU ls a n).length
      · have had : decide (((nearU ls a n).length : Int) > 1) = true := by simp; omega
        have KHA := HHA.out ha'
        go_wp2_with fail
        refine (KH (a : Int) _ (rp.later hBx)).mono ?_
        rintro e w' ⟨rfl, rfl⟩
        rw [KHA]
        by_cases hb : 1 < (nearU ls b n).length
        · have hbd : decide (((nearU ls b n).length : Int) > 1) = true := by simp; omega
          have KHB := HHB.out hb
          go_wp2_with fail
          refine (KN (b : Int) _ HZ.1).mono ?_
          rintro e w7 ⟨a7, c7, rfl, _, hB7⟩
          have hBz := below_c HZ.2 hB7
          have z1 := (hBz.cell (p := ⟨bm, om + k * 2, none⟩) hbm).trans g1
          have z2 := (hBz.cell (p := ⟨bm, om + k * 2 + 1, none⟩) hbm).trans g2
          go_wp2_with fail
          refine (KH (b : Int) _ (rp.later hBz)).mono ?_
          rintro e w' ⟨rfl, rfl⟩
          rw [KHB]
          go_wp2
          go_roundw
          case rel => exact ⟨k + 1, by omega, by go_num, hBz⟩
          case measure => simp [intOf]; omega
        · have hbd : decide (((nearU ls b n).length : Int) > 1) = false := by simp; omega
          go_wp2_with fail
          refine (KN (b : Int) _ HZ.1).mono ?_
          rintro e w7 ⟨a7, c7, rfl, _, hB7⟩
          have hBz := below_c HZ.2 hB7
          go_wp2
          go_roundw
          case rel => exact ⟨k + 1, by omega, by go_num, hBz⟩
          case measure => simp [intOf]; omega
      · have had : decide (((nearU ls a n).length : Int) > 1) = false := by simp; omega
        by_cases hb : 1 < (nearU ls b n).length
        · have hbd : decide (((nearU ls b n).length : Int) > 1) = true := by simp; omega
          have KHB := HHB.out hb
          go_wp2_with fail
          refine (KN (b : Int) _ HZ.1).mono ?_
          rintro e w7 ⟨a7, c7, rfl, _, hB7⟩
          have hBz := below_c HZ.2 hB7
          have z1 := (hBz.cell (p := ⟨bm, om + k * 2, none⟩) hbm).trans g1
          have z2 := (hBz.cell (p := ⟨bm, om + k * 2 + 1, none⟩) hbm).trans g2
          go_wp2_with fail
          refine (KH (b : Int) _ (rp.later hBz)).mono ?_
          rintro e w' ⟨rfl, rfl⟩
          rw [KHB]
          go_wp2
          go_roundw
          case rel => exact ⟨k + 1, by omega, by go_num, hBz⟩
          case measure => simp [intOf]; omega
        · have hbd : decide (((nearU ls b n).length : Int) > 1) = false := by simp; omega
          go_wp2_with fail
          refine (KN (b : Int) _ HZ.1).mono ?_
          rintro e w7 ⟨a7, c7, rfl, _, hB7⟩
          have hBz := below_c HZ.2 hB7
          go_wp2
          go_roundw
          case rel => exact ⟨k + 1, by omega, by go_num, hBz⟩
          case measure => simp [intOf]; omega
    · obtain rfl : k = BR.length := by omega
      have hBf := below_c hB03 hB
      go_wp2
      go_ret
      exact ⟨rfl, hBf⟩

set_option maxRecDepth 100000 in
set_option maxHeartbeats 1000000 in
theorem cutsEnds_bad (n : Int) {v : Value} {ls : List Ln} {w : World} (hr : LinesRd w v ls) (hc : chk n ls ≠ 0) :
    Calls Try.prog 3 #[.int .i64 n, v] w fun e w' => e = .returned (.bool true) ∧ Below w.heap.size w w' := by
  have KB := fun w hr => bridges_bad n v ls w hr hc
  clear hc
  go_enter Try.func3, Try.ntmps3
  go_wp2_with fail
  refine (cutsFact_any _).mono ?_
  rintro e w1 ⟨rfl, hB1⟩
  go_wp2_with fail
  refine (KB _ (hr.later hB1)).mono ?_
  rintro e w2 ⟨rfl, hB2⟩
  have hB := below_c hB1 hB2
  clear KB
  go_wp2
  go_ret
  exact ⟨rfl, hB⟩

theorem cutsEnds_any (n : Int) {v : Value} {ls : List Ln} {w : World} (hr : LinesRd w v ls) :
    Calls Try.prog 3 #[.int .i64 n, v] w fun e w' => e = .returned (.bool true) ∧ Below w.heap.size w w' := by
  by_cases hc : chk n ls = 0
  · obtain ⟨m, rfl, hg⟩ := good_of hc
    exact cutsEnds_ok m hr hg
  · exact cutsEnds_bad n hr hc
end Go.Proofs.Ytjeafgnaoncphaa
