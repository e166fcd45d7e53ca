/- TopDeep returns true for every input: the walk. Conditions: none. -/
import Derived.Test.YthlnejfojaldnaaLowest
import Derived.Test.YthlnejfojaldnaaCutsPoints
import Derived.Test.YthlnejfojaldnaaDeepBack
import Derived.Test.YthlnejfojaldnaaRowEq
namespace Go.Proofs.Ythlnejfojaldnaa
open Go.RowKit Gr

/-- how many below k were met from i -/
def kidsTo (c : List Int) (i k : Nat) : Nat := ((List.range k).filter fun j => at1 c j == (i : Int)).length
/-- one below k was met from i and comes back no higher -/
def heldTo (m c low : List Int) (i k : Nat) : Bool := (List.range k).any fun j => at1 c j == (i : Int) && decide (at1 m i ≤ at1 low j)

theorem kidsTo_succ (c : List Int) (i k : Nat) : kidsTo c i (k + 1) = kidsTo c i k + (if at1 c k = (i : Int) then 1 else 0) := by
  unfold kidsTo
  rw [List.range_succ, List.filter_append, List.length_append]
  by_cases h : at1 c k = (i : Int) <;> simp [h]
theorem kidsTo_le (c : List Int) (i k : Nat) : kidsTo c i k ≤ k := by
  unfold kidsTo; refine Nat.le_trans (List.length_filter_le _ _) ?_; simp
theorem heldTo_succ (m c low : List Int) (i k : Nat) : heldTo m c low i (k + 1) = (heldTo m c low i k || (at1 c k == (i : Int) && decide (at1 m i ≤ at1 low k))) := by
  unfold heldTo
  rw [List.range_succ, List.any_append]; simp

theorem two_of {α : Type} {l : List α} (hn : l.Nodup) : 2 ≤ l.length ↔ ∃ a b, a ∈ l ∧ b ∈ l ∧ a ≠ b := by
  constructor
  · intro h
    match l, h, hn with
    | a :: b :: r, _, hn =>
      refine ⟨a, b, by simp, by simp, ?_⟩
      rintro rfl
      simp at hn
  · rintro ⟨a, b, ha, hb, hne⟩
    match l, ha, hb with
    | [], ha, _ => cases ha
    | [x], ha, hb =>
      simp at ha hb
      exact absurd (ha.trans hb.symm) hne
    | _ :: _ :: _, _, _ => simp

theorem top_deep {O : List Nat} {n : Nat} {m l c : List Int} (h : IsDeep O n m l c) (hO : Bounded n O) (hs : Symm O) (hi : ∀ a, ¬ adjS O a a) (hN : ∀ j k, adjS O j k ↔ k ∈ nbs O j) {i : Nat} (hin : i < n) :
    IsCut O i ↔ (if at1 c i < 0 then decide (1 < kidsTo c i n) else heldTo m c (lows O n m l c) i n) = true := by
  have hat : ∀ j, j < n → at1 (lows O n m l c) j = lowOf O n m l c j := fun j hj => by
    unfold lows at1; simp [hj]
  rcases h.tree i hin with ⟨hr, _⟩ | ⟨p, hp, hc, _⟩
  · rw [if_pos (by omega), cut_root h hO hs hi hin hr]
    have hnd : ((List.range n).filter fun j => at1 c j == (i : Int)).Nodup := List.Pairwise.filter _ List.nodup_range
    unfold kidsTo
    rw [decide_eq_true_iff]
    show _ ↔ 2 ≤ _
    rw [two_of hnd]
    constructor
    · rintro ⟨a, b, ha, hb, hne, h1, h2⟩
      exact ⟨a, b, by simp [ha, h1], by simp [hb, h2], hne⟩
    · rintro ⟨a, b, ha, hb, hne⟩
      simp at ha hb
      exact ⟨a, b, ha.1, hb.1, hne, ha.2, hb.2⟩
  · rw [if_neg (by omega), cut_inner h hO hs hi hin hc (fun j hj => lowOf_is h hN hj)]
    unfold heldTo
    rw [List.any_eq_true]
    constructor
    · rintro ⟨j, hj, h1, h2⟩
      exact ⟨j, List.mem_range.2 hj, by simp [h1, hat j hj, h2]⟩
    · rintro ⟨j, hj, h1⟩
      have hj := List.mem_range.1 hj
      rw [hat j hj] at h1
      simp at h1
      exact ⟨j, hj, h1.1, h1.2⟩

theorem adj_nbs {O : List Nat} {n : Nat} (hn : n ≤ 8) (hO : Bounded n O) (j k : Nat) : adjS O j k ↔ k ∈ nbs O j := by
  unfold nbs
  constructor
  · intro h
    have := (hO j k h).2
    exact List.mem_map.2 ⟨⟨k, by omega⟩, mem_elems.2 h, rfl⟩
  · intro h
    obtain ⟨y, hy, rfl⟩ := List.mem_map.1 h
    exact mem_elems.1 hy

theorem cutsUp_has (O : List Nat) (n i : Nat) (hi : i < n) : ((i : Int) ∈ (cutsUp O n).map fun (j : Nat) => (j : Int)) ↔ IsCut O i := by
  unfold cutsUp
  simp only [List.mem_map, List.mem_filter, List.mem_range, decide_eq_true_eq]
  constructor
  · rintro ⟨a, ⟨_, h⟩, e⟩
    obtain rfl : a = i := by omega
    exact h
  · intro h
    exact ⟨i, ⟨hi, h⟩, rfl⟩

theorem tp_good : GoodG 2 [(0, 1)] := by
  refine ⟨by decide, by decide, by decide, fun l hl => ?_⟩
  simp only [List.mem_cons, List.not_mem_nil, or_false] at hl
  rcases hl with rfl; decide
theorem tp_low : lows (beside 2 [(0, 1)]) 2 (deepWalk (beside 2 [(0, 1)]) 2).met (deepWalk (beside 2 [(0, 1)]) 2).left (deepWalk (beside 2 [(0, 1)]) 2).frm = [0, 1] := by decide +kernel

set_option maxRecDepth 100000 in
set_option maxHeartbeats 1000000 in
theorem lowest_bad (n : Int) (v : Value) (ls : List Ln) (w : World) (hr : LinesRd w v ls) (hc : chk n ls ≠ 0) :
    Calls Try.prog 29 #[.int .i64 n, v] w fun e w' => e = .returned (.tuple #[.slice none 0 0, errV (chk n ls)]) ∧ Below w.heap.size w w' := by
  have K := deep_bad n v ls w hr hc
  have HC := Lib.hid (errOf_pos hc)
  go_enter Try.func29, Try.ntmps29
  go_wp2_with fail
  refine K.mono ?_
  rintro e w1 ⟨rfl, hB⟩
  have hB2 := below_c hB (below_2 w1 (.cells #[.slice none 0 0] 24) (.cells #[.slice none 0 0] 24))
  clear K hc
  go_wp2
  go_ret2
  exact ⟨rfl, hB2⟩

set_option maxRecDepth 100000 in
set_option maxHeartbeats 4000000 in
theorem topDeep_any (n : Int) {v : Value} {ls : List Ln} {w : World} (hr : LinesRd w v ls) :
    Calls Try.prog 12 #[.int .i64 n, v] w fun e w' => e = .returned (.bool true) ∧ Below w.heap.size w w' := by
  by_cases hc : chk n ls = 0
  · obtain ⟨m, rfl, hg⟩ := good_of hc
    have HG := Lib.hid hg
    have hm8 := hg.2.1
    have hm1 := hg.1
    have HD := Lib.hid (deepWalk_is hm8 (adj_bounded hg) (fun _ _ h => adj_symm hg h))
    have hmm : ((m : Int) != (m : Int)) = false := by simp
    clear hc hg
    go_enter Try.func12, Try.ntmps12
    go_wp2_with fail
    refine (deep_ok m _ ls _ hr HG.out).mono ?_
    rintro e w2 ⟨a1, c1, a2, c2, a3, c3, rfl, r1, r2, r3, hB2⟩
    go_wp2_with fail
    refine (lowest_ok m _ ls _ (hr.later hB2) HG.out).mono ?_
    rintro e w3 ⟨a4, c4, rfl, r4, hB3⟩
    have hB13 := below_c hB2 hB3
    go_wp2_with fail
    refine (lowest_ok 2 _ [(0, 1)] _ (lines_lit [(0, 1)] rfl rfl rfl (by decide)) tp_good).mono ?_
    rintro e w4 ⟨a5, c5, rfl, r5, hB4⟩
    rw [tp_low] at r5
    have hB34 := below_c (below_alloc' _ _) hB4
    have hB14 := below_c hB13 hB34
    have r1' := (r1.later hB3).later hB34
    have r3' := (r3.later hB3).later hB34
    have r4' := r4.later hB34
    clear r1 r2 r3 r4 hB2 hB3 hB4 hB13 hB34
    go_wp2_with fail
    refine (ints_b _ _ [0, 1] [0, 1] _ (r5.later (below_alloc' _ _)) (ints_lit [0, 1] rfl rfl rfl (by decide))).mono ?_
    rintro e w5 ⟨rfl, hB5⟩
    rw [decide_eq_true rfl]
    have hB45 := below_c (below_alloc' _ _) hB5
    have hB15 := below_c hB14 hB45
    go_wp2_with fail
    refine (points_ok m _ ls _ (hr.later hB15) HG.out).mono ?_
    rintro e w6 ⟨a6, c6, rfl, r6, hB6⟩
    have hB46 := below_c hB45 hB6
    have hB16 := below_c hB14 hB46
    have r1 := r1'.later hB46
    have r3 := r3'.later hB46
    have r4 := r4'.later hB46
    have r7 := rd_of_owns r6
    have HTD : Hid (∀ i, i < m → decide ((i : Int) ∈ (cutsUp (beside m ls) m).map fun (j : Nat) => (j : Int)) = (if at1 (deepWalk (beside m ls) m).frm i < 0 then decide (1 < kidsTo (deepWalk (beside m ls) m).frm i m) else heldTo (deepWalk (beside m ls) m).met (deepWalk (beside m ls) m).frm (lows (beside m ls) m (deepWalk (beside m ls) m).met (deepWalk (beside m ls) m).left (deepWalk (beside m ls) m).frm) i m)) := by
      show ∀ i, _ → _
      intro i hi
      rw [Bool.eq_iff_iff, decide_eq_true_iff, cutsUp_has _ _ _ hi]
      exact top_deep HD.out (adj_bounded HG.out) (fun _ _ h => adj_symm HG.out h) (fun a h => adj_ne HG.out h rfl) (adj_nbs hm8 (adj_bounded HG.out)) hi
    have hl1 := HD.out.lm
    have hl3 := HD.out.lc
    generalize (deepWalk (beside m ls) m).met = dm at *
    generalize (deepWalk (beside m ls) m).frm = df at *
    have hl4 : (lows (beside m ls) m dm (deepWalk (beside m ls) m).left df).length = m := by simp [lows]
    generalize lows (beside m ls) m dm (deepWalk (beside m ls) m).left df = dl at *
    generalize (cutsUp (beside m ls) m).map (fun (j : Nat) => (j : Int)) = cu at *
    obtain ⟨b1, o1, rfl, hcc1, hcc2, _⟩ := rd_cells r1 hl1 hm1
    obtain ⟨b3, o3, rfl, hcc3, hcc4, _⟩ := rd_cells r3 hl3 hm1
    obtain ⟨b4, o4, rfl, hcc5, hcc6, _⟩ := rd_cells r4 hl4 hm1
    unfold maxLen at hcc2 hcc4 hcc6
    clear HD r1' r3' r4' r5 r6 hB45 hB46 hB5 hB6 hB14 hB15
    go_wp2_with fail
    go_loopw [14] (fun i wr => ∃ k : Nat, k ≤ m ∧ i = .int .i64 k ∧ Below w6.heap.size w6 wr) (fun i _ => m - (intOf i).toNat)
    case atStart => exact ⟨0, by omega, rfl, Below.refl _ _⟩
    case round =>
      obtain ⟨k, hk, rfl, hbr⟩ := hrel
      by_cases hlt : k < m
      · have hki : (k : Int) < (m : Int) := by omega
        have HT := Lib.hid (HTD.out k hlt)
        go_wp2_with fail
        go_loopw [15, 16, 17] (fun kc hd jj wj => ∃ j : Nat, j ≤ m ∧ jj = .int .i64 j ∧ kc = .int .i64 ((kidsTo df k j : Nat) : Int) ∧ hd = .bool (heldTo dm df dl k j) ∧ Below w6.heap.size w6 wj) (fun _ _ jj _ => m - (intOf jj).toNat)
        case atStart => exact ⟨0, by omega, rfl, by simp [kidsTo], by simp [heldTo], hbr⟩
        case round =>
          obtain ⟨j, hj, rfl, rfl, rfl, hbj⟩ := hrel
          by_cases hlj : j < m
          · have hji : (j : Int) < (m : Int) := by omega
            have x3 := rdAt (r3.later hbj) hl3 hlj
            have x4 := rdAt (r4.later hbj) hl4 hlj
            have x1 := rdAt (r1.later hbj) hl1 hlt
            have HKS := Lib.hid (kidsTo_succ df k j)
            have HHS := Lib.hid (heldTo_succ dm df dl k j)
            have hkl := kidsTo_le df k j
            generalize kidsTo df k j = kk at *
            generalize heldTo dm df dl k j = hh at *
            generalize at1 df j = fj at *
            generalize at1 dl j = lj at *
            generalize at1 dm k = mk at *
            by_cases hq : fj = (k : Int)
            · subst hq
              have HKS2 : Hid (kidsTo df k (j + 1) = kk + 1) := by show _ = _; rw [HKS.out]; simp
              clear HKS
              cases hh with
              | true =>
                have HHS2 : Hid (heldTo dm df dl k (j + 1) = true) := by show _ = _; rw [HHS.out]; simp
                go_wp2
                go_quiet (fail)
                go_wp2
                go_roundw
                case rel => exact ⟨j + 1, by omega, by go_num, by rw [HKS2.out]; go_num, by rw [HHS2.out], hbj.trans ((below_drewN' _ _).mono hbj.size)⟩
                case measure => simp [intOf]; omega
              | false =>
                have HHS2 : Hid (heldTo dm df dl k (j + 1) = decide (mk ≤ lj)) := by show _ = _; rw [HHS.out]; simp
                go_wp2
                go_quiet (fail)
                go_wp2
                go_roundw
                case rel => exact ⟨j + 1, by omega, by go_num, by rw [HKS2.out]; go_num, by rw [HHS2.out], hbj.trans ((below_drewN' _ _).mono hbj.size)⟩
                case measure => simp [intOf]; omega
            · have HKS2 : Hid (kidsTo df k (j + 1) = kk) := by show _ = _; rw [HKS.out, if_neg hq]; simp
              have HHS2 : Hid (heldTo dm df dl k (j + 1) = hh) := by show _ = _; rw [HHS.out, beq_eq_false_iff_ne.2 hq]; simp
              go_wp2
              go_roundw
              case rel => exact ⟨j + 1, by omega, by go_num, by rw [HKS2.out], by rw [HHS2.out], hbj⟩
              case measure => simp [intOf]; omega
          · obtain rfl : j = m := by omega
            have x3 := rdAt (r3.later hbj) hl3 hlt
            have r7j := r7.later hbj
            generalize kidsTo df k j = kk at *
            generalize heldTo dm df dl k j = hh at *
            generalize at1 df k = fk at *
            have KH := refHas_any _ cu (k : Int) _ r7j
            by_cases hneg : fk < 0
            · rw [show decide ((k : Int) ∈ cu) = decide (1 < kk) from by rw [HT.out, if_pos hneg]] at KH
              have hdd : decide ((kk : Int) > 1) = decide (1 < kk) := by rw [decide_eq_decide]; omega
              generalize decide (1 < kk) = bb at *
              go_wp2_with fail
              refine KH.mono ?_
              rintro e w' ⟨rfl, rfl⟩
              go_wp2
              go_roundw
              case rel => exact ⟨k + 1, by omega, by go_num, hbj⟩
              case measure => simp [intOf]; omega
            · rw [show decide ((k : Int) ∈ cu) = hh from by rw [HT.out, if_neg hneg]] at KH
              go_wp2_with fail
              refine KH.mono ?_
              rintro e w' ⟨rfl, rfl⟩
              go_wp2
              go_roundw
              case rel => exact ⟨k + 1, by omega, by go_num, hbj⟩
              case measure => simp [intOf]; omega
      · go_wp2
        go_ret
        exact ⟨rfl, below_c hB16 hbr⟩
  · go_enter Try.func12, Try.ntmps12
    go_wp2_with fail
    refine (deep_bad n _ ls _ hr hc).mono ?_
    rintro e w2 ⟨rfl, hB2⟩
    go_wp2_with fail
    refine (lowest_bad n _ ls _ (hr.later hB2) hc).mono ?_
    rintro e w3 ⟨rfl, hB3⟩
    have hB13 := below_c hB2 hB3
    go_wp2_with fail
    refine (lowest_ok 2 _ [(0, 1)] _ (lines_lit [(0, 1)] rfl rfl rfl (by decide)) tp_good).mono ?_
    rintro e w4 ⟨a5, c5, rfl, r5, hB4⟩
    rw [tp_low] at r5
    have hB34 := below_c (below_alloc' _ _) hB4
    have hB14 := below_c hB13 hB34
    go_wp2_with fail
    refine (ints_b _ _ [0, 1] [0, 1] _ (r5.later (below_alloc' _ _)) (ints_lit [0, 1] rfl rfl rfl (by decide))).mono ?_
    rintro e w5 ⟨rfl, hB5⟩
    rw [decide_eq_true rfl]
    have hB45 := below_c (below_alloc' _ _) hB5
    have hB15 := below_c hB14 hB45
    go_wp2
    go_ret
    exact ⟨rfl, hB15⟩

end Go.Proofs.Ythlnejfojaldnaa
