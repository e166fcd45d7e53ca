/- CutsWithout returns true for every input: the walk. Conditions: none. -/
import Derived.Test.YtjeafgnaoncphaaCutsFact
import Derived.Test.YtjeafgnaoncphaaWithoutP
import Derived.Test.YtjeafgnaoncphaaParts
namespace Go.Proofs.Ytjeafgnaoncphaa
open Go.RowKit Gr

open Classical in
/-- how many of the points below k are the least of their part -/
noncomputable def rootsU (O : List Nat) (k : Nat) : Nat := (List.range k).countP fun i => decide (RootC O i)
open Classical in
theorem rootsU_succ (O : List Nat) (k : Nat) : rootsU O (k + 1) = rootsU O k + if RootC O k then 1 else 0 := by
  unfold rootsU; rw [List.range_succ, List.countP_append]; by_cases h : RootC O k <;> simp [h]
theorem rootsU_le (O : List Nat) (k : Nat) : rootsU O k ≤ k := by
  unfold rootsU; refine Nat.le_trans List.countP_le_length ?_; simp
theorem root_step {O : List Nat} {n : Nat} {p : List Int} (hO : Bounded n O) (hp : IsParts O n p) {i : Nat} (hi : i < n) : rootsU O (i + 1) = rootsU O i + (if (at1 p i == (i : Int)) = true then 1 else 0) := by
  rw [rootsU_succ]
  have := parts_root hO hp hi
  by_cases h : RootC O i
  · rw [if_pos h, if_pos (by simp [this.2 h])]
  · rw [if_neg h, if_neg (by simpa using fun e => h (this.1 e))]

set_option maxRecDepth 100000 in
set_option maxHeartbeats 1000000 in
theorem cutsWithout_bad (n : Int) {v : Value} {ls : List Ln} {w : World} (i : Int) (hr : LinesRd w v ls) (hc : chk n ls ≠ 0) :
    Calls Try.prog 6 #[.int .i64 n, v, .int .i64 i] w fun e w' => e = .returned (.bool true) ∧ Below w.heap.size w w' := by
  have KP := fun w hr => points_bad n v ls w hr hc
  clear hc
  go_enter Try.func6, Try.ntmps6
  go_wp2_with fail
  refine (cutsFact_any _).mono ?_
  rintro e w1 ⟨rfl, hB1⟩
  go_wp2_with fail
  refine (KP _ (hr.later hB1)).mono ?_
  rintro e w2 ⟨rfl, hB2⟩
  have hB := below_c hB1 hB2
  clear KP
  go_wp2
  go_ret
  exact ⟨rfl, hB⟩

set_option maxRecDepth 100000 in
set_option maxHeartbeats 1000000 in
theorem cutsWithout_out (n : Nat) {v : Value} {ls : List Ln} {w : World} (i : Int) (hr : LinesRd w v ls) (hg : GoodG n ls) (hi : n = 1 ∨ ¬ (0 ≤ i ∧ i ≤ (n : Int) - 1)) :
    Calls Try.prog 6 #[.int .i64 (n : Int), v, .int .i64 i] w fun e w' => e = .returned (.bool true) ∧ Below w.heap.size w w' := by
  have KP := fun w hr => points_ok n v ls w hr hg
  have KW := fun w hr => without_out n v ls i w hr hg hi
  have hn8 := hg.2.1
  have wn1 : IntKind.i64.wrap ((n : Int) - 1) = (n : Int) - 1 := IntWalk.i64_in _ (by omega)
  clear hg
  by_cases h1 : n = 1
  · have hb : ((n : Int) == 1) = true := by simp [h1]
    clear hi h1
    go_enter Try.func6, Try.ntmps6
    go_wp2_with fail
    refine (cutsFact_any _).mono ?_
    rintro e w1 ⟨rfl, hB1⟩
    go_wp2_with fail
    refine (KP _ (hr.later hB1)).mono ?_
    rintro e w2 ⟨ap, cp, rfl, _, hB2⟩
    have hB := below_c hB1 hB2
    go_wp2_with fail
    refine (KW _ (hr.later hB)).mono ?_
    rintro e w3 ⟨rfl, hB3⟩
    have hBf := below_c hB hB3
    clear KP KW
    go_wp2
    go_ret
    exact ⟨rfl, hBf⟩
  · have hb : ((n : Int) == 1) = false := by rw [beq_eq_false_iff_ne]; omega
    have KI := fun w => in_any i 0 ((n : Int) - 1) w
    rw [decide_eq_false (hi.resolve_left h1)] at KI
    clear hi h1
    go_enter Try.func6, Try.ntmps6
    go_wp2_with fail
    refine (cutsFact_any _).mono ?_
    rintro e w1 ⟨rfl, hB1⟩
    go_wp2_with fail
    refine (KP _ (hr.later hB1)).mono ?_
    rintro e w2 ⟨ap, cp, rfl, _, hB2⟩
    have hB := below_c hB1 hB2
    go_wp2_with fail
    refine (KW _ (hr.later hB)).mono ?_
    rintro e w3 ⟨rfl, hB3⟩
    have hBf := below_c hB hB3
    clear KP KW
    go_wp2_with fail
    refine (KI _).mono ?_
    rintro e w' ⟨rfl, rfl⟩
    go_wp2
    go_ret
    exact ⟨rfl, hBf⟩

set_option maxRecDepth 100000 in
set_option maxHeartbeats 4000000 in
theorem cutsWithout_ok (n : Nat) {v : Value} {ls : List Ln} {w : World} (c : Nat) (hr : LinesRd w v ls) (hg : GoodG n ls) (h2 : 2 ≤ n) (hc : c < n) :
    Calls Try.prog 6 #[.int .i64 (n : Int), v, .int .i64 (c : Int)] w fun e w' => e = .returned (.bool true) ∧ Below w.heap.size w w' := by
  have hg' := good_less hg h2 hc
  have KP := fun w hr => points_ok n v ls w hr hg
  have KW := fun w hr => without_ok n v ls c w hr hg (by omega) hc
  have KP1 := fun w hr => parts_ok n v ls w hr hg
  have KP2 := fun u w hr => parts_ok (n - 1) u (withoutL c ls) w hr hg'
  have hcn : ((n - 1 : Nat) : Int) = (n : Int) - 1 := by omega
  rw [hcn] at KP2
  have hn1 := hg.1
  have hn8 := hg.2.1
  have HCR : Hid (decide ((c : Int) ∈ (cutsUp (beside n ls) n).map fun (i : Nat) => (i : Int)) = decide (rootsU (beside n ls) n < rootsU (beside (n - 1) (withoutL c ls)) (n - 1))) := by
    show _ = _
    rw [decide_eq_decide, cutsUp_has _ _ _ hc, cut_roots (adj_bounded hg) (fun _ _ h => adj_symm hg h) (fun a h => adj_ne hg h rfl) hc, ← parts_len, ← parts_less hg h2 hc]
    rfl
  have KH := fun (Q : List Int) (u : Value) w hr => refHas_any u Q (c : Int) w hr
  have HO := Lib.hid (adj_bounded hg)
  have HO' := Lib.hid (adj_bounded hg')
  have wn1 : IntKind.i64.wrap ((n : Int) - 1) = (n : Int) - 1 := IntWalk.i64_in _ (by omega)
  generalize (cutsUp (beside n ls) n).map (fun (i : Nat) => (i : Int)) = Q at *
  generalize beside n ls = O at *
  generalize beside (n - 1) (withoutL c ls) = O' at *
  clear hg hg'
  go_enter Try.func6, Try.ntmps6
  go_wp2_with fail
  refine (cutsFact_any _).mono ?_
  rintro e w1 ⟨rfl, hB1⟩
  go_wp2_with fail
  refine (KP _ (hr.later hB1)).mono ?_
  rintro e w2 ⟨aQ, cQ, rfl, oQ, hB2⟩
  have hB02 := below_c hB1 hB2
  have rQ := rd_of_owns oQ
  go_wp2_with fail
  refine (KW _ (hr.later hB02)).mono ?_
  rintro e w3 ⟨u, rfl, ou, hB3⟩
  have hB03 := below_c hB02 hB3
  have ru : LinesRd w3 u (withoutL c ls) := rd_of_owns ou
  go_wp2_with fail
  refine (KP1 _ (hr.later hB03)).mono ?_
  rintro e w4 ⟨p, ap, cp, rfl, hp, rp, hB4⟩
  have hB04 := below_c hB03 hB4
  go_wp2_with fail
  refine (KP2 _ _ (ru.later hB4)).mono ?_
  rintro e w5 ⟨q, aq, cq, rfl, hq, rq, hB5⟩
  have hB05 := below_c hB04 hB5
  have hB45 := below_c hB4 hB5
  have rp5 := rp.later hB5
  have rQ5 := rQ.later (below_c hB3 hB45)
  have hlp := hp.len
  have hlq := hq.len
  have HRP : Hid (∀ i, i < n → rootsU O (i + 1) = rootsU O i + (if (at1 p i == (i : Int)) = true then 1 else 0)) := fun i hi => root_step HO.out hp hi
  have HRQ : Hid (∀ i, i < n - 1 → rootsU O' (i + 1) = rootsU O' i + (if (at1 q i == (i : Int)) = true then 1 else 0)) := fun i hi => root_step HO'.out hq hi
  have hnn : ((n : Int) != (n : Int)) = false := by simp
  have hmm : (((n - 1 : Nat) : Int) != (n : Int) - 1) = false := by rw [hcn]; simp
  obtain ⟨b1, o1, d1, e, hb1, hc1⟩ := rd_at rp5 hlp hn1
  cases e
  obtain ⟨b2, o2, d2, e, hb2, hc2⟩ := rd_at rq hlq (by omega)
  cases e
  have HC1 := Lib.hid hc1
  have HC2 := Lib.hid hc2
  clear hp hq rp rp5 rq KP KP1 KP2 KW ou ru oQ rQ hc1 hc2 hB1 hB2 hB3 hB4 hB5 hB45 hlp hlq
  have hx1 : ((n - 1 : Nat) : Int) = (n : Int) - 1 := hcn
  clear hcn
  go_wp2_with fail
  go_loopw [15, 16, 17] (fun ww ss ii wr => ∃ i : Nat, i ≤ n ∧ ii = .int .i64 i ∧ ww = .int .i64 ((rootsU O i : Nat) : Int) ∧ ss = .int .i64 ((rootsU O' (min i (n - 1)) : Nat) : Int) ∧ wr = w5) (fun _ _ ii _ => n - (intOf ii).toNat)
  case atStart => exact ⟨0, by omega, rfl, by simp [rootsU], by simp [rootsU], rfl⟩
  case round =>
    obtain ⟨i, hi, rfl, rfl, rfl, rfl⟩ := hrel
    have hz1 := rootsU_le O i
    have hz2 := rootsU_le O' (min i (n - 1))
    by_cases hlt : i < n
    · have hii : (i : Int) < (n : Int) := by omega
      have c1 := HC1.out i hlt
      have HS1 := Lib.hid (HRP.out i hlt)
      by_cases hl2 : i < n - 1
      · have hi2 : (i : Int) < (n : Int) - 1 := by omega
        have hd2 : decide ((i : Int) < (n : Int) - 1) = true := by simp; omega
        have c2 := HC2.out i hl2
        have e1 : min i (n - 1) = i := by omega
        have e2 : min (i + 1) (n - 1) = i + 1 := by omega
        have HS2 : Hid (rootsU O' (min (i + 1) (n - 1)) = rootsU O' i + (if (at1 q i == (i : Int)) = true then 1 else 0)) := by show _ = _; rw [e2]; exact HRQ.out i hl2
        rw [e1] at hz2 ⊢
        have hi3 : i < n - 1 := hl2
        generalize at1 p i = s at *
        generalize at1 q i = t at *
        generalize rootsU O i = z1 at *
        generalize rootsU O' i = z2 at *
        clear e1 e2 hl2
        cases h1 : (s == (i : Int)) <;> cases h2 : (t == (i : Int))
        all_goals
          rw [h1] at HS1
          rw [h2] at HS2
          go_wp2
          go_roundw
          case rel => exact ⟨i + 1, by omega, by go_num, by rw [HS1.out]; first | rfl | (simp; done) | go_num, by rw [HS2.out]; first | rfl | (simp; done) | go_num, by first | rfl | trivial⟩
          case measure => simp [intOf]; omega
      · have hi2 : ¬ (i : Int) < (n : Int) - 1 := by omega
        have hd2 : decide ((i : Int) < (n : Int) - 1) = false := by simp; omega
        have e3 : min (i + 1) (n - 1) = min i (n - 1) := by omega
        have HS2 : Hid (rootsU O' (min (i + 1) (n - 1)) = rootsU O' (min i (n - 1))) := by show _ = _; rw [e3]
        clear e3
        generalize at1 p i = s at *
        generalize rootsU O i = z1 at *
        generalize rootsU O' (min i (n - 1)) = z2 at *
        cases h1 : (s == (i : Int))
        all_goals
          rw [h1] at HS1
          go_wp2
          go_roundw
          case rel => exact ⟨i + 1, by omega, by go_num, by rw [HS1.out]; first | rfl | (simp; done) | go_num, by rw [HS2.out], by first | rfl | trivial⟩
          case measure => simp [intOf]; omega
    · obtain rfl : i = n := by omega
      have e1 : min i (i - 1) = i - 1 := by omega
      rw [e1] at hz2 ⊢
      have hcd := HCR.out
      generalize rootsU O i = z1 at *
      generalize rootsU O' (i - 1) = z2 at *
      have KQ := KH Q (.slice aQ Q.length cQ) wr rQ5
      rw [hcd] at KQ
      clear e1 KH HCR hcd
      by_cases hz : z1 < z2
      · rw [decide_eq_true hz] at KQ
        have hzd : decide ((z2 : Int) > (z1 : Int)) = true := by simp; omega
        have hzi : (z2 : Int) > (z1 : Int) := by omega
        clear hz
        go_wp2_with fail
        refine KQ.mono ?_
        rintro e w' ⟨rfl, rfl⟩
        go_wp2
        go_ret
        exact ⟨by first | rfl | (simp; done) | (simp; omega), hB05⟩
      · rw [decide_eq_false hz] at KQ
        have hzd : decide ((z2 : Int) > (z1 : Int)) = false := by simp; omega
        have hzi : ¬ (z2 : Int) > (z1 : Int) := by omega
        clear hz
        go_wp2_with fail
        refine KQ.mono ?_
        rintro e w' ⟨rfl, rfl⟩
        go_wp2
        go_ret
        exact ⟨by first | rfl | (simp; done) | (simp; omega), hB05⟩

theorem cutsWithout_any (n : Int) {v : Value} {ls : List Ln} {w : World} (hr : LinesRd w v ls) (i : Int) :
    Calls Try.prog 6 #[.int .i64 n, v, .int .i64 i] w fun e w' => e = .returned (.bool true) ∧ Below w.heap.size w w' := by
  by_cases hc : chk n ls = 0
  · obtain ⟨m, rfl, hg⟩ := good_of hc
    have := hg.1
    by_cases hi : m = 1 ∨ ¬ (0 ≤ i ∧ i ≤ (m : Int) - 1)
    · exact cutsWithout_out m i hr hg hi
    · have h0 : 0 ≤ i := Classical.byContradiction fun h => hi (.inr fun h2 => h h2.1)
      have h1 : i ≤ (m : Int) - 1 := Classical.byContradiction fun h => hi (.inr fun h2 => h h2.2)
      obtain ⟨j, rfl⟩ := Int.eq_ofNat_of_zero_le h0
      exact cutsWithout_ok m j hr hg (by omega) (by omega)
  · exact cutsWithout_bad n i hr hc
end Go.Proofs.Ytjeafgnaoncphaa
