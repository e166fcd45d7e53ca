/- CutsRing returns true for every input: the walk. Conditions: none. -/
import Derived.Test.YtjeafgnaoncphaaCutsFact
import Derived.Test.YtjeafgnaoncphaaButP
import Derived.Test.YtjeafgnaoncphaaBut
import Derived.Test.YtjeafgnaoncphaaParts
namespace Go.Proofs.Ytjeafgnaoncphaa
open Go.RowKit Gr

open Classical in
/-- how many of the points below k are the least of their part -/
noncomputable def rootsU (O : List Nat) (k : Nat) : Nat := (List.range k).countP fun i => decide (RootC O i)
open Classical in
theorem rootsU_succ (O : List Nat) (k : Nat) : rootsU O (k + 1) = rootsU O k + if RootC O k then 1 else 0 := by
  unfold rootsU; rw [List.range_succ, List.countP_append]; by_cases h : RootC O k <;> simp [h]
theorem rootsU_le (O : List Nat) (k : Nat) : rootsU O k ≤ k := by
  unfold rootsU; refine Nat.le_trans List.countP_le_length ?_; simp
theorem root_step {O : List Nat} {n : Nat} {p : List Int} (hO : Bounded n O) (hp : IsParts O n p) {i : Nat} (hi : i < n) : rootsU O (i + 1) = rootsU O i + (if (at1 p i == (i : Int)) = true then 1 else 0) := by
  rw [rootsU_succ]
  have := parts_root hO hp hi
  by_cases h : RootC O i
  · rw [if_pos h, if_pos (by simp [this.2 h])]
  · rw [if_neg h, if_neg (by simpa using fun e => h (this.1 e))]

set_option maxRecDepth 100000 in
set_option maxHeartbeats 1000000 in
theorem cutsRing_bad (n : Int) {v : Value} {ls : List Ln} {w : World} (k : Int) (hr : LinesRd w v ls) (hc : chk n ls ≠ 0) :
    Calls Try.prog 5 #[.int .i64 n, v, .int .i64 k] w fun e w' => e = .returned (.bool true) ∧ Below w.heap.size w w' := by
  have KB := fun w hr => bridges_bad n v ls w hr hc
  clear hc
  go_enter Try.func5, Try.ntmps5
  go_wp2_with fail
  refine (cutsFact_any _).mono ?_
  rintro e w1 ⟨rfl, hB1⟩
  go_wp2_with fail
  refine (KB _ (hr.later hB1)).mono ?_
  rintro e w2 ⟨rfl, hB2⟩
  have hB := below_c hB1 hB2
  clear KB
  go_wp2
  go_ret
  exact ⟨rfl, hB⟩

set_option maxRecDepth 100000 in
set_option maxHeartbeats 1000000 in
theorem cutsRing_out (n : Nat) {v : Value} {ls : List Ln} {w : World} (k : Int) (hr : LinesRd w v ls) (hg : GoodG n ls) (hk : ¬ (0 ≤ k ∧ k ≤ (ls.length : Int) - 1)) :
    Calls Try.prog 5 #[.int .i64 (n : Int), v, .int .i64 k] w fun e w' => e = .returned (.bool true) ∧ Below w.heap.size w w' := by
  have KB := fun w hr => bridges_ok n v ls w hr hg
  have KI := fun w => in_any k 0 ((ls.length : Int) - 1) w
  rw [decide_eq_false hk] at KI
  have hl24 := hg.2.2.1
  have wl : IntKind.i64.wrap ((ls.length : Int) - 1) = (ls.length : Int) - 1 := IntWalk.i64_in _ (by omega)
  obtain ⟨av, cv, rfl, _⟩ := id hr
  clear hg hk
  go_enter Try.func5, Try.ntmps5
  go_wp2_with fail
  refine (cutsFact_any _).mono ?_
  rintro e w1 ⟨rfl, hB1⟩
  go_wp2_with fail
  refine (KB _ (hr.later hB1)).mono ?_
  rintro e w2 ⟨am, cm, rfl, _, hB2⟩
  have hB := below_c hB1 hB2
  clear KB
  go_wp2_with fail
  refine (KI _).mono ?_
  rintro e w' ⟨rfl, rfl⟩
  go_wp2
  go_ret
  exact ⟨rfl, hB⟩

set_option maxRecDepth 100000 in
set_option maxHeartbeats 4000000 in
theorem cutsRing_ok (n : Nat) {v : Value} {ls : List Ln} {w : World} (k : Nat) (hr : LinesRd w v ls) (hg : GoodG n ls) (hk : k < ls.length) :
    Calls Try.prog 5 #[.int .i64 (n : Int), v, .int .i64 (k : Int)] w fun e w' => e = .returned (.bool true) ∧ Below w.heap.size w w' := by
  have hg' := good_but hg k
  have KB := fun w hr => bridges_ok n v ls w hr hg
  have KI := fun w => in_any (k : Int) 0 ((ls.length : Int) - 1) w
  rw [decide_eq_true (by omega)] at KI
  have hn1 := hg.1
  have hn8 := hg.2.1
  have hl24 := hg.2.2.1
  have wl : IntKind.i64.wrap ((ls.length : Int) - 1) = (ls.length : Int) - 1 := IntWalk.i64_in _ (by omega)
  have KP1 := fun w hr => parts_ok n v ls w hr hg
  have KBut := fun w hr => refBut_ok v ls k w hr hl24
  have KP2 := fun u w hr => parts_ok n u (ls.eraseIdx k) w hr hg'
  obtain ⟨x, y, hxy⟩ : ∃ x y : Nat, ls[k] = ((x : Int), (y : Int)) := by
    obtain ⟨h1, _, h3, _⟩ := hg.2.2.2 _ (List.getElem_mem hk)
    exact ⟨ls[k].1.toNat, ls[k].2.toNat, Prod.ext (by simp only; omega) (by simp only; omega)⟩
  have HPB : Hid (rootsU (beside n (ls.eraseIdx k)) n = rootsU (beside n ls) n + (if near (bridgesL n ls) x y = true then 1 else 0)) := parts_but hg hk hxy
  have HO := Lib.hid (adj_bounded hg)
  have HO' := Lib.hid (adj_bounded hg')
  have KN := fun u w hr => refBeside_any u (bridgesL n ls) (x : Int) (y : Int) w hr
  generalize bridgesL n ls = BR at *
  generalize beside n ls = O at *
  generalize beside n (ls.eraseIdx k) = O' at *
  obtain ⟨av, cv, rfl, _⟩ := id hr
  clear hg hg'
  go_enter Try.func5, Try.ntmps5
  go_wp2_with fail
  refine (cutsFact_any _).mono ?_
  rintro e w1 ⟨rfl, hB1⟩
  go_wp2_with fail
  refine (KB _ (hr.later hB1)).mono ?_
  rintro e w2 ⟨am, cm, rfl, om, hB2⟩
  have hB02 := below_c hB1 hB2
  have rm2 : LinesRd w2 (.slice am BR.length cm) BR := rd_of_owns om
  clear KB om
  go_wp2_with fail
  refine (KI _).mono ?_
  rintro e w' ⟨rfl, rfl⟩
  go_wp2_with fail
  refine (KP1 _ (hr.later hB02)).mono ?_
  rintro e w3 ⟨p, ap, cp, rfl, hp, rp, hB3⟩
  have hB03 := below_c hB02 hB3
  go_wp2_with fail
  refine (KBut _ (hr.later hB03)).mono ?_
  rintro e w4 ⟨ab, cb, rfl, ob, hB4⟩
  have hB04 := below_c hB03 hB4
  have rb : LinesRd w4 (.slice ab (ls.eraseIdx k).length cb) (ls.eraseIdx k) := rd_of_owns ob
  go_wp2_with fail
  refine (KP2 _ _ rb).mono ?_
  rintro e w5 ⟨q, aq, cq, rfl, hq, rq, hB5⟩
  have hB05 := below_c hB04 hB5
  have hB45 := below_c hB4 hB5
  have rp5 := rp.later hB45
  have rm5 := rm2.later (below_c hB3 hB45)
  have hr5 := hr.later hB05
  have hlp := hp.len
  have hlq := hq.len
  have HRP : Hid (∀ i, i < n → rootsU O (i + 1) = rootsU O i + (if (at1 p i == (i : Int)) = true then 1 else 0)) := fun i hi => root_step HO.out hp hi
  have HRQ : Hid (∀ i, i < n → rootsU O' (i + 1) = rootsU O' i + (if (at1 q i == (i : Int)) = true then 1 else 0)) := fun i hi => root_step HO'.out hq hi
  have hnn : ((n : Int) != (n : Int)) = false := by simp
  obtain ⟨b1, o1, d1, e, hb1, hc1⟩ := rd_at rp5 hlp hn1
  cases e
  obtain ⟨b2, o2, d2, e, hb2, hc2⟩ := rd_at rq hlq hn1
  cases e
  have HC1 := Lib.hid hc1
  have HC2 := Lib.hid hc2
  clear hp hq rp rp5 rq KP1 KP2 KBut KI rb ob rm2 hc1 hc2 hB1 hB2 hB3 hB4 hB5 hB45 hlp hlq
  go_wp2_with fail
  go_loopw [14, 15, 16] (fun ww ss ii wr => ∃ i : Nat, i ≤ n ∧ ii = .int .i64 i ∧ ww = .int .i64 ((rootsU O i : Nat) : Int) ∧ ss = .int .i64 ((rootsU O' i : Nat) : Int) ∧ wr = w5) (fun _ _ ii _ => n - (intOf ii).toNat)
  case atStart => exact ⟨0, by omega, rfl, by simp [rootsU], by simp [rootsU], rfl⟩
  case round =>
    obtain ⟨i, hi, rfl, rfl, rfl, rfl⟩ := hrel
    have hz1 := rootsU_le O i
    have hz2 := rootsU_le O' i
    by_cases hlt : i < n
    · have hii : (i : Int) < (n : Int) := by omega
      have c1 := HC1.out i hlt
      have c2 := HC2.out i hlt
      have HS1 := Lib.hid (HRP.out i hlt)
      have HS2 := Lib.hid (HRQ.out i hlt)
      generalize at1 p i = s at *
      generalize at1 q i = t at *
      generalize rootsU O i = z1 at *
      generalize rootsU O' i = z2 at *
      cases h1 : (s == (i : Int)) <;> cases h2 : (t == (i : Int))
      all_goals
        rw [h1] at HS1
        rw [h2] at HS2
        go_wp2
        go_roundw
        case rel => exact ⟨i + 1, by omega, by go_num, by rw [HS1.out]; first | rfl | (simp; done) | go_num, by rw [HS2.out]; first | rfl | (simp; done) | go_num, by first | rfl | trivial⟩
        case measure => simp [intOf]; omega
    · obtain rfl : i = n := by omega
      have hki : (k : Int) < (ls.length : Int) := by omega
      obtain ⟨_, _, e, _, _, _, hcell⟩ := id hr5
      cases e
      obtain ⟨bv, ov, rfl, hbv, hcx⟩ := hcell (by omega)
      obtain ⟨g1, g2⟩ := lines_at hcx hk
      rw [hxy] at g1 g2
      simp only at g1 g2
      generalize rootsU O i = z1 at *
      generalize rootsU O' i = z2 at *
      clear hcx hcell
      cases hnb : near BR (x : Int) (y : Int) with
      | true =>
        have HN := Lib.hid hnb
        have hz : z2 = z1 + 1 := by have := HPB.out; rw [if_pos hnb] at this; exact this
        have hzb : ((z2 : Int) == (z1 : Int) + 1) = true := by simp; omega
        clear hnb hz
        go_wp2_with fail
        go_quiet ((go_at_call 17; refine (KN _ _ (rm5.drewN _)).mono ?_; rintro e w' ⟨rfl, rfl⟩; exact ⟨ret_bool HN.out, _, rfl⟩))
        go_wp2
        go_ret
        exact ⟨by first | rfl | (rw [hzb]), hB05.trans ((below_drewN' _ _).mono hB05.size)⟩
      | false =>
        have HN := Lib.hid hnb
        have hz : z2 = z1 := by have := HPB.out; rw [if_neg (by rw [hnb]; simp)] at this; exact this
        have hzb : ((z2 : Int) == (z1 : Int)) = true := by simp; omega
        clear hnb hz
        go_wp2_with fail
        go_quiet ((go_at_call 17; refine (KN _ _ (rm5.drewN _)).mono ?_; rintro e w' ⟨rfl, rfl⟩; exact ⟨ret_bool HN.out, _, rfl⟩))
        go_wp2
        go_ret
        exact ⟨by first | rfl | (rw [hzb]), hB05.trans ((below_drewN' _ _).mono hB05.size)⟩

theorem cutsRing_any (n : Int) {v : Value} {ls : List Ln} {w : World} (hr : LinesRd w v ls) (k : Int) :
    Calls Try.prog 5 #[.int .i64 n, v, .int .i64 k] w fun e w' => e = .returned (.bool true) ∧ Below w.heap.size w w' := by
  by_cases hc : chk n ls = 0
  · obtain ⟨m, rfl, hg⟩ := good_of hc
    by_cases hk : 0 ≤ k ∧ k ≤ (ls.length : Int) - 1
    · obtain ⟨j, rfl⟩ := Int.eq_ofNat_of_zero_le hk.1
      exact cutsRing_ok m j hr hg (by omega)
    · exact cutsRing_out m k hr hg hk
  · exact cutsRing_bad n k hr hc
end Go.Proofs.Ytjeafgnaoncphaa
