/- TrailOnce returns true for every input: the walk. Conditions: the listed variable holds its handle. -/
import Derived.Test.YtoomdnbbbaooeaaDoorTrailMore
import Derived.Test.YtoomdnbbbaooeaaDoorRefLines
import Derived.Test.YtoomdnbbbaooeaaDoorRowEq
import Derived.Deep.RegionHeld3
namespace Go.Proofs.YtoomdnbbbaooeaaDoor
open Go.RowKit Gr

theorem refAllIn_ok (v : Value) (n : Nat) (xs : List Int) (lo hi : Int) (w : World) (hr : Rd w v n (ints xs)) (hx : xs.length = n) (h : ∀ x ∈ xs, lo ≤ x ∧ x ≤ hi) :
    Calls Tryd.prog 15 #[v, .int .i64 lo, .int .i64 hi] w fun e w' => e = .returned (.bool true) ∧ w = w' := by
  obtain ⟨a, c, rfl, hnc, hcm, h0, hcell⟩ := hr
  unfold maxLen at hcm
  have HX := Lib.hid hx
  have HIN := Lib.hid h
  clear hx h0 h
  go_enter Tryd.func15, Tryd.ntmps15
  go_wp2
  go_loop [7] (fun i => ∃ k : Nat, k ≤ n ∧ i = .int .i64 k) (fun i => n - (intOf i).toNat)
  case atStart => exact ⟨0, by omega, rfl⟩
  case round =>
    obtain ⟨k, hk, rfl⟩ := hrel
    by_cases hlt : k < n
    · have hki : (k : Int) < (n : Int) := by omega
      obtain ⟨b, off, rfl, hb, hc⟩ := hcell (by omega)
      have hkx : k < xs.length := by rw [HX.out]; exact hlt
      have hck := hc k _ (ints_get hkx)
      have hd := Lib.hid (decide_eq_true (HIN.out _ (List.getElem_mem hkx)))
      go_wp2_with fail
      refine (refIn_any _ _ _ _).mono ?_
      rintro e w' ⟨rfl, rfl⟩
      rw [hd.out]
      go_wp2
      go_round
      case rel => exact ⟨k + 1, by omega, by go_num⟩
      case measure => simp [intOf]; omega
    · go_wp2
      go_ret
      exact ⟨rfl, rfl⟩

/-- does a line join a and b? -/
def betw1 (a b : Int) (l : Ln) : Bool := (l.1 == a && l.2 == b) || (l.1 == b && l.2 == a)
def betw (ls : List Ln) (a b : Int) : Nat := (ls.filter (betw1 a b)).length
theorem betw_snoc (ls : List Ln) (l : Ln) (a b : Int) : betw (ls ++ [l]) a b = betw ls a b + (if betw1 a b l then 1 else 0) := by
  unfold betw
  rw [List.filter_append, List.length_append]
  by_cases h : betw1 a b l <;> simp [h]
theorem betw_perm {L M : List Ln} (h : L.Perm M) (a b : Int) : betw L a b = betw M a b := (h.filter _).length_eq
theorem betw_cons (l : Ln) (L : List Ln) (a b : Int) : betw (l :: L) a b = betw L a b + (if betw1 a b l then 1 else 0) := by
  unfold betw
  by_cases h : betw1 a b l <;> simp [h]
theorem betw1_of {l : Ln} {x y : Nat} (h : LnOf l x y) (a b : Int) : betw1 a b l = betw1 a b ((x : Int), (y : Int)) := by
  unfold betw1
  rcases h with ⟨h1, h2⟩ | ⟨h1, h2⟩
  · rw [h1, h2]
  · rw [h1, h2, Bool.eq_iff_iff]
    simp only [Bool.or_eq_true, Bool.and_eq_true, beq_iff_eq]
    omega

set_option maxRecDepth 100000 in
set_option maxHeartbeats 2000000 in
theorem between_ok (v : Value) (ls : List Ln) (a b : Int) (w : World) (hr : LinesRd w v ls) (hl : ls.length ≤ 24) :
    Calls Tryd.prog 16 #[v, .int .i64 a, .int .i64 b] w fun e w' => e = .returned (.int .i64 (betw ls a b : Nat)) ∧ w = w' := by
  obtain ⟨a1, c1, rfl, hnc1, hcm1, h01, hcell1⟩ := hr
  unfold maxLen at hcm1
  clear h01
  go_enter Tryd.func16, Tryd.ntmps16
  go_wp2
  go_loopw [7, 8] (fun z i wr => ∃ k : Nat, k ≤ ls.length ∧ i = .int .i64 k ∧ z = .int .i64 (betw (ls.take k) a b : Nat) ∧ wr = w) (fun _ i _ => ls.length - (intOf i).toNat)
  case atStart => exact ⟨0, by omega, rfl, rfl, rfl⟩
  case round =>
    obtain ⟨k, hk, rfl, rfl, rfl⟩ := hrel
    by_cases hlt : k < ls.length
    · obtain ⟨b1, off1, rfl, hb1, hc1⟩ := hcell1 (by omega)
      obtain ⟨g1, g2⟩ := lines_at hc1 hlt
      have hi1 : (k : Int) < (ls.length : Int) := by omega
      have HS : Hid (betw (ls.take (k + 1)) a b = betw (ls.take k) a b + (if (ls[k].1 == a && ls[k].2 == b) || (ls[k].1 == b && ls[k].2 == a) then 1 else 0)) := by
        show _ = _
        rw [List.take_succ_eq_append_getElem hlt, betw_snoc]; rfl
      have hbl : betw (ls.take k) a b ≤ 24 := Nat.le_trans (List.length_filter_le _ _) (by simp; omega)
      clear hc1 hcell1
      generalize ls[k] = l at *
      obtain ⟨x, y⟩ := l
      simp only at g1 g2 HS
      generalize betw (ls.take k) a b = z at *
      have wz : IntKind.i64.wrap ((z : Int) + 1) = (z : Int) + 1 := IntWalk.i64_in _ (by omega)
      cases h1 : (x == a) <;> cases h2 : (y == b) <;> cases h3 : (x == b) <;> cases h4 : (y == a)
      all_goals
        rw [h1, h2, h3, h4] at HS
        go_wp2
        go_roundw
        case rel => exact ⟨k + 1, by omega, by go_num, by rw [HS.out]; first | rfl | (simp; done) | go_num, by first | rfl | trivial⟩
        case measure => simp [intOf]; omega
    · have e : ls.take k = ls := List.take_of_length_le (by omega)
      rw [e]
      go_wp2
      go_ret
      exact ⟨rfl, by first | rfl | trivial⟩

/-- the lines that the way has gone over, after j -/
noncomputable def goneL (n : Nat) (ls : List Ln) (a0 j : Nat) : List Ln := (List.range j).map fun i => ((((goSt n ls a0 i).2 : Nat) : Int), (((goSt n ls a0 (i + 1)).2 : Nat) : Int))
theorem goneL_succ (n : Nat) (ls : List Ln) (a0 j : Nat) : goneL n ls a0 (j + 1) = goneL n ls a0 j ++ [((((goSt n ls a0 j).2 : Nat) : Int), (((goSt n ls a0 (j + 1)).2 : Nat) : Int))] := by
  unfold goneL; rw [List.range_succ, List.map_append]; rfl
theorem gone_betw {n : Nat} {ls : List Ln} {a0 t : Nat} (hg : GoodG n ls) (h : GoodWay n ls a0 t) (a b : Int) : ∀ j, j ≤ ls.length → betw (goneL n ls a0 j) a b + betw (leftL ls (goSt n ls a0 j).1) a b = betw ls a b := by
  intro j
  induction j with
  | zero =>
    intro _
    have e : leftL ls (goSt n ls a0 0).1 = ls := leftL_none ls
    rw [e]
    show 0 + _ = _
    omega
  | succ j ih =>
    intro hj
    have ih := ih (by omega)
    have inv := go_inv hg h.par h.tlt h.lt h.join j (by omega)
    obtain ⟨i, b', e, hc, _⟩ := inv.pick hg h.tlt (by omega)
    obtain ⟨hi, hu, hl, _, _, _⟩ := hc
    have e1 : goSt n ls a0 (j + 1) = ((goSt n ls a0 j).1.set i true, b') := by rw [goSt, e]; simp
    have hp := leftL_out inv.len hi hu
    have h1 := betw_perm hp a b
    rw [betw_cons, betw1_of hl] at h1
    rw [goneL_succ, betw_snoc, e1]
    simp only
    omega
theorem gone_all {n : Nat} {ls : List Ln} {a0 t : Nat} (hg : GoodG n ls) (h : GoodWay n ls a0 t) (a b : Int) : betw (goneL n ls a0 ls.length) a b = betw ls a b := by
  have h1 := gone_betw hg h a b ls.length (Nat.le_refl _)
  have h2 := (go_inv hg h.par h.tlt h.lt h.join ls.length (Nat.le_refl _)).left
  have h3 : leftL ls (goSt n ls a0 ls.length).1 = [] := List.eq_nil_of_length_eq_zero (by omega)
  rw [h3] at h1
  have : betw ([] : List Ln) a b = 0 := rfl
  omega
theorem way_at (n : Nat) (ls : List Ln) (a0 : Nat) {j m : Nat} (h : j ≤ m) : (ints ((wayUp n ls a0 m).map fun (i : Nat) => (i : Int)))[j]? = some (.int .i64 (((goSt n ls a0 j).2 : Nat) : Int)) := by
  have : j < m + 1 := by omega
  simp [wayUp, ints, this]

set_option maxRecDepth 100000 in
set_option maxHeartbeats 2000000 in
theorem trailOnce_none (n : Int) {v : Value} {ls : List Ln} {w : World} (hh : Handle w) (hr : LinesRd w v ls) (q : Nat)
    (KF : ∀ w', LinesRd w' v ls → Calls Tryd.prog 13 #[.int .i64 n, v] w' fun e w'' => e = .returned (.tuple #[.slice none 0 0, errV q]) ∧ Below w'.heap.size w' w'') :
    Calls Tryd.prog 4 #[.int .i64 n, v] w fun e w' => e = .returned (.bool true) ∧ Below w.heap.size w w' := by
  go_enter Tryd.func4, Tryd.ntmps4
  go_wp2_with fail
  refine (trailFact_any _ hh).mono ?_
  rintro e w1 ⟨rfl, hB1⟩
  go_wp2_with fail
  refine (KF _ (hr.later hB1)).mono ?_
  rintro e w2 ⟨rfl, hB2⟩
  have hB := below_c hB1 hB2
  clear KF
  go_wp2
  go_ret
  exact ⟨rfl, hB⟩

set_option maxRecDepth 100000 in
set_option maxHeartbeats 4000000 in
theorem trailOnce_ok (n : Nat) {v : Value} {ls : List Ln} {w : World} (hh : Handle w) (hr : LinesRd w v ls) (hg : GoodG n ls) {a0 t : Nat} (hw : GoodWay n ls a0 t) :
    Calls Tryd.prog 4 #[.int .i64 (n : Int), v] w fun e w' => e = .returned (.bool true) ∧ Below w.heap.size w w' := by
  obtain ⟨i0, hi, hz0, hz1, hz2⟩ := info_parts info_line
  have HG := Lib.hid hg
  have HW := Lib.hid hw
  have KF := fun w hr => find_way n v ls w hr hg hw
  have KE := fun w hr => ends_ok n v ls w hr hg
  have KL := refLines_any (n : Int) v ls
  rw [chk_good hg] at KL
  have hl24 := hg.2.2.1
  have hlp := hw.some
  have hend := hw.end hg
  have hal := hw.lt
  have htl := hw.tlt
  have hn8 := hg.2.1
  have hn1 := hg.1
  have HIN : Hid (∀ j, j ≤ ls.length → (goSt n ls a0 j).2 < n) := fun j hj => (go_inv hg hw.par hw.tlt hw.lt hw.join j hj).lt
  have HGA := Lib.hid (gone_all hg hw)
  have HE : Hid ((endsUp ls n = [] ∧ t = a0) ∨ (endsUp ls n = [a0, t] ∧ a0 ≠ t)) := hw.ends
  clear hg hw
  obtain ⟨av, cv, rfl, _⟩ := id hr
  go_enter Tryd.func4, Tryd.ntmps4
  go_wp2_with fail
  refine (trailFact_any _ hh).mono ?_
  rintro e w1 ⟨rfl, hB1⟩
  go_wp2_with fail
  refine (KF _ (hr.later hB1)).mono ?_
  rintro e w2 ⟨aw, cw, rfl, ow, hB2⟩
  have hB02 := below_c hB1 hB2
  have rw2 := rd_of_owns ow
  rw [way_len] at rw2 ⊢
  obtain ⟨_, _, e, _, _, _, hcx⟩ := id rw2
  cases e
  obtain ⟨bw, ow', rfl, hbw, hcw⟩ := hcx (by omega)
  have HC : Hid (∀ j, j ≤ ls.length → w2.cell? ⟨bw, ow' + j, none⟩ = some (.int .i64 (((goSt n ls a0 j).2 : Nat) : Int))) := fun j hj => hcw j _ (way_at n ls a0 hj)
  have hcap := rw2.bounds.2
  unfold maxLen at hcap
  have KA := fun w h => refAllIn_ok (.slice (some ⟨bw, ow', none⟩) (ls.length + 1) cw) (ls.length + 1) _ 0 ((n : Int) - 1) w h (way_len n ls a0 ls.length) (fun x hx => by
    obtain ⟨y, hy, rfl⟩ := List.mem_map.1 hx
    unfold wayUp at hy
    obtain ⟨i, hi', rfl⟩ := List.mem_map.1 hy
    have := List.mem_range.1 hi'
    have := HIN.out i (by omega)
    omega)
  clear ow hcx hcw KF
  go_wp2_with fail
  refine (KE _ (hr.later hB02)).mono ?_
  rintro e w3 ⟨ae, ce, rfl, oe, hB3⟩
  have hB03 := below_c hB02 hB3
  have re := rd_of_owns oe
  have HQ : Hid ((((endsUp ls n).map fun (i : Nat) => (i : Int)) = [] ∧ t = a0) ∨ (((endsUp ls n).map fun (i : Nat) => (i : Int)) = [(a0 : Int), (t : Int)] ∧ a0 ≠ t)) := by
    rcases HE.out with ⟨e1, e2⟩ | ⟨e1, e2⟩
    · exact .inl ⟨by rw [e1]; rfl, e2⟩
    · exact .inr ⟨by rw [e1]; rfl, e2⟩
  generalize (endsUp ls n).map (fun (i : Nat) => (i : Int)) = Q at *
  have wn1 : IntKind.i64.wrap ((n : Int) - 1) = (n : Int) - 1 := IntWalk.i64_in _ (by omega)
  have wm : IntKind.i64.wrap ((ls.length : Int) + 1) = (ls.length : Int) + 1 := IntWalk.i64_in _ (by omega)
  clear oe KE HE
  go_wp2_with fail
  refine (KA _ (rw2.later hB3)).mono ?_
  rintro e w' ⟨rfl, rfl⟩
  go_wp2_with fail
  refine (KL _ (hr.later hB03)).mono ?_
  rintro e w4 ⟨rfl, hB4⟩
  have hB04 := below_c hB03 hB4
  have hB24 := below_c hB3 hB4
  clear KA KL rw2
  go_wp2_with fail
  go_loopw [9, 10] (fun gg ii wr => ∃ j : Nat, j ≤ ls.length ∧ ii = .int .i64 ((j : Int) + 1) ∧ wr.ownsRow w4.heap.size 38 2 gg (goneL n ls a0 j).length (cellsOf (goneL n ls a0 j)) ∧ Below w4.heap.size w4 wr) (fun _ ii _ => ls.length + 1 - (intOf ii).toNat)
  case atStart => exact ⟨0, by omega, rfl, by simpa [goneL, cellsOf] using World.ownsRow_nil _ w4.heap.size 38 2, Below.refl _ _⟩
  case round =>
    obtain ⟨j, hj, rfl, ho, hB⟩ := hrel
    obtain ⟨ag, cg, rfl⟩ := owns_slice ho
    have hsB := hB.size
    have hjl : (goneL n ls a0 j).length ≤ 24 := by simp [goneL]; omega
    by_cases hlt : j < ls.length
    · have hji : (j : Int) + 1 < (ls.length : Int) + 1 := by omega
      have hbB := below_c hB24 hB
      have c1 := (hbB.cell (p := ⟨bw, ow' + j, none⟩) hbw).trans (HC.out j (by omega))
      have c2 := (hbB.cell (p := ⟨bw, ow' + (j + 1), none⟩) hbw).trans (HC.out (j + 1) (by omega))
      have HGS := Lib.hid (goneL_succ n ls a0 j)
      generalize goneL n ls a0 j = Y at *
      generalize (goSt n ls a0 j).2 = p at *
      generalize (goSt n ls a0 (j + 1)).2 = q at *
      have wj : IntKind.i64.wrap ((j : Int) + 1 - 1) = (j : Int) := by rw [IntWalk.i64_in _ (by omega)]; omega
      have hj0 : (0 : Int) ≤ (j : Int) + 1 := by omega
      have hjn : (j : Int) < (ls.length : Int) + 1 := by omega
      have hA4 : ((j : Int) + 1).toNat = j + 1 := by omega
      have hA3 : ¬ ((j : Int) + 1 < 0) := by omega
      have wjj : IntKind.i64.wrap ((j : Int) + 1) = (j : Int) + 1 := IntWalk.i64_in _ (by omega)
      have hbw2 : bw < wr.heap.size := Nat.lt_of_lt_of_le hbw hbB.size
      have hbw4 : bw < w4.heap.size := Nat.lt_of_lt_of_le hbw hB24.size
      have wj3 : IntKind.i64.wrap (j : Int) = (j : Int) := IntWalk.i64_in _ (by omega)
      have hA5 : (0 : Int) ≤ (j : Int) := by omega
      have hA6 : ¬ ((j : Int) < 0) := by omega
      go_wp2_with fail
      go_region_held3 (fun w' => w'.cell? ⟨bw, ow' + j, none⟩ = some (.int .i64 (p : Int)) ∧ w'.cell? ⟨bw, ow' + (j + 1), none⟩ = some (.int .i64 (q : Int))) (first | go_keep | exact ⟨(hst4.cell (p := ⟨bw, ow' + j, none⟩) hbw4).trans (((below_alloc' wr.drew _).cell (p := ⟨bw, ow' + j, none⟩) hbw2).trans c1), (hst4.cell (p := ⟨bw, ow' + (j + 1), none⟩) hbw4).trans (((below_alloc' wr.drew _).cell (p := ⟨bw, ow' + (j + 1), none⟩) hbw2).trans c2)⟩)
        (first | (refine step_app _ _ _ ((AppTo.refl ho).drew.alloc _) wr.heap.size _ (World.alloc_heap_new _ _) rfl rfl Tryd.underlying22 hi hz0 hz1 hz2 rfl (by decide) rfl rfl rfl (by simp [Value.oneCell']) (by decide) (by omega) (by omega) ?_; intro v4 w5 hA4' hne4 hst4))
      all_goals
        go_wp2
        go_roundw
        case rel =>
          refine ⟨j + 1, by omega, by go_num, ?_, (hB.trans ((below_alloc' wr _).drew.mono hB.size)).trans hst4⟩
          rw [HGS.out, cellsOf_append, List.length_append, List.length_singleton]
          simpa [cellsOf] using hA4'.own
        case measure => simp [intOf]; omega
    · obtain rfl : j = ls.length := by omega
      have hrg : LinesRd wr (.slice ag (goneL n ls a0 ls.length).length cg) (goneL n ls a0 ls.length) := rd_of_owns ho
      have hgl : (goneL n ls a0 ls.length).length ≤ 24 := hjl
      obtain ⟨wa, hwa⟩ : ∃ wa, wa = wr := ⟨wr, rfl⟩
      subst hwa
      have hB0a := below_c hB04 hB
      generalize goneL n ls a0 ls.length = Y at *
      clear ho
      go_wp2_with fail
      go_loopw [11] (fun aa wr => ∃ a : Nat, a ≤ n ∧ aa = .int .i64 a ∧ Below wa.heap.size wa wr) (fun aa _ => n - (intOf aa).toNat)
      case atStart => exact ⟨0, by omega, rfl, Below.refl _ _⟩
      case round =>
        obtain ⟨a, ha, rfl, hBa⟩ := hrel
        by_cases hla : a < n
        · have hai : (a : Int) < (n : Int) := by omega
          go_wp2_with fail
          go_loopw [12] (fun bb wr => ∃ b : Nat, b ≤ a ∧ bb = .int .i64 b ∧ Below wa.heap.size wa wr) (fun bb _ => a - (intOf bb).toNat)
          case atStart => exact ⟨0, by omega, rfl, hBa⟩
          case round =>
            clear hBa
            obtain ⟨b, hb, rfl, hBa⟩ := hrel
            by_cases hlb : b < a
            · have hbi : (b : Int) < (a : Int) := by omega
              have KB1 := between_ok (.slice ag Y.length cg) Y (a : Int) (b : Int) _ (hrg.later hBa) hgl
              have KB2 := between_ok _ ls (a : Int) (b : Int) _ (hr.later (below_c hB0a hBa)) hl24
              rw [HGA.out] at KB1
              generalize betw ls (a : Int) (b : Int) = z at *
              go_wp2_with fail
              refine KB1.mono ?_
              rintro e w' ⟨rfl, rfl⟩
              go_wp2_with fail
              refine KB2.mono ?_
              rintro e w' ⟨rfl, rfl⟩
              have hzz : ((z : Int) != (z : Int)) = false := by simp
              go_wp2
              go_roundw
              case rel => exact ⟨b + 1, by omega, by go_num, hBa⟩
              case measure => simp [intOf]; omega
            · obtain rfl : b = a := by omega
              go_wp2
              go_roundw
              case rel => exact ⟨b + 1, by omega, by go_num, hBa⟩
              case measure => simp [intOf]; omega
        · obtain rfl : n = a := by omega
          have hBf := below_c hB0a hBa
          have hb2a := below_c (below_c hB24 hB) hBa
          have y0 := (hb2a.cell (p := ⟨bw, ow' + 0, none⟩) hbw).trans (HC.out 0 (by omega))
          have yl := (hb2a.cell (p := ⟨bw, ow' + ls.length, none⟩) hbw).trans (HC.out ls.length (Nat.le_refl _))
          rw [hend] at yl
          have e0 : ow' + 0 = ow' := rfl
          rw [e0] at y0
          have y0' : World.cell? _ ⟨bw, ow', none⟩ = some (.int .i64 (a0 : Int)) := y0
          have wl : IntKind.i64.wrap ((ls.length : Int) + 1 - 1) = (ls.length : Int) := by rw [IntWalk.i64_in _ (by omega)]; omega
          have hi1 : (0 : Int) < (ls.length : Int) + 1 := by omega
          have hi2 : (ls.length : Int) < (ls.length : Int) + 1 := by omega
          have re2 := ((re.later hB4).later hB).later hBa
          clear y0 e0 hend HC
          rcases HQ.out with ⟨hq, rfl⟩ | ⟨hq, hne⟩
          · subst hq
            go_wp2
            go_ret
            exact ⟨rfl, hBf⟩
          · subst hq
            have hab : ((a0 : Int) != (t : Int)) = true := by simp; omega
            obtain ⟨_, _, e, _, _, _, hce⟩ := id re2
            cases e
            obtain ⟨be, oe, rfl, hbe, hcx⟩ := hce (by simp)
            have cp := hcx 0 _ rfl
            have e0 : oe + 0 = oe := rfl
            rw [e0] at cp
            have KH := refHas_any _ [(a0 : Int), (t : Int)] (t : Int) _ re2
            rw [decide_eq_true (by simp)] at KH
            clear hcx hce e0 re2 re
            go_wp2_with fail
            refine KH.mono ?_
            rintro e w' ⟨rfl, rfl⟩
            go_wp2
            go_ret
            exact ⟨rfl, hBf⟩

theorem trailOnce_any {w : World} (hh : Handle w) (n : Int) {v : Value} {ls : List Ln} (hr : LinesRd w v ls) :
    Calls Tryd.prog 4 #[.int .i64 n, v] w fun e w' => e = .returned (.bool true) ∧ Below w.heap.size w w' := by
  by_cases hc : chk n ls = 0
  · obtain ⟨m, rfl, hg⟩ := good_of hc
    rcases way_or hg with ⟨a0, t, h⟩ | h
    · exact trailOnce_ok m hh hr hg h
    · exact trailOnce_none m hh hr 5 (fun w' hr' => find_none m v ls w' hr' hg h)
  · exact trailOnce_none n hh hr _ (fun w' hr' => find_bad n v ls w' hr' hc)

end Go.Proofs.YtoomdnbbbaooeaaDoor
