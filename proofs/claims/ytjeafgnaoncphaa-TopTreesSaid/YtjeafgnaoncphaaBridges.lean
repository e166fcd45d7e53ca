/- What cuts.Bridges returns: the walk. Conditions: in each statement. -/
import Derived.Test.YtjeafgnaoncphaaLineSort
import Derived.Test.YtjeafgnaoncphaaLowest
import Derived.Test.YtjeafgnaoncphaaDeepFact
import Derived.Deep.RegionHeld3
namespace Go.Proofs.Ytjeafgnaoncphaa
open Go.RowKit Gr

/-- does a line join a and b? -/
def joins (a b : Int) (l : Ln) : Bool := (l.1 == a && l.2 == b) || (l.1 == b && l.2 == a)
def many (ls : List Ln) (a b : Int) : Nat := (ls.filter (joins a b)).length
theorem many_snoc (ls : List Ln) (l : Ln) (a b : Int) : many (ls ++ [l]) a b = many ls a b + (if joins a b l then 1 else 0) := by
  unfold many
  rw [List.filter_append, List.length_append]
  by_cases h : joins a b l <;> simp [h]
theorem many_le (ls : List Ln) (a b : Int) : many ls a b ≤ ls.length := List.length_filter_le _ _

set_option maxRecDepth 100000 in
set_option maxHeartbeats 2000000 in
theorem cutsBetween_ok (v : Value) (ls : List Ln) (a b : Int) (w : World) (hr : LinesRd w v ls) (hl : ls.length ≤ 24) :
    Calls Try.prog 34 #[v, .int .i64 a, .int .i64 b] w fun e w' => e = .returned (.int .i64 ((many ls a b : Nat) : Int)) ∧ Below w.heap.size w w' := by
  obtain ⟨a1, c1, rfl, hnc1, hcm1, h01, hcell1⟩ := id hr
  unfold maxLen at hcm1
  clear h01
  go_enter Try.func34, Try.ntmps34
  go_wp2
  go_loopw [7, 12] (fun z i wr => ∃ k : Nat, k ≤ ls.length ∧ i = .int .i64 k ∧ z = .int .i64 ((many (ls.take k) a b : Nat) : Int) ∧ Below w.heap.size w wr) (fun _ i _ => ls.length - (intOf i).toNat)
  case atStart => exact ⟨0, by omega, rfl, rfl, Below.refl _ _⟩
  case round =>
    obtain ⟨k, hk, rfl, rfl, hB⟩ := hrel
    by_cases hlt : k < ls.length
    · obtain ⟨_, _, e, _, _, _, hcell⟩ := hr.later hB
      cases e
      obtain ⟨b1, off1, rfl, hb1, hc1⟩ := hcell (by omega)
      obtain ⟨g1, g2⟩ := lines_at hc1 hlt
      have hi1 : (k : Int) < (ls.length : Int) := by omega
      have HS : Hid (many (ls.take (k + 1)) a b = many (ls.take k) a b + (if (ls[k].1 == a && ls[k].2 == b) || (ls[k].1 == b && ls[k].2 == a) then 1 else 0)) := by
        show _ = _
        rw [List.take_succ_eq_append_getElem hlt, many_snoc]; rfl
      have hbl : many (ls.take k) a b ≤ 24 := Nat.le_trans (List.length_filter_le _ _) (by simp; omega)
      have hC := below_c hB (below_alloc' wr (.cells #[.int .i64 (ls[k]).1, .int .i64 (ls[k]).2] 33))
      clear hc1 hcell hcell1
      generalize ls[k] = l at *
      obtain ⟨x, y⟩ := l
      simp only at g1 g2 HS hC
      generalize many (ls.take k) a b = z at *
      have wz : IntKind.i64.wrap ((z : Int) + 1) = (z : Int) + 1 := IntWalk.i64_in _ (by omega)
      cases h1 : (x == a) <;> cases h2 : (y == b) <;> cases h3 : (x == b) <;> cases h4 : (y == a)
      all_goals
        rw [h1, h2, h3, h4] at HS
        go_wp2
        go_roundw
        case rel => exact ⟨k + 1, by omega, by go_num, by rw [HS.out]; first | rfl | (simp; done) | go_num, hC⟩
        case measure => simp [intOf]; omega
    · have e : ls.take k = ls := List.take_of_length_le (by omega)
      rw [e]
      go_wp2
      go_ret
      exact ⟨rfl, hB⟩

/-- is the line to the point from which i was met a bridge? -/
def brAt (ls : List Ln) (m c low : List Int) (i : Nat) : Bool := decide (0 ≤ at1 c i) && decide (at1 m (at1 c i).toNat < at1 low i) && decide (many ls i (at1 c i) = 1)
def brLn (c : List Int) (i : Nat) : Ln := (min (i : Int) (at1 c i), max (i : Int) (at1 c i))
def brUp (ls : List Ln) (m c low : List Int) (k : Nat) : List Ln := ((List.range k).filter (brAt ls m c low)).map (brLn c)
theorem brUp_succ (ls : List Ln) (m c low : List Int) (k : Nat) : brUp ls m c low (k + 1) = brUp ls m c low k ++ (if brAt ls m c low k then [brLn c k] else []) := by
  unfold brUp
  rw [List.range_succ, List.filter_append, List.map_append]
  cases h : brAt ls m c low k <;> simp [h]
theorem brUp_le (ls : List Ln) (m c low : List Int) (k : Nat) : (brUp ls m c low k).length ≤ k := by
  unfold brUp
  rw [List.length_map]
  refine Nat.le_trans (List.length_filter_le _ _) ?_; simp
/-- the bridges -/
def bridgesL (n : Nat) (ls : List Ln) : List Ln := lsort (brUp ls (deepWalk (beside n ls) n).met (deepWalk (beside n ls) n).frm (lows (beside n ls) n (deepWalk (beside n ls) n).met (deepWalk (beside n ls) n).left (deepWalk (beside n ls) n).frm) n)

set_option maxRecDepth 100000 in
set_option maxHeartbeats 1000000 in
theorem bridges_bad (n : Int) (v : Value) (ls : List Ln) (w : World) (hr : LinesRd w v ls) (hc : chk n ls ≠ 0) :
    Calls Try.prog 10 #[.int .i64 n, v] w fun e w' => e = .returned (.tuple #[.slice none 0 0, errV (chk n ls)]) ∧ Below w.heap.size w w' := by
  have K := deep_bad n v ls w hr hc
  clear hc
  go_enter Try.func10, Try.ntmps10
  go_wp2_with fail
  refine K.mono ?_
  rintro e w1 ⟨rfl, hB⟩
  go_wp2
  go_ret2
  exact ⟨rfl, hB⟩

-- behind the region that asks whether the line is a bridge: it is none

set_option maxRecDepth 100000 in
set_option maxHeartbeats 4000000 in
theorem bridges_ok (n : Nat) (v : Value) (ls : List Ln) (w : World) (hr : LinesRd w v ls) (hg : GoodG n ls) :
    Calls Try.prog 10 #[.int .i64 (n : Int), v] w fun e w' => ∃ a c, e = .returned (.tuple #[.slice a (bridgesL n ls).length c, .nilIface]) ∧ w'.ownsRow w.heap.size 33 2 (.slice a (bridgesL n ls).length c) (bridgesL n ls).length (cellsOf (bridgesL n ls)) ∧ Below w.heap.size w w' := by
  obtain ⟨i0, hi, hz0, hz1, hz2⟩ := info_parts info_line
  have hn1 := hg.1
  have hn8 := hg.2.1
  have hl24 := hg.2.2.1
  have HD := Lib.hid (deepWalk_is hn8 (adj_bounded hg) (fun _ _ h => adj_symm hg h))
  have KD := fun w hr => deep_ok n v ls w hr hg
  have KL := fun w hr => lowest_ok n v ls w hr hg
  have HB : Hid (bridgesL n ls = lsort (brUp ls (deepWalk (beside n ls) n).met (deepWalk (beside n ls) n).frm (lows (beside n ls) n (deepWalk (beside n ls) n).met (deepWalk (beside n ls) n).left (deepWalk (beside n ls) n).frm) n)) := rfl
  have hl1 := HD.out.lm
  have hl3 := HD.out.lc
  have hl4 : (lows (beside n ls) n (deepWalk (beside n ls) n).met (deepWalk (beside n ls) n).left (deepWalk (beside n ls) n).frm).length = n := by simp [lows]
  have HT : Hid (∀ k, k < n → at1 (deepWalk (beside n ls) n).frm k = -1 ∨ ∃ p : Nat, p < n ∧ at1 (deepWalk (beside n ls) n).frm k = (p : Int)) := fun k hk => by
    rcases HD.out.tree k hk with h | ⟨p, h1, h2, _⟩
    · exact .inl h.1
    · exact .inr ⟨p, h1, h2⟩
  generalize lows (beside n ls) n (deepWalk (beside n ls) n).met (deepWalk (beside n ls) n).left (deepWalk (beside n ls) n).frm = low at *
  generalize (deepWalk (beside n ls) n).met = m at *
  generalize (deepWalk (beside n ls) n).frm = c at *
  clear hg HD
  rw [HB.out, lsort_length]
  go_enter Try.func10, Try.ntmps10
  go_wp2_with fail
  refine (KD _ hr).mono ?_
  rintro e w1 ⟨a1, c1, a2, c2, a3, c3, rfl, r1, _, r3, hB1⟩
  go_wp2_with fail
  refine (KL _ (hr.later hB1)).mono ?_
  rintro e w2 ⟨a4, c4, rfl, r4, hB2⟩
  have hB02 := below_c hB1 hB2
  obtain ⟨b1, o1, d1, e, hb1, hc1⟩ := rd_at (r1.later hB2) hl1 hn1
  cases e
  obtain ⟨b3, o3, d3, e, hb3, hc3⟩ := rd_at (r3.later hB2) hl3 hn1
  cases e
  obtain ⟨b4, o4, d4, e, hb4, hc4⟩ := rd_at r4 hl4 hn1
  cases e
  clear r1 r3 r4 KD KL
  have HC1 := Lib.hid hc1
  have HC3 := Lib.hid hc3
  have HC4 := Lib.hid hc4
  clear hc1 hc3 hc4
  go_wp2_with fail
  go_loopw [11, 36] (fun oo ii wr => ∃ k : Nat, k ≤ n ∧ ii = .int .i64 k ∧ wr.ownsRow w2.heap.size 33 2 oo (brUp ls m c low k).length (cellsOf (brUp ls m c low k)) ∧ Below w2.heap.size w2 wr) (fun _ ii _ => n - (intOf ii).toNat)
  case atStart => exact ⟨0, by omega, rfl, by simpa [brUp, cellsOf] using World.ownsRow_nil _ w2.heap.size 33 2, Below.refl _ _⟩
  case round =>
    obtain ⟨k, hk, rfl, ho, hB⟩ := hrel
    obtain ⟨ao, co, rfl⟩ := owns_slice ho
    by_cases hlt : k < n
    · have hki : (k : Int) < (n : Int) := by omega
      have ck3 := (hB.cell (p := ⟨b3, o3 + k, none⟩) hb3).trans (HC3.out k hlt)
      have ck4 := (hB.cell (p := ⟨b4, o4 + k, none⟩) hb4).trans (HC4.out k hlt)
      have HBS := Lib.hid (brUp_succ ls m c low k)
      have hul := brUp_le ls m c low k
      have HBA : Hid (brAt ls m c low k = (decide (0 ≤ at1 c k) && decide (at1 m (at1 c k).toNat < at1 low k) && decide (many ls k (at1 c k) = 1))) := rfl
      have HBL : Hid (brLn c k = (min (k : Int) (at1 c k), max (k : Int) (at1 c k))) := rfl
      rcases HT.out k hlt with hp | ⟨p, hpn, hp⟩
      · have HU : Hid (brUp ls m c low (k + 1) = brUp ls m c low k) := by
          show _ = _
          rw [HBS.out, HBA.out, hp]; simp
        rw [hp] at ck3
        generalize brUp ls m c low k = Y at *
        clear hp HBS HBA HBL ck4
        go_wp2_with fail
        go_quiet (fail)
        go_wp2
        go_roundw
        case rel => exact ⟨k + 1, by omega, by go_num, by rw [HU.out]; exact owns_later ho (below_drewN' _ _), hB.trans ((below_drewN' _ _).mono hB.size)⟩
        case measure => simp [intOf]; omega
      · rw [hp] at ck3 HBA HBL
        have ckm := (hB.cell (p := ⟨b1, o1 + p, none⟩) hb1).trans (HC1.out p hpn)
        have hpi : (p : Int) < (n : Int) := by omega
        have hpd : decide ((p : Int) ≥ 0) = true := by simp
        have htn : ((p : Int)).toNat = p := by omega
        rw [htn] at HBA
        generalize at1 low k = lo at *
        generalize at1 m p = mp at *
        by_cases hlo : mp < lo
        · have hld : decide (lo > mp) = true := by simp; omega
          have hB0 := below_c hB02 hB
          have K := cutsBetween_ok v ls (k : Int) (p : Int) wr.drew ((hr.later hB0).later (below_drewN' wr 1)) hl24
          have hod := owns_later ho (below_drewN' wr 1)
          have hBd : Below w2.heap.size w2 wr.drew := hB.trans ((below_drewN' wr 1).mono hB.size)
          have hbw4 : b4 < wr.drew.heap.size := Nat.lt_of_lt_of_le hb4 hBd.size
          have hbw1 : b1 < wr.drew.heap.size := Nat.lt_of_lt_of_le hb1 hBd.size
          rw [decide_eq_true hlo] at HBA
          generalize many ls (k : Int) (p : Int) = z at *
          by_cases hz : z = 1
          · have hzb : ((z : Int) == 1) = true := by simp [hz]
            have HU : Hid (brUp ls m c low (k + 1) = brUp ls m c low k ++ [(min (k : Int) (p : Int), max (k : Int) (p : Int))]) := by
              show _ = _
              rw [HBS.out, HBA.out, decide_eq_true hz, HBL.out]; simp
            generalize brUp ls m c low k = Y at *
            clear hp HBS HBA HBL hlo hz
            go_wp2_with fail
            go_region_held3 (fun w' => w'.cell? ⟨b4, o4 + k, none⟩ = some (.int .i64 lo) ∧ w'.cell? ⟨b1, o1 + p, none⟩ = some (.int .i64 mp)) (first | go_keep | exact ⟨(hB5.cell (p := ⟨b4, o4 + k, none⟩) hbw4).trans ck4, (hB5.cell (p := ⟨b1, o1 + p, none⟩) hbw1).trans ckm⟩)
              (first | (go_simp; refine K.mono ?_; rintro e w5 ⟨rfl, hB5⟩; have ho5 := owns_later hod hB5; have hB05 := below_c hBd hB5; have hs5 := hB05.size))
            all_goals
              go_wp2_with (at_builtin; go_must (refine wpl_app _ _ _ (AppTo.refl ho5) rfl rfl Try.underlying22 hi hz0 hz1 hz2 rfl (by decide) rfl rfl rfl (by simp [Value.oneCell']) (by decide) (by omega) (by omega) ?_); intro v8 w8 hA8 hne8 hst8)
              go_roundw
              case rel =>
                refine ⟨k + 1, by omega, by go_num, ?_, hA8.below ho5 hB05 (Nat.le_refl _) (by omega)⟩
                rw [HU.out, cellsOf_append, List.length_append, List.length_singleton]
                simpa [cellsOf] using hA8.own
              case measure => simp [intOf]; omega
          · have hzb : ((z : Int) == 1) = false := by rw [beq_eq_false_iff_ne]; omega
            have HU : Hid (brUp ls m c low (k + 1) = brUp ls m c low k) := by
              show _ = _
              rw [HBS.out, HBA.out, decide_eq_false hz]; simp
            generalize brUp ls m c low k = Y at *
            clear hp HBS HBA HBL hlo hz
            go_wp2_with fail
            go_region_held3 (fun w' => w'.cell? ⟨b4, o4 + k, none⟩ = some (.int .i64 lo) ∧ w'.cell? ⟨b1, o1 + p, none⟩ = some (.int .i64 mp)) (first | go_keep | exact ⟨(hB5.cell (p := ⟨b4, o4 + k, none⟩) hbw4).trans ck4, (hB5.cell (p := ⟨b1, o1 + p, none⟩) hbw1).trans ckm⟩)
              (first | (go_simp; refine K.mono ?_; rintro e w5 ⟨rfl, hB5⟩; have ho5 := owns_later hod hB5; have hB05 := below_c hBd hB5; have hs5 := hB05.size))
            all_goals
              go_wp2
              go_roundw
              case rel => exact ⟨k + 1, by omega, by go_num, by rw [HU.out]; exact ho5, hB05⟩
              case measure => simp [intOf]; omega
        · have hld : decide (lo > mp) = false := by simp; omega
          have HU : Hid (brUp ls m c low (k + 1) = brUp ls m c low k) := by
            show _ = _
            rw [HBS.out, HBA.out, decide_eq_false hlo]; simp
          generalize brUp ls m c low k = Y at *
          clear hp HBS HBA HBL hlo
          go_wp2_with fail
          go_quiet (fail)
          go_wp2
          go_roundw
          case rel => exact ⟨k + 1, by omega, by go_num, by rw [HU.out]; exact owns_later ho (below_drewN' _ _), hB.trans ((below_drewN' _ _).mono hB.size)⟩
          case measure => simp [intOf]; omega
    · obtain rfl : k = n := by omega
      have KS := lsort_ok wr w2.heap.size _ co ao _ ho (fun l hl => by
        unfold brUp at hl
        obtain ⟨i, hi, rfl⟩ := List.mem_map.1 hl
        have hik := List.mem_range.1 (List.mem_filter.1 hi).1
        have hib := (List.mem_filter.1 hi).2
        unfold brLn
        rcases HT.out i hik with h | ⟨p, hpn, h⟩
        · exfalso
          unfold brAt at hib
          rw [h] at hib
          simp at hib
        · rw [h]
          simp only
          omega) (Nat.le_trans (brUp_le _ _ _ _ _) (by omega))
      have hsB := hB.size
      clear ho HT
      go_wp2_with fail
      refine KS.mono ?_
      rintro e w5 ⟨rfl, ho5, hB5⟩
      have hB05 := hB5 _ hB hsB
      clear hB5 KS
      go_wp2
      go_ret2
      exact ⟨ao, co, rfl, owns_mono ho5 hB02.size, below_c hB02 hB05⟩
end Go.Proofs.Ytjeafgnaoncphaa
