/- What graph.Without returns: the walk. Conditions: in each statement. -/
import Derived.Test.YtjeafgnaoncphaaLinesEq
namespace Go.Proofs.Ytjeafgnaoncphaa
namespace Gr
/-- a point's number where point i is gone -/
def less (i p : Int) : Int := if i < p then p - 1 else p
/-- the lines that do not touch i -/
def keeps (i : Int) (l : Ln) : Bool := l.1 != i && l.2 != i
def withoutL (i : Int) (ls : List Ln) : List Ln := (ls.filter (keeps i)).map fun l => (less i l.1, less i l.2)
theorem withoutL_snoc (i : Int) (ls : List Ln) (k : Nat) (h : k < ls.length) : withoutL i (ls.take (k + 1)) = withoutL i (ls.take k) ++ (if keeps i ls[k] then [(less i (ls[k]).1, less i (ls[k]).2)] else []) := by
  rw [List.take_succ_eq_append_getElem h]
  unfold withoutL
  rw [List.filter_append, List.map_append]
  congr 1
  simp only [List.filter_cons, List.filter_nil]
  split <;> rfl
theorem withoutL_length (i : Int) (ls : List Ln) : (withoutL i ls).length ≤ ls.length := by
  unfold withoutL; rw [List.length_map]; exact List.length_filter_le _ _
end Gr
open Go.RowKit Gr

set_option maxHeartbeats 400000 in
theorem less_any (p i : Int) (B : Nat) (w : World) (hc : w.cell? ⟨B, 0, none⟩ = some (.int .i64 i)) (h1 : 0 ≤ p) (h2 : p ≤ 100) :
    Calls Try.prog 48 #[.int .i64 p, .pointer (some ⟨B, 0, none⟩)] w fun e w' => e = .returned (.int .i64 (less i p)) ∧ w = w' := by
  have w1 : IntKind.i64.wrap (p - 1) = p - 1 := IntWalk.i64_in _ (by omega)
  by_cases h : i < p
  · have hl : less i p = p - 1 := by simp [less, h]
    rw [hl]
    clear hl
    go_enter Try.func48, Try.ntmps48
    go_wp2
    go_ret
    exact ⟨ret_int (by first | rfl | exact w1), rfl⟩
  · have hl : less i p = p := by simp [less, h]
    rw [hl]
    clear hl
    have h' : p ≤ i := by omega
    go_enter Try.func48, Try.ntmps48
    go_wp2
    go_ret
    exact ⟨rfl, rfl⟩

set_option maxRecDepth 100000 in
set_option maxHeartbeats 1000000 in
theorem without_bad (n : Int) (v : Value) (ls : List Ln) (i : Int) (w : World) (hr : LinesRd w v ls) (hc : chk n ls ≠ 0) :
    Calls Try.prog 18 #[.int .i64 n, v, .int .i64 i] w fun e w' => e = .returned (.tuple #[.slice none 0 0, errV (chk n ls)]) ∧ Below w.heap.size w w' := by
  have HC := Lib.hid (errOf_pos hc)
  clear hc
  go_enter Try.func18, Try.ntmps18
  go_wp2_with fail
  refine (graphCheck_any n v ls _ (hr.later (below_alloc' _ _))).mono ?_
  rintro e w1 ⟨rfl, hB⟩
  rw [HC.out]
  go_wp2
  go_ret2
  exact ⟨rfl, below_c (below_alloc' _ _) hB⟩

set_option maxRecDepth 100000 in
set_option maxHeartbeats 1000000 in
theorem without_out (n : Nat) (v : Value) (ls : List Ln) (i : Int) (w : World) (hr : LinesRd w v ls) (hg : GoodG n ls) (hi : n = 1 ∨ ¬ (0 ≤ i ∧ i ≤ (n : Int) - 1)) :
    Calls Try.prog 18 #[.int .i64 n, v, .int .i64 i] w fun e w' => e = .returned (.tuple #[.slice none 0 0, errV 1]) ∧ Below w.heap.size w w' := by
  have HC : Hid (errOf (chk n ls) = .nilIface) := by show _ = _; rw [chk_good hg]; rfl
  have hn8 := hg.2.1
  have hn1 := hg.1
  have w1 : IntKind.i64.wrap ((n : Int) - 1) = (n : Int) - 1 := IntWalk.i64_in _ (by omega)
  by_cases h1 : n = 1
  · have hb : ((n : Int) == 1) = true := by simp; omega
    clear hi w1 h1
    go_enter Try.func18, Try.ntmps18
    go_wp2_with fail
    refine (graphCheck_any _ v ls _ (hr.later (below_alloc' _ _))).mono ?_
    rintro e w2 ⟨rfl, hB⟩
    rw [HC.out]
    go_wp2
    go_ret2
    exact ⟨rfl, below_c (below_alloc' _ _) hB⟩
  · have HI : Hid (decide (0 ≤ i ∧ i ≤ (n : Int) - 1) = false) := by show _ = _; exact decide_eq_false (hi.resolve_left h1)
    have hb : ((n : Int) == 1) = false := by simp; omega
    clear hi
    go_enter Try.func18, Try.ntmps18
    go_wp2_with fail
    refine (graphCheck_any n v ls _ (hr.later (below_alloc' _ _))).mono ?_
    rintro e w2 ⟨rfl, hB⟩
    rw [HC.out]
    have hcell : w2.cell? ⟨w.heap.size, 0, none⟩ = some (.int .i64 i) := (hB.cell (p := ⟨w.heap.size, 0, none⟩) (by simp)).trans (cell_of_one (World.alloc_heap_new _ _))
    go_wp2_with fail
    refine (within_any _ _ _ _).mono ?_
    rintro e w3 ⟨rfl, rfl⟩
    first | rw [HI.out] | (rw [w1, HI.out])
    go_wp2
    go_ret2
    exact ⟨rfl, below_c (below_alloc' _ _) hB⟩

set_option maxRecDepth 100000 in
set_option maxHeartbeats 4000000 in
theorem without_ok (n : Nat) (v : Value) (ls : List Ln) (i : Nat) (w : World) (hr : LinesRd w v ls) (hg : GoodG n ls) (h1 : n ≠ 1) (hin : i < n) :
    Calls Try.prog 18 #[.int .i64 n, v, .int .i64 i] w fun e w' => ∃ u, e = .returned (.tuple #[u, .nilIface]) ∧ w'.ownsRow w.heap.size 33 2 u (withoutL i ls).length (cellsOf (withoutL i ls)) ∧ Below w.heap.size w w' := by
  obtain ⟨i0, hi, hz0, hz1, hz2⟩ := info_parts info_line
  have HC : Hid (errOf (chk n ls) = .nilIface) := by show _ = _; rw [chk_good hg]; rfl
  obtain ⟨hn1, hn8, hl24, hgl⟩ := hg
  have HGL := Lib.hid hgl
  have hB0 := below_alloc' w (.cells #[.int .i64 i] 3)
  have hr0 := hr
  obtain ⟨a, c, rfl, hnc, hcm, _, hcell⟩ := hr0
  unfold maxLen at hcm
  have w1 : IntKind.i64.wrap ((n : Int) - 1) = (n : Int) - 1 := IntWalk.i64_in _ (by omega)
  have HI : Hid (decide (0 ≤ (i : Int) ∧ (i : Int) ≤ (n : Int) - 1) = true) := by show _ = _; exact decide_eq_true (by omega)
  have hb : ((n : Int) == 1) = false := by simp; omega
  clear hgl
  go_enter Try.func18, Try.ntmps18
  go_wp2_with fail
  refine (graphCheck_any n _ ls _ (hr.later (below_alloc' _ _))).mono ?_
  rintro e w2 ⟨rfl, hB⟩
  rw [HC.out]
  have hcell2 : w2.cell? ⟨w.heap.size, 0, none⟩ = some (.int .i64 i) := (hB.cell (p := ⟨w.heap.size, 0, none⟩) (by simp)).trans (cell_of_one (World.alloc_heap_new _ _))
  have hlt2 : w.heap.size < w2.heap.size := Nat.lt_of_lt_of_le (by simp) hB.size
  go_wp2_with fail
  refine (within_any _ _ _ _).mono ?_
  rintro e w3 ⟨rfl, rfl⟩
  first | rw [HI.out] | (rw [w1, HI.out])
  have hB2 := below_c hB0 hB
  clear hB hB0 w1
  go_wp2_with fail
  go_loopw [10, 32] (fun u j wr => ∃ (k : Nat), k ≤ ls.length ∧ j = .int .i64 k ∧ AppTo w2 w2.heap.size 33 2 (.slice none 0 0) wr u (withoutL i (ls.take k)).length (cellsOf (withoutL i (ls.take k)))) (fun _ j _ => ls.length - (intOf j).toNat)
  case atStart => exact ⟨0, by omega, rfl, by simpa [withoutL, cellsOf] using AppTo.refl (World.ownsRow_nil _ _ _ _)⟩
  case round =>
    obtain ⟨k, hk, rfl, hA⟩ := hrel
    by_cases hlt : k < ls.length
    · obtain ⟨b, off, rfl, hbb, hc⟩ := hcell (by omega)
      obtain ⟨g1, g2⟩ := lines_at hc hlt
      have hbr := hA.of_nil
      have hbr0 := below_c hB2 hbr
      have hc1 := (hbr0.cell (p := ⟨b, off + k * 2, none⟩) hbb).trans g1
      have hc2 := (hbr0.cell (p := ⟨b, off + k * 2 + 1, none⟩) hbb).trans g2
      have hci := (hbr.cell (p := ⟨w.heap.size, 0, none⟩) hlt2).trans hcell2
      have HT := Lib.hid (withoutL_snoc i ls k hlt)
      have hLn : (withoutL i (ls.take k)).length ≤ 24 := Nat.le_trans (withoutL_length i (ls.take k)) (by rw [List.length_take]; omega)
      have hln := HGL.out _ (List.getElem_mem hlt)
      have hlk : (k : Int) < (ls.length : Int) := by omega
      clear g1 g2 hc hbr0
      generalize ls[k] = l at *
      obtain ⟨x, y⟩ := l
      simp only at hc1 hc2 hln
      have hci2 : (wr.alloc (.cells #[.int .i64 x, .int .i64 y] 33)).cell? ⟨w.heap.size, 0, none⟩ = some (.int .i64 i) := ((below_alloc' wr _).cell (p := ⟨w.heap.size, 0, none⟩) (Nat.lt_of_lt_of_le hlt2 hbr.size)).trans hci
      have hci3 : (wr.alloc (.cells #[.int .i64 x, .int .i64 y] 33)).drew.cell? ⟨w.heap.size, 0, none⟩ = some (.int .i64 i) := hci2
      have hA1 := hA.alloc (.cells #[.int .i64 x, .int .i64 y] 33)
      have HBk : ∀ o : Obj, ((wr.alloc (.cells #[.int .i64 x, .int .i64 y] 33)).drew.alloc o).heap[wr.heap.size + 1]? = some o := fun o => by
        have := World.alloc_heap_new (wr.alloc (.cells #[.int .i64 x, .int .i64 y] 33)).drew o
        simpa using this
      by_cases hx : x = i
      · have hbx : (x != (i : Int)) = false := by simp [hx]
        have HF : Hid (keeps i (x, y) = false) := by show _ = _; simp [keeps, hx]
        clear hx
        go_wp2
        go_roundw
        case rel =>
          refine ⟨k + 1, by omega, by go_num, ?_⟩
          rw [HT.out, HF.out]
          simp only [Bool.false_eq_true, if_false, List.append_nil]
          exact hA1
        case measure => simp [intOf]; omega
      · have hbx : (x != (i : Int)) = true := by simp [hx]
        by_cases hy : y = i
        · have hby : (y != (i : Int)) = false := by simp [hy]
          have HF : Hid (keeps i (x, y) = false) := by show _ = _; simp [keeps, hy]
          clear hx hy
          go_wp2
          go_roundw
          case rel =>
            refine ⟨k + 1, by omega, by go_num, ?_⟩
            rw [HT.out, HF.out]
            simp only [Bool.false_eq_true, if_false, List.append_nil]
            exact hA1
          case measure => simp [intOf]; omega
        · have hby : (y != (i : Int)) = true := by simp [hy]
          have HF : Hid (keeps i (x, y) = true) := by show _ = _; simp [keeps, hx, hy]
          clear hx hy
          have K1 := less_any x i w.heap.size (wr.alloc (.cells #[.int .i64 x, .int .i64 y] 33)).drew hci3 (by omega) (by omega)
          have K2 := less_any y i w.heap.size (wr.alloc (.cells #[.int .i64 x, .int .i64 y] 33)).drew hci3 (by omega) (by omega)
          generalize less i x = x' at *
          generalize less i y = y' at *
          go_wp2
          go_region_law (first
            | (refine step_app _ _ _ (hA1.drew.alloc _) (wr.heap.size + 1) _ (HBk _) rfl rfl Try.underlying22 hi hz0 hz1 hz2 rfl (by decide) rfl rfl rfl (by simp [Value.oneCell']) (by decide) (by omega) (by omega) ?_; intro v2 w4 hA2 hne2 hst2)
            | (go_simp; refine K1.mono ?_; rintro e w' ⟨rfl, rfl⟩)
            | (go_simp; refine K2.mono ?_; rintro e w' ⟨rfl, rfl⟩))
          all_goals
            go_wp2
            go_roundw
            case rel =>
              refine ⟨k + 1, by omega, by go_num, ?_⟩
              rw [HT.out, HF.out]
              simp only [if_true, List.length_append, List.length_singleton, cellsOf_append]
              exact hA2
            case measure => simp [intOf]; omega
    · have e : ls.take k = ls := List.take_of_length_le (by omega)
      rw [e] at hA
      clear e
      go_wp2
      go_ret2
      exact ⟨_, rfl, owns_mono hA.own hB2.size, below_c hB2 hA.of_nil⟩

end Go.Proofs.Ytjeafgnaoncphaa
