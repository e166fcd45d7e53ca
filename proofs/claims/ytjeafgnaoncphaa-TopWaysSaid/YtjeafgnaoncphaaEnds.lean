/- What trail.Ends returns: the walk. Conditions: in each statement. -/
import Derived.Test.YtjeafgnaoncphaaRefFar
import Derived.Test.YtjeafgnaoncphaaSame
namespace Go.Proofs.Ytjeafgnaoncphaa
open Go.RowKit Gr

/-- does a line end at i? -/
def ends1 (i : Nat) (l : Ln) : Bool := l.1 == (i : Int) || l.2 == (i : Int)
/-- how many lines end at i -/
def degL (ls : List Ln) (i : Nat) : Nat := (ls.filter (ends1 i)).length
/-- the points with an odd number of lines, below k -/
def endsUp (ls : List Ln) (k : Nat) : List Nat := (List.range k).filter fun i => decide (degL ls i % 2 = 1)
theorem degL_snoc (ls : List Ln) (l : Ln) (i : Nat) : degL (ls ++ [l]) i = degL ls i + (if ends1 i l then 1 else 0) := by
  unfold degL
  rw [List.filter_append, List.length_append]
  by_cases h : ends1 i l <;> simp [h]
theorem degL_le (ls : List Ln) (i : Nat) : degL ls i ≤ ls.length := List.length_filter_le _ _
theorem endsUp_succ (ls : List Ln) (k : Nat) : endsUp ls (k + 1) = endsUp ls k ++ (if degL ls k % 2 = 1 then [k] else []) := by
  unfold endsUp
  rw [List.range_succ, List.filter_append]
  by_cases h : degL ls k % 2 = 1 <;> simp [h]
theorem endsUp_length (ls : List Ln) (k : Nat) : (endsUp ls k).length ≤ k := by
  unfold endsUp; refine Nat.le_trans (List.length_filter_le _ _) ?_; simp

/-- the numbers of lines of all points -/
def degs (n : Nat) (ls : List Ln) : List Int := (List.range n).map fun i => (degL ls i : Int)
theorem degs_at {n i : Nat} (ls : List Ln) (h : i < n) : (degs n ls)[i]? = some (degL ls i : Int) := by simp [degs, h]
theorem degs_step (n : Nat) (ls : List Ln) (x y : Nat) (hne : x ≠ y) : ((degs n ls).set x ((degL ls x : Int) + 1)).set y ((degL ls y : Int) + 1) = degs n (ls ++ [((x : Int), (y : Int))]) := by
  unfold degs
  rw [range_set, range_set]
  refine List.map_congr_left fun i _ => ?_
  rw [degL_snoc]
  by_cases hy : i = y
  · subst hy
    have : ends1 i ((x : Int), (i : Int)) = true := by simp [ends1]
    simp [this]
  · by_cases hx : i = x
    · subst hx
      have : ends1 i ((i : Int), (y : Int)) = true := by simp [ends1]
      simp [this, hy]
    · have : ends1 i ((x : Int), (y : Int)) = false := by
        unfold ends1
        rw [Bool.or_eq_false_iff, beq_eq_false_iff_ne, beq_eq_false_iff_ne]
        omega
      simp [this, hx, hy]

set_option maxRecDepth 100000 in
set_option maxHeartbeats 1000000 in
theorem ends_bad (n : Int) (v : Value) (ls : List Ln) (w : World) (hr : LinesRd w v ls) (hc : chk n ls ≠ 0) :
    Calls Try.prog 20 #[.int .i64 n, v] w fun e w' => e = .returned (.tuple #[.slice none 0 0, errV (chk n ls)]) ∧ Below w.heap.size w w' := by
  have HC := Lib.hid (errOf_pos hc)
  clear hc
  go_enter Try.func20, Try.ntmps20
  go_wp2_with fail
  refine (graphCheck_any n v ls _ hr).mono ?_
  rintro e w1 ⟨rfl, hB⟩
  rw [HC.out]
  go_wp2
  go_ret2
  exact ⟨rfl, hB⟩

theorem nats_ints' (xs : List Nat) : ints (xs.map fun (i : Nat) => (i : Int)) = nats xs := by simp [ints, nats, List.map_map]

set_option maxRecDepth 100000 in
set_option maxHeartbeats 4000000 in
theorem ends_ok (n : Nat) (v : Value) (ls : List Ln) (w : World) (hr : LinesRd w v ls) (hg : GoodG n ls) :
    Calls Try.prog 20 #[.int .i64 (n : Int), v] w (RetInts w ((endsUp ls n).map fun (i : Nat) => (i : Int)) .nilIface) := by
  obtain ⟨i0, hi, hz0, hz1, hz2⟩ := info_parts info_int
  have HG := Lib.hid hg
  have HC : Hid (errOf (chk n ls) = .nilIface) := by show _ = _; rw [chk_good hg]; rfl
  have hn1 := hg.1
  have hn8 : n ≤ 8 := hg.2.1
  have hl24 := hg.2.2.1
  clear hg
  obtain ⟨av, cv, rfl, _⟩ := id hr
  go_enter Try.func20, Try.ntmps20
  go_wp2_with fail
  refine (graphCheck_any n _ ls _ hr).mono ?_
  rintro e w1 ⟨rfl, hB1⟩
  rw [HC.out]
  go_wp2_with (at_make; go_must (refine wpList_make_full _ rfl _ _ _ rfl w1.heap.size 3 i0 (.int .i64 0) 1 Try.underlying28 hi hz0 hz1 .i64 .i64 _ _ n rfl rfl rfl rfl (by rw [hz2]; omega) (by unfold maxLen; omega) (Nat.le_refl _) ?_); intro w2 hown hgr)
  have ez : (madeCells (Value.int .i64 0).cells (n * 1)).toList = ints (degs n (ls.take 0)) := by
    rw [Nat.mul_one]; show (madeCells #[Value.int .i64 0] n).toList = _
    rw [toList_madeCells_one]
    refine List.ext_getElem? fun i => ?_
    by_cases hi : i < n
    · simp [hi, degs, degL]
    · rw [List.getElem?_eq_none (by simp; omega), List.getElem?_eq_none (by simp [degs]; omega)]
  rw [ez] at hown
  have hB2 := below_iff_grown.2 hgr
  clear ez hgr
  have hs1 := hB1.size
  go_loopw [23] (fun jj wr => ∃ j : Nat, j ≤ ls.length ∧ jj = .int .i64 j ∧ wr.ownsRow w1.heap.size 3 1 (.slice (some ⟨w1.heap.size, 0, none⟩) n n) n (ints (degs n (ls.take j))) ∧ Below w1.heap.size w1 wr) (fun jj _ => ls.length - (intOf jj).toNat)
  case atStart => exact ⟨0, by omega, rfl, hown, hB2⟩
  case round =>
    clear hown hB2
    obtain ⟨j, hj, rfl, ho, hB⟩ := hrel
    have hBw := below_c hB1 hB
    by_cases hlt : j < ls.length
    · have hji : (j : Int) < (ls.length : Int) := by omega
      have hrr := hr.later hBw
      obtain ⟨a', c', e, _, _, _, hcell⟩ := hrr
      cases e
      obtain ⟨bv, ov, rfl, hbv, hcx⟩ := hcell (by omega)
      obtain ⟨g1, g2⟩ := lines_at hcx hlt
      have hgk := HG.out.2.2.2 ls[j] (List.getElem_mem hlt)
      have hT : ls.take (j + 1) = ls.take j ++ [ls[j]] := List.take_succ_eq_append_getElem hlt
      have hdl := degL_le (ls.take j)
      have htl : (ls.take j).length ≤ 24 := by simp; omega
      have HT := Lib.hid hT
      clear hcx hcell hT
      generalize ls[j] = l at *
      obtain ⟨x0, y0⟩ := l
      simp only at g1 g2 hgk
      obtain ⟨x, rfl⟩ := Int.eq_ofNat_of_zero_le hgk.1
      obtain ⟨y, rfl⟩ := Int.eq_ofNat_of_zero_le hgk.2.2.1
      have hx : x < n := by omega
      have hy : y < n := by omega
      have hxy : x ≠ y := by omega
      have hxi : (x : Int) < (n : Int) := by omega
      have hyi : (y : Int) < (n : Int) := by omega
      have HS : Hid (((degs n (ls.take j)).set x ((degL (ls.take j) x : Int) + 1)).set y ((degL (ls.take j) y : Int) + 1) = degs n (ls.take (j + 1))) := by
        show _ = _
        rw [HT.out]; exact degs_step n _ x y hxy
      have dx := hdl x
      have dy := hdl y
      obtain ⟨C, hC⟩ : ∃ C, C = Obj.cells #[.int .i64 (x : Int), .int .i64 (y : Int)] 33 (0, 0) := ⟨_, rfl⟩
      have o1 := owns_later ho (below_alloc' wr C)
      have cx := owns_at o1 (k := x) (u := .int .i64 (degL (ls.take j) x : Int)) (by rw [List.getElem?_map, degs_at _ hx]; rfl)
      have fx := o1.frozenAt x
      have p2 := (ho.stored x (.int .i64 ((degL (ls.take j) x : Int) + 1))).1
      rw [ints_set] at p2
      have o2 := owns_later p2 (below_alloc' _ C)
      have cy := owns_at o2 (k := y) (u := .int .i64 (degL (ls.take j) y : Int)) (by rw [List.getElem?_map, List.getElem?_set_ne (by omega), degs_at _ hy]; rfl)
      have fy := o2.frozenAt y
      have p3 := (p2.stored y (.int .i64 ((degL (ls.take j) y : Int) + 1))).1
      rw [ints_set, HS.out] at p3
      have o3 := owns_later p3 (below_alloc' _ C)
      have hgl := (ho.lt w1.heap.size rfl).2
      have bl := World.alloc_heap_new wr C
      have bl2 := World.alloc_heap_new (wr.setCell ⟨w1.heap.size, x, none⟩ (.int .i64 ((degL (ls.take j) x : Int) + 1))) C
      rw [show (wr.setCell ⟨w1.heap.size, x, none⟩ (.int .i64 ((degL (ls.take j) x : Int) + 1))).heap.size = wr.heap.size by simp [World.setCell]] at bl2
      have hBf := ((hB.setCell (p := ⟨w1.heap.size, x, none⟩) (Nat.le_refl _) (.int .i64 ((degL (ls.take j) x : Int) + 1))).setCell (p := ⟨w1.heap.size, y, none⟩) (Nat.le_refl _) (.int .i64 ((degL (ls.take j) y : Int) + 1))).trans ((below_alloc' _ C).mono (by have := hB.size; simp [World.setCell]; omega))
      subst hC
      have b0 := (cell_of_row _ _ 0 _ _ _ bl).trans (show _ = some (Value.int .i64 (x : Int)) from rfl)
      have b1 := (cell_of_row _ _ 1 _ _ _ bl2).trans (show _ = some (Value.int .i64 (y : Int)) from rfl)
      have HO := Lib.hid o3
      clear o1 o2 o3 p2 p3 bl bl2 ho hgk
      generalize degL (ls.take j) x = p at *
      generalize degL (ls.take j) y = q at *
      have wp : IntKind.i64.wrap ((p : Int) + 1) = (p : Int) + 1 := IntWalk.i64_in _ (by omega)
      have wq : IntKind.i64.wrap ((q : Int) + 1) = (q : Int) + 1 := IntWalk.i64_in _ (by omega)
      go_wp2
      go_roundw
      case rel => exact ⟨j + 1, by omega, by go_num, HO.out, hBf⟩
      case measure => simp [intOf]; omega
    · have e : ls.take j = ls := List.take_of_length_le (by omega)
      rw [e] at ho
      obtain ⟨wa, hwa⟩ : ∃ wa, wa = wr := ⟨wr, rfl⟩
      subst hwa
      clear e
      have hgl := (ho.lt w1.heap.size rfl).2
      have hsz := hB.size
      go_wp2_with fail
      go_loopw [10, 44] (fun oo ii wr => ∃ i : Nat, i ≤ n ∧ ii = .int .i64 i ∧ wr.ownsRow wa.heap.size 3 1 oo (endsUp ls i).length (nats (endsUp ls i)) ∧ Below wa.heap.size wa wr) (fun _ ii _ => n - (intOf ii).toNat)
      case atStart => exact ⟨0, by omega, rfl, World.ownsRow_nil _ _ _ _, Below.refl _ _⟩
      case round =>
        obtain ⟨i, hi', rfl, hoo, hBo⟩ := hrel
        obtain ⟨ao, co, rfl⟩ := owns_slice hoo
        have hs2 := hBo.size
        by_cases hli : i < n
        · have hii : (i : Int) < (n : Int) := by omega
          have ci := (hBo.cell (p := ⟨w1.heap.size, i, none⟩) hgl).trans (owns_at ho (k := i) (u := .int .i64 (degL ls i : Int)) (by rw [List.getElem?_map, degs_at _ hli]; rfl))
          have HES := Lib.hid (endsUp_succ ls i)
          have hel := endsUp_length ls i
          have hdl := degL_le ls i
          generalize endsUp ls i = Q at *
          by_cases hodd : degL ls i % 2 = 1
          · have hod : ((degL ls i : Int) % 2 == 1) = true := by simp; omega
            have HE2 : Hid (endsUp ls (i + 1) = Q ++ [i]) := by show _ = _; rw [HES.out, if_pos hodd]
            clear hodd
            generalize degL ls i = d at *
            have hd2 : Int.tmod (d : Int) 2 = (d : Int) % 2 := Int.tmod_eq_emod_of_nonneg (by omega)
            go_wp2_with (at_builtin; go_must (refine wpl_app _ _ _ (AppTo.refl hoo) rfl rfl Try.underlying28 hi hz0 hz1 hz2 rfl (by decide) rfl rfl rfl (by simp [Value.oneCell']) (by decide) (by omega) (by omega) ?_); intro v8 w8 hA8 hne8 hst8)
            go_roundw
            case rel =>
              refine ⟨i + 1, by omega, by go_num, ?_, hA8.below hoo hBo (Nat.le_refl _) (by omega)⟩
              rw [HE2.out]
              simpa [nats] using hA8.own
            case measure => simp [intOf]; omega
          · have hod : ((degL ls i : Int) % 2 == 1) = false := by simp; omega
            have HE2 : Hid (endsUp ls (i + 1) = Q) := by show _ = _; rw [HES.out, if_neg hodd, List.append_nil]
            clear hodd
            generalize degL ls i = d at *
            have hd2 : Int.tmod (d : Int) 2 = (d : Int) % 2 := Int.tmod_eq_emod_of_nonneg (by omega)
            go_wp2
            go_roundw
            case rel =>
              refine ⟨i + 1, by omega, by go_num, ?_, hBo⟩
              rw [HE2.out]; exact hoo
            case measure => simp [intOf]; omega
        · obtain rfl : n = i := by omega
          go_wp2
          go_ret2
          exact RetInts.mk rfl (owns_mono (by rw [nats_ints']; exact hoo) (by omega)) (by simp) (below_c hBw hBo)

end Go.Proofs.Ytjeafgnaoncphaa
