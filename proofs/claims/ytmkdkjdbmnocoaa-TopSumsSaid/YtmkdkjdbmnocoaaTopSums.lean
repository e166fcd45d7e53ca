/- TopSums returns true for every input: the walk. Conditions: none. -/
import Derived.Test.YtmkdkjdbmnocoaaCanHav
import Derived.Test.YtmkdkjdbmnocoaaHavelMake
import Derived.Test.YtmkdkjdbmnocoaaPrufer
import Derived.Test.YtmkdkjdbmnocoaaLit
import Derived.Deep.RegionHeld3
namespace Go.Proofs.Ytmkdkjdbmnocoaa
open Go.RowKit Gr

theorem fact11 : canI (dsort [1, 1]) = true := by
  have h : dsort [1, 1] = [1, 1] := by
    refine List.Perm.eq_of_pairwise (le := fun x y : Int => y ≤ x) (fun a b _ _ h1 h2 => by omega) ?_ (by decide) (dsort_perm _)
    have := List.pairwise_mergeSort (le := fun x y : Int => decide (y ≤ x)) (fun a b c h1 h2 => by simp at *; omega) (fun a b => by simp; omega) [1, 1]
    exact this.imp fun h => by simpa using h
  rw [h]
  decide +kernel
theorem count_take (row : List Nat) (i : Nat) {k : Nat} (h : k < row.length) : (row.take (k + 1)).count i = (row.take k).count i + (if row[k] = i then 1 else 0) := by
  rw [List.take_succ_eq_append_getElem h, List.count_append]
  congr 1
  by_cases e : row[k] = i <;> simp [e]
theorem make_n (v : Value) (n : Nat) (N : List Nat) (w : World) (hr : Rd w v n (nats N)) (hN : N.length = n) (h1 : 1 ≤ n) (h8 : n ≤ 8) (h7 : ∀ x ∈ N, x ≤ 7) :
    Calls Try.prog 16 #[v] w (MadeR (hav (N.sum + 1) N) w.heap.size w) := by
  obtain ⟨m, rfl⟩ : ∃ m, n = m + 1 := ⟨n - 1, by omega⟩
  exact make_ok v m N w hr hN (by omega) h7

set_option maxRecDepth 100000 in
set_option maxHeartbeats 2000000 in
theorem topSums_bad (n : Int) {v : Value} {ls : List Ln} {w : World} (hr : LinesRd w v ls) (hc : chk n ls ≠ 0) :
    Calls Try.prog 6 #[.int .i64 n, v] w fun e w' => e = .returned (.bool true) ∧ Below w.heap.size w w' := by
  have K := degOf_bad n v ls w hr hc
  have K1 := fun v w hr => can_ok v 2 [1, 1] w hr rfl (by decide) (by decide) (by decide)
  rw [fact11] at K1
  clear hc
  go_enter Try.func6, Try.ntmps6
  go_wp2_with fail
  refine K.mono ?_
  rintro e w1 ⟨rfl, hB1⟩
  go_wp2_with fail
  refine (K1 _ _ (ints_lit [1, 1] rfl rfl rfl (by decide))).mono ?_
  rintro e w2 ⟨rfl, hB2⟩
  have hB := below_ac hB1 hB2
  clear hB2 K K1
  go_wp2
  go_ret
  exact ⟨rfl, hB⟩

-- the head: lists, numbers that can be, lines that are made of them

-- a round of the first loop

set_option maxRecDepth 100000 in
set_option maxHeartbeats 8000000 in
theorem topSums_no (n : Nat) {v : Value} {ls : List Ln} {w : World} (hr : LinesRd w v ls) (hg : GoodG n ls) (hc : chk n ls = 0) (hT : ¬ IsTreeG n ls ∨ n < 2) :
    Calls Try.prog 6 #[.int .i64 (n : Int), v] w fun e w' => e = .returned (.bool true) ∧ Below w.heap.size w w' := by
  have KP := fun w hr => prufer_no n v ls w hr hg hT
  clear hT
  have KD := degOf_ok n v ls w hr hg hc
  have K1 := fun v w hr => can_ok v 2 [1, 1] w hr rfl (by decide) (by decide) (by decide)
  rw [fact11] at K1
  have KB := fun w hr => graphBeside_ok n v ls w hr hg hc
  have hn1 := hg.1
  have hn8 := hg.2.1
  have hNl := degN_length n ls
  have h7 : ∀ x ∈ degN n ls, x ≤ 7 := fun x hx => by
    obtain ⟨a, ha, rfl⟩ := List.mem_map.1 hx
    have := dg_lt (rN_irr hg) (List.mem_range.1 ha)
    omega
  obtain ⟨L, hL⟩ := can_hav ((degN n ls).sum + 1) (degN n ls) (by omega) (by omega) h7 ⟨sortD (degN n ls), sortD_perm _, sortD_falls _, canN_graph (rN_symm ls) (rN_irr hg) (sortD_perm _)⟩ (by omega)
  have hM := hav_made _ _ _ (by omega) hL
  have KM := fun v w hr => make_n v n (degN n ls) w hr hNl hn1 hn8 h7
  rw [hL] at KM
  have hDN : ints (degI n ls) = nats (degN n ls) := by unfold degI; simp [nats, ints, List.map_map]
  have hDl := degI_length n ls
  have KC := fun u w hr => can_ok u n (degI n ls) w hr hDl (by omega) hn8 (fun x hx => by have := degI_in hg x hx; omega)
  have hcan : canI (dsort (degI n ls)) = true := by
    have := can_hav_is (N := degN n ls) (by omega) (by omega) h7
    rw [hL] at this
    exact this
  rw [hcan] at KC
  have HNR : Hid (∀ i : Nat, i < n → (nearU L (i : Int) n).length = dg (rN ls) n i) := fun i hi => by
    have h1 := hM.deg i (by omega)
    rw [hNl, val_lt (by omega)] at h1
    rw [near_dg, h1]
    simp [degN]
  have HR : Hid (∀ (k : Nat) (hk : k < n) (h : k < (besideRows n ls).length), (besideRows n ls)[k].length = dg (rN ls) n k) := fun k hk h => rows_deg hg hk h
  have HDA : Hid (∀ (k : Nat) (h : k < (degI n ls).length), (degI n ls)[k] = ((dg (rN ls) n k : Nat) : Int)) := fun k h => degI_at h
  have hrl : (besideRows n ls).length = n := by simp [besideRows, beside_length]
  clear hc hL hM h7 hcan
  go_enter Try.func6, Try.ntmps6
  go_wp2_with fail
  refine KD.mono ?_
  rintro e w1 ⟨ad, cd, rfl, od, hB1⟩
  have rd1 := rd_of_owns od
  rw [hDl] at rd1
  rw [hDl]
  clear od KD
  go_wp2_with fail
  refine (K1 _ _ (ints_lit [1, 1] rfl rfl rfl (by decide))).mono ?_
  rintro e w2 ⟨rfl, hB2⟩
  have hB12 := below_c (below_alloc' _ _) hB2
  have hB02 := below_c hB1 hB12
  have rd2 := rd1.later hB12
  clear hB2 K1 rd1
  go_wp2_with fail
  refine (KB _ (hr.later hB02)).mono ?_
  rintro e w3 ⟨u, rfl, ⟨us, hru, hall⟩, hB3⟩
  generalize besideRows n ls = rows at *
  rw [hrl] at hru
  obtain ⟨au, cu, rfl, _⟩ := id hru
  have hB03 := below_c hB02 hB3
  have rd3 := rd2.later hB3
  have HALL := Lib.hid hall
  have HRL := Lib.hid hrl
  clear KB rd2 hall hrl
  go_wp2_with fail
  refine (KC _ _ rd3).mono ?_
  rintro e w4 ⟨rfl, hB4⟩
  have hB04 := below_c hB03 hB4
  have rd4 := rd3.later hB4
  have ru4 := hru.later hB4
  clear KC rd3 hru
  go_wp2_with fail
  refine (KM _ _ (by rw [← hDN]; exact rd4)).mono ?_
  rintro e w5 (⟨e, _⟩ | ⟨L', am, cm, e, rfl, om, hB5⟩)
  · cases e
  cases e
  have hB05 := below_c hB04 hB5
  have rm5 : LinesRd w5 (.slice am L.length cm) L := rd_of_owns om
  have rd5 := rd4.later hB5
  have ru5 := ru4.later hB5
  have hB35 := below_c hB4 hB5
  have hnn : ((n : Int) != (n : Int)) = false := by simp
  clear om KM rd4 ru4
  go_wp2_with fail
  go_loopw [15] (fun ii wr => ∃ k : Nat, k ≤ n ∧ ii = .int .i64 k ∧ Below w5.heap.size w5 wr) (fun ii _ => n - (intOf ii).toNat)
  case atStart => exact ⟨0, by omega, rfl, Below.refl _ _⟩
  case round =>
    obtain ⟨k, hk, rfl, hB⟩ := hrel
    by_cases hlt : k < n
    · have hki : (k : Int) < (n : Int) := by omega
      have hB0k := below_c hB05 hB
      have hBd := below_c hB (below_drewN' wr 1)
      have KN := refNear_any n _ L (k : Int) wr.drew (rm5.later hBd) hn8
      have hnr := HNR.out k hlt
      obtain ⟨_, _, e, _, _, _, hcu⟩ := ru5.later hB
      cases e
      obtain ⟨bu, ou, rfl, hbu, hcu⟩ := hcu (by omega)
      have hkr : k < rows.length := by rw [HRL.out]; exact hlt
      obtain ⟨x, hx, hrx⟩ := HALL.out.at hkr
      obtain ⟨ax, cx, rfl, _⟩ := hrx
      have cu1 := hcu k _ hx
      rw [HR.out k hlt hkr] at cu1
      obtain ⟨_, _, e, _, _, _, hcd⟩ := rd5.later hB
      cases e
      obtain ⟨bd, od, rfl, hbd, hcd⟩ := hcd (by omega)
      have hkd : k < (degI n ls).length := by omega
      have cd1 := hcd k _ (ints_get hkd)
      rw [HDA.out k hkd] at cd1
      rw [hnr] at KN
      generalize dg (rN ls) n k = x at *
      have hBd1 := below_drewN' wr 1
      have hbu1 : bu < wr.drew.heap.size := Nat.lt_of_lt_of_le hbu hBd1.size
      have hbd1 : bd < wr.drew.heap.size := Nat.lt_of_lt_of_le hbd hBd1.size
      have hxx : ((x : Int) != (x : Int)) = false := by simp
      clear hnr hcu hcd hx
      go_wp2_with fail
      go_region_held3 (fun w' => w'.cell? ⟨bu, ou + k, none⟩ = some (.slice ax x cx) ∧ w'.cell? ⟨bd, od + k, none⟩ = some (.int .i64 (x : Int))) (first | go_keep | exact ⟨(hB6.cell (p := ⟨bu, ou + k, none⟩) hbu1).trans cu1, (hB6.cell (p := ⟨bd, od + k, none⟩) hbd1).trans cd1⟩)
        (first | (go_simp; refine KN.mono ?_; rintro e w6 ⟨a6, c6, rfl, _, hB6⟩))
      all_goals
        have hB06 := below_c hBd hB6
        go_wp2
        go_roundw
        case rel => exact ⟨k + 1, by omega, by go_num, hB06⟩
        case measure => simp [intOf]; omega
    · obtain rfl : k = n := by omega
      have hB0k := below_c hB05 hB
      go_wp2_with fail
      refine (KP _ (hr.later hB0k)).mono ?_
      rintro e w6 ⟨q, hq, rfl, hB6⟩
      have hB06 := below_c hB0k hB6
      clear KP
      go_wp2
      go_ret
      exact ⟨rfl, hB06⟩

set_option maxRecDepth 100000 in
set_option maxHeartbeats 8000000 in
theorem topSums_ok (n : Nat) {v : Value} {ls : List Ln} {w : World} (hr : LinesRd w v ls) (hg : GoodG n ls) (hc : chk n ls = 0) (hT : IsTreeG n ls) (h2 : 2 ≤ n) :
    Calls Try.prog 6 #[.int .i64 (n : Int), v] w fun e w' => e = .returned (.bool true) ∧ Below w.heap.size w w' := by
  have KP := fun w hr => prufer_ok n v ls w hr hg hT h2
  have HDO : Hid (∀ v, v < n → dO (beside n ls) v = dg (rN ls) n v) := fun v hv => dO_near hg hv
  clear hT
  have KD := degOf_ok n v ls w hr hg hc
  have K1 := fun v w hr => can_ok v 2 [1, 1] w hr rfl (by decide) (by decide) (by decide)
  rw [fact11] at K1
  have KB := fun w hr => graphBeside_ok n v ls w hr hg hc
  have hn1 := hg.1
  have hn8 := hg.2.1
  have hNl := degN_length n ls
  have h7 : ∀ x ∈ degN n ls, x ≤ 7 := fun x hx => by
    obtain ⟨a, ha, rfl⟩ := List.mem_map.1 hx
    have := dg_lt (rN_irr hg) (List.mem_range.1 ha)
    omega
  obtain ⟨L, hL⟩ := can_hav ((degN n ls).sum + 1) (degN n ls) (by omega) (by omega) h7 ⟨sortD (degN n ls), sortD_perm _, sortD_falls _, canN_graph (rN_symm ls) (rN_irr hg) (sortD_perm _)⟩ (by omega)
  have hM := hav_made _ _ _ (by omega) hL
  have KM := fun v w hr => make_n v n (degN n ls) w hr hNl hn1 hn8 h7
  rw [hL] at KM
  have hDN : ints (degI n ls) = nats (degN n ls) := by unfold degI; simp [nats, ints, List.map_map]
  have hDl := degI_length n ls
  have KC := fun u w hr => can_ok u n (degI n ls) w hr hDl (by omega) hn8 (fun x hx => by have := degI_in hg x hx; omega)
  have hcan : canI (dsort (degI n ls)) = true := by
    have := can_hav_is (N := degN n ls) (by omega) (by omega) h7
    rw [hL] at this
    exact this
  rw [hcan] at KC
  have HNR : Hid (∀ i : Nat, i < n → (nearU L (i : Int) n).length = dg (rN ls) n i) := fun i hi => by
    have h1 := hM.deg i (by omega)
    rw [hNl, val_lt (by omega)] at h1
    rw [near_dg, h1]
    simp [degN]
  have HR : Hid (∀ (k : Nat) (hk : k < n) (h : k < (besideRows n ls).length), (besideRows n ls)[k].length = dg (rN ls) n k) := fun k hk h => rows_deg hg hk h
  have HDA : Hid (∀ (k : Nat) (h : k < (degI n ls).length), (degI n ls)[k] = ((dg (rN ls) n k : Nat) : Int)) := fun k h => degI_at h
  have hrl : (besideRows n ls).length = n := by simp [besideRows, beside_length]
  clear hc hL hM h7 hcan
  go_enter Try.func6, Try.ntmps6
  go_wp2_with fail
  refine KD.mono ?_
  rintro e w1 ⟨ad, cd, rfl, od, hB1⟩
  have rd1 := rd_of_owns od
  rw [hDl] at rd1
  rw [hDl]
  clear od KD
  go_wp2_with fail
  refine (K1 _ _ (ints_lit [1, 1] rfl rfl rfl (by decide))).mono ?_
  rintro e w2 ⟨rfl, hB2⟩
  have hB12 := below_c (below_alloc' _ _) hB2
  have hB02 := below_c hB1 hB12
  have rd2 := rd1.later hB12
  clear hB2 K1 rd1
  go_wp2_with fail
  refine (KB _ (hr.later hB02)).mono ?_
  rintro e w3 ⟨u, rfl, ⟨us, hru, hall⟩, hB3⟩
  generalize besideRows n ls = rows at *
  rw [hrl] at hru
  obtain ⟨au, cu, rfl, _⟩ := id hru
  have hB03 := below_c hB02 hB3
  have rd3 := rd2.later hB3
  have HALL := Lib.hid hall
  have HRL := Lib.hid hrl
  clear KB rd2 hall hrl
  go_wp2_with fail
  refine (KC _ _ rd3).mono ?_
  rintro e w4 ⟨rfl, hB4⟩
  have hB04 := below_c hB03 hB4
  have rd4 := rd3.later hB4
  have ru4 := hru.later hB4
  clear KC rd3 hru
  go_wp2_with fail
  refine (KM _ _ (by rw [← hDN]; exact rd4)).mono ?_
  rintro e w5 (⟨e, _⟩ | ⟨L', am, cm, e, rfl, om, hB5⟩)
  · cases e
  cases e
  have hB05 := below_c hB04 hB5
  have rm5 : LinesRd w5 (.slice am L.length cm) L := rd_of_owns om
  have rd5 := rd4.later hB5
  have ru5 := ru4.later hB5
  have hB35 := below_c hB4 hB5
  have hnn : ((n : Int) != (n : Int)) = false := by simp
  clear om KM rd4 ru4
  go_wp2_with fail
  go_loopw [15] (fun ii wr => ∃ k : Nat, k ≤ n ∧ ii = .int .i64 k ∧ Below w5.heap.size w5 wr) (fun ii _ => n - (intOf ii).toNat)
  case atStart => exact ⟨0, by omega, rfl, Below.refl _ _⟩
  case round =>
    obtain ⟨k, hk, rfl, hB⟩ := hrel
    by_cases hlt : k < n
    · have hki : (k : Int) < (n : Int) := by omega
      have hB0k := below_c hB05 hB
      have hBd := below_c hB (below_drewN' wr 1)
      have KN := refNear_any n _ L (k : Int) wr.drew (rm5.later hBd) hn8
      have hnr := HNR.out k hlt
      obtain ⟨_, _, e, _, _, _, hcu⟩ := ru5.later hB
      cases e
      obtain ⟨bu, ou, rfl, hbu, hcu⟩ := hcu (by omega)
      have hkr : k < rows.length := by rw [HRL.out]; exact hlt
      obtain ⟨x, hx, hrx⟩ := HALL.out.at hkr
      obtain ⟨ax, cx, rfl, _⟩ := hrx
      have cu1 := hcu k _ hx
      rw [HR.out k hlt hkr] at cu1
      obtain ⟨_, _, e, _, _, _, hcd⟩ := rd5.later hB
      cases e
      obtain ⟨bd, od, rfl, hbd, hcd⟩ := hcd (by omega)
      have hkd : k < (degI n ls).length := by omega
      have cd1 := hcd k _ (ints_get hkd)
      rw [HDA.out k hkd] at cd1
      rw [hnr] at KN
      generalize dg (rN ls) n k = x at *
      have hBd1 := below_drewN' wr 1
      have hbu1 : bu < wr.drew.heap.size := Nat.lt_of_lt_of_le hbu hBd1.size
      have hbd1 : bd < wr.drew.heap.size := Nat.lt_of_lt_of_le hbd hBd1.size
      have hxx : ((x : Int) != (x : Int)) = false := by simp
      clear hnr hcu hcd hx
      go_wp2_with fail
      go_region_held3 (fun w' => w'.cell? ⟨bu, ou + k, none⟩ = some (.slice ax x cx) ∧ w'.cell? ⟨bd, od + k, none⟩ = some (.int .i64 (x : Int))) (first | go_keep | exact ⟨(hB6.cell (p := ⟨bu, ou + k, none⟩) hbu1).trans cu1, (hB6.cell (p := ⟨bd, od + k, none⟩) hbd1).trans cd1⟩)
        (first | (go_simp; refine KN.mono ?_; rintro e w6 ⟨a6, c6, rfl, _, hB6⟩))
      all_goals
        have hB06 := below_c hBd hB6
        go_wp2
        go_roundw
        case rel => exact ⟨k + 1, by omega, by go_num, hB06⟩
        case measure => simp [intOf]; omega
    · obtain rfl : k = n := by omega
      have hB0k := below_c hB05 hB
      have rd6 := rd5.later hB
      clear hB rd5 ru5 rm5
      go_wp2_with fail
      refine (KP _ (hr.later hB0k)).mono ?_
      rintro e w6 ⟨row, a6, c6, rfl, hrowl, hcnt, hlts, rrow, hB6⟩
      have hB06 := below_c hB0k hB6
      have rd7 := rd6.later hB6
      have hk2 : k - 2 ≤ 6 := by omega
      have hk2i : ((k - 2 : Nat) : Int) = (k : Int) - 2 := by omega
      have HCNT : Hid (∀ v, v < k → dg (rN ls) k v = 1 + row.count v) := fun v hv => by rw [← HDO.out v hv]; exact hcnt v hv
      have HRWL := Lib.hid hrowl
      generalize k - 2 = m at *
      clear KP rd6 hcnt hrowl hk2i
      go_wp2_with fail
      go_loopw [17] (fun ii wr => ∃ i : Nat, i ≤ k ∧ ii = .int .i64 i ∧ wr = w6) (fun ii _ => k - (intOf ii).toNat)
      case atStart => exact ⟨0, by omega, rfl, rfl⟩
      case round =>
        obtain ⟨i, hi', rfl, rfl⟩ := hrel
        obtain ⟨wz, hwz⟩ : ∃ wz, wz = wr := ⟨wr, rfl⟩
        subst hwz
        by_cases hli : i < k
        · have hii : (i : Int) < (k : Int) := by omega
          obtain ⟨_, _, e, _, _, _, hcd⟩ := id rd7
          cases e
          obtain ⟨bd, od, rfl, hbd, hcd⟩ := hcd (by omega)
          have hkd : i < (degI k ls).length := by omega
          have cd1 := hcd i _ (ints_get hkd)
          rw [HDA.out i hkd] at cd1
          have HC := Lib.hid (HCNT.out i hli)
          generalize dg (rN ls) k i = x at *
          clear hcd
          go_wp2_with fail
          go_loopw [18, 19] (fun mm kk wr => ∃ j : Nat, j ≤ m ∧ kk = .int .i64 j ∧ mm = .int .i64 ((1 + (row.take j).count i : Nat) : Int) ∧ wr = wz) (fun _ kk _ => m - (intOf kk).toNat)
          case atStart => exact ⟨0, by omega, rfl, rfl, rfl⟩
          case round =>
            obtain ⟨j, hj, rfl, rfl, rfl⟩ := hrel
            by_cases hlj : j < m
            · have hji : (j : Int) < (m : Int) := by omega
              obtain ⟨_, _, e, _, _, _, hcr⟩ := id rrow
              cases e
              obtain ⟨br, or, rfl, hbr, hcr⟩ := hcr (by omega)
              have hjr : j < row.length := by rw [HRWL.out]; exact hlj
              have cr := hcr j (.int .i64 ((row[j] : Nat) : Int)) (by simp [nats, hjr])
              have HCT := Lib.hid (count_take row i hjr)
              have hcl : (row.take j).count i ≤ 8 := Nat.le_trans (List.count_le_length) (by simp; omega)
              generalize row[j] = y at *
              generalize (row.take j).count i = z at *
              clear hcr
              by_cases hy : y = i
              · have hb : ((y : Int) == (i : Int)) = true := by simp [hy]
                have HC2 : Hid ((row.take (j + 1)).count i = z + 1) := by show _ = _; rw [HCT.out, if_pos hy]
                have hcz : ((1 + z : Nat) : Int) = 1 + (z : Int) := by omega
                clear hy HCT
                go_wp2
                go_roundw
                case rel => exact ⟨j + 1, by omega, by go_num, by rw [HC2.out]; first | rfl | go_num, by first | rfl | trivial⟩
                case measure => simp [intOf]; omega
              · have hb : ((y : Int) == (i : Int)) = false := by rw [beq_eq_false_iff_ne]; omega
                have HC2 : Hid ((row.take (j + 1)).count i = z) := by show _ = _; rw [HCT.out, if_neg hy]; omega
                clear hy HCT
                go_wp2
                go_roundw
                case rel => exact ⟨j + 1, by omega, by go_num, by rw [HC2.out], by first | rfl | trivial⟩
                case measure => simp [intOf]; omega
            · obtain rfl : j = m := by omega
              have e : (row.take j).count i = row.count i := by rw [List.take_of_length_le (by rw [HRWL.out]; exact Nat.le_refl _)]
              have hcx : x = 1 + row.count i := HC.out
              rw [e, ← hcx]
              have hxx : ((x : Int) != (x : Int)) = false := by simp
              clear e hcx HC
              go_wp2
              go_roundw
              case rel => exact ⟨i + 1, by omega, by go_num, by first | rfl | trivial⟩
              case measure => simp [intOf]; omega
        · obtain rfl : i = k := by omega
          go_wp2
          go_ret
          exact ⟨rfl, hB06⟩

theorem topSums_any (n : Int) {v : Value} {ls : List Ln} {w : World} (hr : LinesRd w v ls) :
    Calls Try.prog 6 #[.int .i64 n, v] w fun e w' => e = .returned (.bool true) ∧ Below w.heap.size w w' := by
  by_cases hc : chk n ls = 0
  · obtain ⟨k, rfl, hg⟩ := good_of hc
    by_cases hT : IsTreeG k ls
    · by_cases h2 : 2 ≤ k
      · exact topSums_ok k hr hg hc hT h2
      · exact topSums_no k hr hg hc (.inr (by omega))
    · exact topSums_no k hr hg hc (.inl hT)
  · exact topSums_bad n hr hc
end Go.Proofs.Ytmkdkjdbmnocoaa
