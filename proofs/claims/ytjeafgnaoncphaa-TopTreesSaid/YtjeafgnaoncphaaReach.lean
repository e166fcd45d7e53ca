/- What core.Reach returns: the walk. Conditions: in each statement. -/
import Derived.Test.YtjeafgnaoncphaaFrom
import Derived.Test.YtjeafgnaoncphaaFlex
import Derived.Test.YtjeafgnaoncphaaPlainA
namespace Go.Proofs.Ytjeafgnaoncphaa
open Go.RowKit Go.Shelf Gr
attribute [local go_sem] Oper.semAt_some

/-- between two rounds of the inner loop -/
def ReachI (s0 : Nat) (t : List Nat) (S : Nat) (bs Bt Bs : Nat) (w0 : World) (ds : List Deferred) (pre : List (PtIn S)) (W' : World) : Prop :=
  ∃ (tv' : Value), Boxed W' bs 65 (.int .u64 ((withAll s0 (pre.map fun x => x.1.val) : Nat) : Int)) ∧ Boxed W' Bt 28 tv' ∧
    QRow W' w0.heap.size tv' (nats (t ++ pre.map fun x => x.1.val)) ∧ Boxed W' Bs 65 (.int .u64 (S : Int)) ∧ Marks w0.heap.size W' ds ∧ Below w0.heap.size w0 W'

theorem bits_and_u64' (a b : Nat) (ha : a < 256) (hb : b < 256) : bits .and .u64 (a : Int) (b : Int) = ((a &&& b : Nat) : Int) := bits_and_u64_nat a b (by omega) (by omega)

set_option maxRecDepth 100000 in
set_option maxHeartbeats 4000000 in
theorem reach_ok (n f Wn : Nat) (sv : Value) (O : List Nat) (w : World) (hn8 : n ≤ 8) (hr : Rd w sv n (setsOf O)) (hlen : O.length = n) (hS : Small O) (hAB : Bounded n O) (hf : f < n) (hW : Wn < 256) :
    Calls Try.prog 44 #[.int .i64 f, sv, .int .u64 (Wn : Int)] w fun e w' => ∃ s : Nat, e = .returned (.int .u64 (s : Int)) ∧ s < 256 ∧ IsReach O Wn f s ∧ Below w.heap.size w w' := by
  obtain ⟨i0, hi, hz0, hz1, hz2⟩ := info_parts info_int
  have HS := Lib.hid hS
  have HAB := Lib.hid hAB
  have hf8 : f < 8 := by omega
  have h1 : 1 ≤ 20 := by omega
  obtain ⟨a0, c0, rfl, hnc, hcm, _, hcell⟩ := hr
  unfold maxLen at hcm
  obtain ⟨gb, go, rfl, hgb, hgc⟩ := hcell (by omega)
  have HGC := Lib.hid hgc
  clear hgc hcell hS hAB
  refine (callsIn_wide (n := 20)).1 ?_
  refine callsIn_of_wp_marks Try.func44 rfl trivial ?_ rfl
  simp only [Try.ntmps44, List.size_toArray, List.length_cons, List.length_nil, Nat.reduceAdd, Nat.reduceSub, Array.replicate_succ, Array.replicate_zero, List.push_toArray, List.append_toArray, List.nil_append, List.cons_append]
  gi_wp2_with fail
  refine ⟨trivial, ?_⟩
  refine (callsIn_wide.2 (with_any 0 f _ (by omega) (by omega))).mono ?_
  rintro e w' ⟨rfl, rfl⟩
  gi_wp2_with fail
  have hbs0 : Boxed (((w.alloc (.cells #[.int .u64 ((0 ||| 2 ^ f : Nat) : Int)] 65)).alloc (.cells #[.int .i64 (f : Int)] 3)).alloc (.cells #[.slice (some ⟨w.heap.size + 1, 0, none⟩) 1 1] 28)) w.heap.size 65 (.int .u64 ((0 ||| 2 ^ f : Nat) : Int)) := ((Boxed.new _ _ _).alloc _).alloc _
  have hbt0 : Boxed (((w.alloc (.cells #[.int .u64 ((0 ||| 2 ^ f : Nat) : Int)] 65)).alloc (.cells #[.int .i64 (f : Int)] 3)).alloc (.cells #[.slice (some ⟨w.heap.size + 1, 0, none⟩) 1 1] 28)) (w.heap.size + 2) 28 (.slice (some ⟨w.heap.size + 1, 0, none⟩) 1 1) := by
    have := Boxed.new ((w.alloc (.cells #[.int .u64 ((0 ||| 2 ^ f : Nat) : Int)] 65)).alloc (.cells #[.int .i64 (f : Int)] 3)) 28 (.slice (some ⟨w.heap.size + 1, 0, none⟩) 1 1)
    rwa [World.size_alloc, World.size_alloc] at this
  have hq0 : QRow (((w.alloc (.cells #[.int .u64 ((0 ||| 2 ^ f : Nat) : Int)] 65)).alloc (.cells #[.int .i64 (f : Int)] 3)).alloc (.cells #[.slice (some ⟨w.heap.size + 1, 0, none⟩) 1 1] 28)) w.heap.size (.slice (some ⟨w.heap.size + 1, 0, none⟩) 1 1) (nats [f]) :=
    (QRow.of_lit (w := w.alloc (.cells #[.int .u64 ((0 ||| 2 ^ f : Nat) : Int)] 65)) (xs := nats [f]) (by simp) rfl rfl (by simp) (by simp [maxLen])).kept (World.grownBy_alloc _ _ none) (by simp [Value.ownBlock])
  rw [Nat.zero_or] at hbs0 hbt0 hq0
  have hc2 : ((2 ^ f : Nat) : Int) = (2 : Int) ^ f := by simp
  refine loop_ghost (fun m a W => ∃ (Bt : Nat) (tv : Value) (s : Nat) (q : List Nat) (ds : List Deferred) (y9 y12 y14 y15 y16 y17 y18 y19 y20 y21 y22 y23 y24 y25 y26 y27 y28 y29 y30 y31 y40 : Value),
    a = { tmps := #[.int .i64 (f : Int), .slice (some ⟨gb, go, none⟩) n c0, .int .u64 (Wn : Int), undef, undef, undef, .int .u64 0, .pointer (some ⟨w.heap.size, 0, none⟩), .pointer (some ⟨Bt, 0, none⟩), y9, undef, .int .i64 (f : Int), y12, .int .i64 (f : Int), y14, y15, y16, y17, y18, y19, y20, y21, y22, y23, y24, y25, y26, y27, y28, y29, y30, y31, undef, undef, undef, undef, undef, undef, undef, undef, y40, undef], defers := ds } ∧ m = rchMu s q ∧ rchMu s q ≤ 9 ∧ Rch O Wn f s q ∧ s < 256 ∧ (∀ i ∈ q, i < n) ∧
    Boxed W w.heap.size 65 (.int .u64 (s : Int)) ∧ Boxed W Bt 28 tv ∧ w.heap.size < Bt ∧ QRow W w.heap.size tv (nats q) ∧ Below w.heap.size w W ∧ Marks w.heap.size W ds) _
    ⟨w.heap.size + 2, .slice (some ⟨w.heap.size + 1, 0, none⟩) 1 1, 2 ^ f, [f], [], undef, .int .u64 ((2 : Int) ^ f), .slice (some ⟨w.heap.size + 1, 0, none⟩) 1 1, undef, undef, undef, undef, undef, undef, undef, undef, undef, undef, undef, undef, undef, undef, undef, undef, undef, undef, rfl, rfl, by unfold rchMu; simp, by have := rch_start O Wn f; rwa [Nat.zero_or] at this, pow_small hf8, by simpa using hf, ?_, ?_, by omega, ?_, ?_, .nil⟩ ?_
  · first | exact hbs0 | (rw [hc2] at hbs0; exact hbs0) | (simpa using hbs0)
  · first | exact hbt0 | (rw [hc2] at hbt0; exact hbt0) | (simpa using hbt0)
  · first | exact hq0 | (rw [hc2] at hq0; exact hq0) | (simpa using hq0)
  · exact below_c (below_2 _ _ _) (below_alloc' _ _)
  clear hbs0 hbt0 hq0 hc2
  rintro m a W ⟨Bt, tv, s, q, ds, y9, y12, y14, y15, y16, y17, y18, y19, y20, y21, y22, y23, y24, y25, y26, y27, y28, y29, y30, y31, y40, rfl, rfl, hmu, hrch, hs, hqn, hbs, hbt, hBt, hq, hB, hmk⟩
  have hbsc := hbs.cell
  have hbtc := hbt.cell
  cases q with
  | nil =>
    obtain ⟨bq, oq, cq, arr, rfl, _⟩ := hq
    gi_wp2
    refine leaves_marks hmk (fun W' => results_tmp rfl _ _ W') ?_ ⟨s, rfl, hs, rch_end hrch, hB⟩
    rintro u A A' row ⟨s, e, g0, g1, g2⟩ hg hr
    exact ⟨s, e, g0, g1, ownFrom_below (Nat.le_refl _) (Nat.le_refl _) u A A' row g2 hg hr⟩
  | cons u t =>
    obtain ⟨bq, oq, cq, rfl, hq1, hq2, hqc⟩ := hq.head
    simp only [List.length_map] at hq hbt hbtc hq1
    unfold maxLen at hq2
    have hu : u < n := hqn u List.mem_cons_self
    have huo : u < O.length := by omega
    have hui : (u : Int) < (n : Int) := by omega
    have hsu := (hB.cell (p := ⟨gb, go + u, none⟩) hgb).trans (HGC.out u _ (setsOf_get huo))
    have hsO := HS.out _ (List.getElem_mem huo)
    have hSe : O[u]?.getD 0 = O[u] := by rw [List.getElem?_eq_getElem huo]; rfl
    generalize hOu : O[u] = su at hsu hsO hSe
    have HSe := Lib.hid hSe
    clear hSe hsu
    have hand := bits_and_u64' su Wn hsO hW
    have hanl : su &&& Wn < 256 := Nat.lt_of_le_of_lt Nat.and_le_left hsO
    have hban := bits_andNot_u64_nat (su &&& Wn) s (by omega) (by omega)
    have hdl := diff_small (t := s) hanl
    have HSS : Hid (∀ x, (diff (su &&& Wn) s).testBit x = true ↔ adjS O u x ∧ Wn.testBit x = true ∧ s.testBit x = false) := by
      intro x
      unfold adjS
      rw [HSe.out, diff_bit, Nat.testBit_and]
      simp [and_assoc]
    generalize hSS : diff (su &&& Wn) s = SS at hban hdl HSS
    clear hSS
    by_cases hc1 : cq = 1
    · subst hc1
      obtain rfl : t = [] := List.eq_nil_of_length_eq_zero (by omega)
      have hqt : QRow W w.heap.size (.slice (some ⟨bq, oq, none⟩) 0 0) (nats []) := (hq.tail1 (t := []))
      have gT := grownBy_setCell_at W Bt 0 (.slice (some ⟨bq, oq, none⟩) 0 0)
      have hbtV := hbt.set (.slice (some ⟨bq, oq, none⟩) 0 0)
      have hbsV := hbs.kept gT (by simp; omega)
      have hneq : Bt ≠ bq := by
        obtain ⟨b', g1, _, _, arr, g2⟩ := hq.own
        obtain rfl : bq = b' := by simpa [Value.ownBlock] using g1
        exact boxed_ne hbt g2 (by decide)
      have hqV := hqt.kept gT (by simp [Value.ownBlock]; omega)
      have hBV := hB.setCell (p := ⟨Bt, 0, none⟩) (Nat.le_of_lt hBt) (.slice (some ⟨bq, oq, none⟩) 0 0)
      have hmV := marks_row hmk gT ⟨_, hbt, rfl⟩
      have hsuV := (hBV.cell (p := ⟨gb, go + u, none⟩) hgb).trans (HGC.out u _ (by rw [setsOf_get huo, hOu]))
      have hbsVc := hbsV.cell
      have hbtf := hbt.frozen
      have hbtVc := hbtV.cell
      have HV := Lib.hid hqV
      clear hqV
      gi_wp2_with fail
      refine region_tail_in wide_wide 8 (by kernel_rfl) (by kernel_rfl) ?_ ?_
      · refine calm_cons (calm_move rfl) (calm_cons (calm_move rfl) (calm_cons (calm_index rfl) (calm_cons (calm_load rfl) (calm_cons (calm_move rfl) (calm_cons (calm_bin rfl) (calm_cons (calm_load rfl) (calm_cons (calm_bin rfl) (calm_cons (calm_call _ _ _ rfl (enters_of Try.func52 (by kernel_rfl) rfl)) calm_nil))))))))
      simp only [List.take_succ_cons, List.take_zero, List.drop_succ_cons, List.drop_zero]
      change wpStill _ _ (World.drew _) _ _ _
      repeat still_step
      refine wpStill_nil ?_
      change wpList _ _ _ _ _ (World.drew _)
      go_wp2_with fail
      refine (each_any SS _).mono ?_
      rintro e w' ⟨rfl, rfl⟩
      go_wp2
      have hVs : (W.setCell ⟨Bt, 0, none⟩ (.slice (some ⟨bq, oq, none⟩) 0 0)).heap.size = W.heap.size := by simp [World.setCell]
      generalize W.setCell ⟨Bt, 0, none⟩ (.slice (some ⟨bq, oq, none⟩) 0 0) = V at *
      have hBox : Boxed ((V.alloc (.cells #[.int .u64 (SS : Int)] 65)).drew) W.heap.size 65 (.int .u64 (SS : Int)) := by
        have := Boxed.new V 65 (.int .u64 (SS : Int)); rw [hVs] at this; exact this
      have hY : Below V.heap.size V ((V.alloc (.cells #[.int .u64 (SS : Int)] 65)).drew) := (below_alloc' _ _).drew
      have hsY : ((V.alloc (.cells #[.int .u64 (SS : Int)] 65)).drew).heap.size = W.heap.size + 1 := by show (V.alloc _).heap.size = _; simp [hVs]
      have bsY := boxed_later hbsV hY
      have btY := boxed_later hbtV hY
      have qY := HV.out.kept (below_iff_grown.1 hY) (by simp [Value.ownBlock])
      have mY := hmV.later hY
      have bY := below_c hBV hY
      clear hbsV hbtV HV hmV hBV hY hsuV hbsVc hbtVc gT hVs
      generalize (V.alloc (.cells #[.int .u64 (SS : Int)] 65)).drew = Y at *
      have hBtW : Bt < W.heap.size := hbt.lt
      gi_wp2_with fail
      refine wpIn_rangeFunc_ownF rfl h1 (gf := 67) (lb := #[.pointer (some ⟨W.heap.size, 0, none⟩)]) rfl trivial (enters_of Try.func67 (by kernel_rfl) rfl)
        (each_stopsIn 19 (by omega) W.heap.size SS hdl _ hBox (by omega)) (fun h k => keepsBlock_t h k) (keepsBlock_b (by omega)) (Below.refl _ _) (fun _ => rfl)
        (ReachI s [] SS w.heap.size Bt W.heap.size w ds) (fun _ _ _ => False) ?hI (fun _ _ _ _ _ hs _ _ => hs) ?h0 ?a1 ?assign ?body ?done ?stop
      case hI =>
        rintro pre A A' row ⟨tv', b1, b2, q1, sb, mk, bl⟩ hg hr
        have hr2 : ∀ r, row = some r → ∃ o : Obj, A.heap[r]? = some o ∧ o.isCells = false := fun r e => (hr r e).2
        refine ⟨tv', boxed_k b1 hg hr2, boxed_k b2 hg hr2, qrow_k q1 hg hr2, boxed_k sb hg hr2, marks_k mk hg (fun r e => (hr r e).1) (fun dd hd => ?_), bl.grown hg bl.size (fun r e => ?_)⟩
        · obtain ⟨D, hD1, hD2⟩ := hmk.old dd hd
          exact ⟨D, hD1, by omega⟩
        · have := (hr r e).1; omega
      case h0 =>
        exact ⟨_, bsY, btY, by simpa using qY, hBox, mY, bY⟩
      case assign =>
        intro l x W' K hK
        gi_wp2
        exact hK
      case body =>
        rintro l pre x W' ⟨tv', b1, b2, q1, sb, mk, bl⟩ hlt
        have q1' := q1
        obtain ⟨b', o', c', arr', rfl, r1, r2, r3, r4, r5, r6⟩ := q1'
        have hadj := (HSS.out x.1.val).1 x.2
        have hx8 : x.1.val < 64 := by omega
        have hlenq : (nats ([] ++ pre.map fun (x : PtIn SS) => x.1.val)).length = ([] ++ pre.map fun (x : PtIn SS) => x.1.val).length := by simp
        have hlen9 : ([] ++ pre.map fun (x : PtIn SS) => x.1.val).length ≤ 20 := by
          rw [List.length_append, List.length_map]
          unfold rchMu at hmu; simp at hmu ⊢; omega
        have hsw := withAll_small (pre.map (·.1)) s hs
        rw [List.map_map] at hsw
        have hsw' : withAll s (pre.map fun (x : PtIn SS) => x.1.val) < 256 := hsw
        have hsn : withAll s ((pre ++ [x]).map fun (x : PtIn SS) => x.1.val) = withAll s (pre.map fun (x : PtIn SS) => x.1.val) ||| 2 ^ x.1.val := by
          rw [List.map_append, List.map_cons, List.map_nil]; simp [withAll]
        have hqn2 : nats ([] ++ (pre ++ [x]).map fun (x : PtIn SS) => x.1.val) = nats ([] ++ pre.map fun (x : PtIn SS) => x.1.val) ++ [Value.int .i64 ((x.1.val : Nat) : Int)] := by
          rw [List.map_append, ← List.append_assoc]; simp
        have HSN := Lib.hid hsn
        have HQN := Lib.hid hqn2
        rw [hlenq] at b2 q1
        clear hsn hqn2 hsw hlenq
        generalize withAll s (pre.map fun (x : PtIn SS) => x.1.val) = s' at *
        generalize hqq : ([] ++ pre.map fun (x : PtIn SS) => x.1.val) = qq at *
        have HQQ := Lib.hid hqq
        clear hqq
        have c1 := b1.cell
        have f1 := b1.frozen
        have n2 : Bt ≠ b' := boxed_ne b2 r2 (by decide)
        have n3 : W.heap.size ≠ b' := boxed_ne sb r2 (by decide)
        have n4 : w.heap.size ≠ b' := boxed_ne b1 r2 (by decide)
        have hb'W : b' < W'.heap.size := (Array.getElem?_eq_some_iff.1 r2).1
        have gA := grownBy_setCell_at W' w.heap.size 0 (.int .u64 ((s' ||| 2 ^ x.1.val : Nat) : Int))
        have b1V := b1.set (.int .u64 ((s' ||| 2 ^ x.1.val : Nat) : Int))
        have b2V := b2.kept gA (by simp; omega)
        have q1V := q1.kept gA (by simp [Value.ownBlock]; omega)
        have sbV := sb.kept gA (by simp; omega)
        have mkV := marks_row mk gA ⟨_, b1, rfl⟩
        have koV := keeps_row gA ⟨_, b1, rfl⟩
        have blV := bl.setCell (p := ⟨w.heap.size, 0, none⟩) (Nat.le_refl _) (.int .u64 ((s' ||| 2 ^ x.1.val : Nat) : Int))
        have hbq : ∃ o : Obj, (W'.setCell ⟨w.heap.size, 0, none⟩ (.int .u64 ((s' ||| 2 ^ x.1.val : Nat) : Int))).heap[b']? = some o ∧ o.isCells = true := ⟨_, (gA.block b' hb'W (by simp; omega)).trans r2, rfl⟩
        have hVs : (W'.setCell ⟨w.heap.size, 0, none⟩ (.int .u64 ((s' ||| 2 ^ x.1.val : Nat) : Int))).heap.size = W'.heap.size := by simp [World.setCell]
        have c2V := b2V.cell
        have f2V := b2V.frozen
        have blW := bl.size
        clear r6 r3 r4 r5
        gi_wp2_with fail
        refine ⟨trivial, ?_⟩
        refine ((wide_wide.inRound l).calls _ _ _ _ _ _ (with_any s' x.1.val _ (by omega) hx8)).mono ?_
        rintro e w' ⟨rfl, rfl⟩
        have HBk : ∀ o : Obj, ((W'.setCell ⟨w.heap.size, 0, none⟩ (.int .u64 ((s' ||| 2 ^ x.1.val : Nat) : Int))).alloc o).heap[W'.heap.size]? = some o := fun o => by
          have := World.alloc_heap_new (W'.setCell ⟨w.heap.size, 0, none⟩ (.int .u64 ((s' ||| 2 ^ x.1.val : Nat) : Int))) o
          rwa [hVs] at this
        gi_wp2_with (gi_at_builtin; refine wpListIn_append_q _ _ (x.1.val : Int) W'.heap.size (q1V.kept (World.grownBy_alloc _ _ none) (by simp [Value.ownBlock])) rfl rfl Try.underlying28 hi hz0 hz1 hz2 rfl (by first | rfl | simp [hVs]) (HBk _) (by simp; omega) (by simp; omega) ?_; intro v2 w6 hq6 hg6 hat6; have hq6b := hq6; obtain ⟨b7, o7, c7, ar7, rfl, hr7⟩ := hq6b; have b26 := (b2V.alloc (.cells #[.int .i64 ((x.1.val : Nat) : Int)] 3)).kept hg6 (by simp [Value.ownBlock]; exact n2); have c26 := b26.cell; have f26 := b26.frozen)
        generalize W'.setCell ⟨w.heap.size, 0, none⟩ (.int .u64 ((s' ||| 2 ^ x.1.val : Nat) : Int)) = V2 at *
        obtain ⟨hr71, hr72, _⟩ := hr7
        have n5 : Bt ≠ b7 := boxed_ne b26 hr72 (by decide)
        have hg7 : (V2.alloc (.cells #[.int .i64 ((x.1.val : Nat) : Int)] 3)).grownBy w6 (some b') := hg6
        have hL7 : (nats qq ++ [Value.int .i64 ((x.1.val : Nat) : Int)]).length = qq.length + 1 := by simp
        rw [hL7] at hq6
        clear hat6
        generalize hv7 : (Value.slice (some ⟨b7, o7, none⟩) (qq.length + 1) c7) = v7 at *
        have hv7b : v7.ownBlock = some b7 := by rw [← hv7]; rfl
        have hbqA : ∃ o : Obj, (V2.alloc (.cells #[.int .i64 ((x.1.val : Nat) : Int)] 3)).heap[b']? = some o ∧ o.isCells = true := by
          obtain ⟨o, ho, hc⟩ := hbq
          exact ⟨o, ((below_alloc' V2 _).block b' (by omega)).trans ho, hc⟩
        have gS := grownBy_setCell_at w6 Bt 0 v7
        have hbt6 : ∃ o : Obj, w6.heap[Bt]? = some o ∧ o.isCells = true := ⟨_, b26, rfl⟩
        have sb7 := ((sbV.alloc (.cells #[.int .i64 ((x.1.val : Nat) : Int)] 3)).kept hg7 (by simp; omega)).kept gS (by simp; omega)
        have sz6 : w.heap.size ≤ w6.heap.size := Nat.le_trans (Nat.le_trans (by omega) (show V2.heap.size ≤ (V2.alloc (.cells #[.int .i64 ((x.1.val : Nat) : Int)] 3)).heap.size by simp)) hg7.size
        refine ⟨(koV.trans (KeepsOthers.alloc _ _)).trans ((keeps_row hg7 hbqA).trans (keeps_row gS hbt6)), (show _ = _ from sb7).trans (show _ = _ from sb).symm, ?_⟩
        refine ⟨v7, ?_, b26.set v7, ?_, sb7, marks_row (marks_row (mkV.later (below_alloc' _ _)) hg7 hbqA) gS hbt6,
          ((below_c' blV (below_alloc' _ _)).grown hg7 (by simp; omega) (fun r e => by cases e; omega)).grown gS (by omega) (fun r e => by cases e; omega)⟩
        · rw [HSN.out]
          exact ((b1V.alloc _).kept hg7 (by simp; omega)).kept gS (by simp; omega)
        · rw [HQN.out]
          exact hq6.kept gS (by rw [hv7b]; simp; omega)
      case done =>
        rintro D xs W' hD hxs ⟨tv', b1, b2, q1, sb, mk, bl⟩ hK
        have hxm : xs.map (fun (x : PtIn SS) => x.1.val) = (elems SS).map (·.val) := by rw [← hxs, List.map_map]; rfl
        rw [hxm] at b1 q1
        have hmem : ∀ x, x ∈ (elems SS).map (·.val) ↔ adjS O u x ∧ Wn.testBit x = true ∧ s.testBit x = false := by
          intro x
          rw [← HSS.out x]
          constructor
          · intro hx; obtain ⟨y, hy, rfl⟩ := List.mem_map.1 hx; exact mem_elems.1 hy
          · intro hx
            have hx8 : x < 8 := by
              rcases Nat.lt_or_ge x 8 with h | h
              · exact h
              · have : SS.testBit x = false := Nat.testBit_lt_two_pow (Nat.lt_of_lt_of_le (show SS < 2 ^ 8 from hdl) (Nat.pow_le_pow_right (by omega) h))
                rw [this] at hx; cases hx
            exact List.mem_map.2 ⟨⟨x, hx8⟩, mem_elems.2 hx, rfl⟩
        have HR := Lib.hid (rch_round hrch hmem)
        have hmu2 := rch_mu (s := s) (S := SS) (u := u) (t := []) (fun x hx => ((HSS.out x).1 hx).2.2)
        have hsw := withAll_small (elems SS) s hs
        have HQ : Hid (∀ i ∈ [] ++ (elems SS).map (·.val), i < n) := by
          intro i hi
          rcases List.mem_append.1 hi with h | h
          · exact hqn i (List.mem_cons_of_mem _ h)
          · exact (HAB.out u i ((hmem i).1 h).1).2
        generalize withAll s ((elems SS).map (·.val)) = s'' at *
        generalize [] ++ (elems SS).map (·.val) = q'' at *
        have c1 := b1.cell
        have b1lt := b1.lt
        have q1' := q1
        obtain ⟨b', o', c', arr', rfl, _⟩ := q1'
        simp only [List.length_map] at b2 q1
        have c2 := b2.cell
        have hmk' : Marks w.heap.size W' ({ target := .collected D, args := #[] } :: ds) := .cons (by omega) hK (fun dd hd e => by
          obtain ⟨D', g1, g2⟩ := hmk.old dd hd
          rw [g1] at e
          simp at e
          omega) mk
        have blW := bl.size
        clear hmem
        gi_wp2
        exact ⟨_, hmu2, W'.heap.size, _, s'', q'', _, _, _, _, _, _, _, _, _, _, _, _, _, _, _, _, _, _, _, _, _, _, rfl, rfl, by omega, HR.out, hsw, HQ.out, b1.alloc _, Boxed.new _ _ _, by omega, q1.kept (World.grownBy_alloc _ _ none) (by simp [Value.ownBlock]), below_c' bl (below_alloc' _ _), hmk'.later (below_alloc' _ _)⟩
      case stop =>
        rintro D c pre W' _ _ h _
        exact h.elim
    · skip
      have hqt : QRow W w.heap.size (.slice (some ⟨bq, oq + 1, none⟩) t.length (cq - 1)) (nats t) := hq.tail2 hc1
      have gT := grownBy_setCell_at W Bt 0 (.slice (some ⟨bq, oq + 1, none⟩) t.length (cq - 1))
      have hbtV := hbt.set (.slice (some ⟨bq, oq + 1, none⟩) t.length (cq - 1))
      have hbsV := hbs.kept gT (by simp; omega)
      have hneq : Bt ≠ bq := by
        obtain ⟨b', g1, _, _, arr, g2⟩ := hq.own
        obtain rfl : bq = b' := by simpa [Value.ownBlock] using g1
        exact boxed_ne hbt g2 (by decide)
      have hqV := hqt.kept gT (by simp [Value.ownBlock]; omega)
      have hBV := hB.setCell (p := ⟨Bt, 0, none⟩) (Nat.le_of_lt hBt) (.slice (some ⟨bq, oq + 1, none⟩) t.length (cq - 1))
      have hmV := marks_row hmk gT ⟨_, hbt, rfl⟩
      have hsuV := (hBV.cell (p := ⟨gb, go + u, none⟩) hgb).trans (HGC.out u _ (by rw [setsOf_get huo, hOu]))
      have hbsVc := hbsV.cell
      have hbtf := hbt.frozen
      have hbtVc := hbtV.cell
      have HV := Lib.hid hqV
      clear hqV
      gi_wp2_with fail
      refine region_tail_in wide_wide 8 (by kernel_rfl) (by kernel_rfl) ?_ ?_
      · refine calm_cons (calm_move rfl) (calm_cons (calm_move rfl) (calm_cons (calm_index rfl) (calm_cons (calm_load rfl) (calm_cons (calm_move rfl) (calm_cons (calm_bin rfl) (calm_cons (calm_load rfl) (calm_cons (calm_bin rfl) (calm_cons (calm_call _ _ _ rfl (enters_of Try.func52 (by kernel_rfl) rfl)) calm_nil))))))))
      simp only [List.take_succ_cons, List.take_zero, List.drop_succ_cons, List.drop_zero]
      change wpStill _ _ (World.drew _) _ _ _
      repeat still_step
      refine wpStill_nil ?_
      change wpList _ _ _ _ _ (World.drew _)
      go_wp2_with fail
      refine (each_any SS _).mono ?_
      rintro e w' ⟨rfl, rfl⟩
      go_wp2
      have hVs : (W.setCell ⟨Bt, 0, none⟩ (.slice (some ⟨bq, oq + 1, none⟩) t.length (cq - 1))).heap.size = W.heap.size := by simp [World.setCell]
      generalize W.setCell ⟨Bt, 0, none⟩ (.slice (some ⟨bq, oq + 1, none⟩) t.length (cq - 1)) = V at *
      have hBox : Boxed ((V.alloc (.cells #[.int .u64 (SS : Int)] 65)).drew) W.heap.size 65 (.int .u64 (SS : Int)) := by
        have := Boxed.new V 65 (.int .u64 (SS : Int)); rw [hVs] at this; exact this
      have hY : Below V.heap.size V ((V.alloc (.cells #[.int .u64 (SS : Int)] 65)).drew) := (below_alloc' _ _).drew
      have hsY : ((V.alloc (.cells #[.int .u64 (SS : Int)] 65)).drew).heap.size = W.heap.size + 1 := by show (V.alloc _).heap.size = _; simp [hVs]
      have bsY := boxed_later hbsV hY
      have btY := boxed_later hbtV hY
      have qY := HV.out.kept (below_iff_grown.1 hY) (by simp [Value.ownBlock])
      have mY := hmV.later hY
      have bY := below_c hBV hY
      clear hbsV hbtV HV hmV hBV hY hsuV hbsVc hbtVc gT hVs
      generalize (V.alloc (.cells #[.int .u64 (SS : Int)] 65)).drew = Y at *
      have hBtW : Bt < W.heap.size := hbt.lt
      gi_wp2_with fail
      refine wpIn_rangeFunc_ownF rfl h1 (gf := 67) (lb := #[.pointer (some ⟨W.heap.size, 0, none⟩)]) rfl trivial (enters_of Try.func67 (by kernel_rfl) rfl)
        (each_stopsIn 19 (by omega) W.heap.size SS hdl _ hBox (by omega)) (fun h k => keepsBlock_t h k) (keepsBlock_b (by omega)) (Below.refl _ _) (fun _ => rfl)
        (ReachI s t SS w.heap.size Bt W.heap.size w ds) (fun _ _ _ => False) ?hI2 (fun _ _ _ _ _ hs _ _ => hs) ?h02 ?a12 ?assign2 ?body2 ?done2 ?stop2
      case hI2 =>
        rintro pre A A' row ⟨tv', b1, b2, q1, sb, mk, bl⟩ hg hr
        have hr2 : ∀ r, row = some r → ∃ o : Obj, A.heap[r]? = some o ∧ o.isCells = false := fun r e => (hr r e).2
        refine ⟨tv', boxed_k b1 hg hr2, boxed_k b2 hg hr2, qrow_k q1 hg hr2, boxed_k sb hg hr2, marks_k mk hg (fun r e => (hr r e).1) (fun dd hd => ?_), bl.grown hg bl.size (fun r e => ?_)⟩
        · obtain ⟨D, hD1, hD2⟩ := hmk.old dd hd
          exact ⟨D, hD1, by omega⟩
        · have := (hr r e).1; omega
      case h02 =>
        exact ⟨_, bsY, btY, by simpa using qY, hBox, mY, bY⟩
      case assign2 =>
        intro l x W' K hK
        gi_wp2
        exact hK
      case body2 =>
        rintro l pre x W' ⟨tv', b1, b2, q1, sb, mk, bl⟩ hlt
        have q1' := q1
        obtain ⟨b', o', c', arr', rfl, r1, r2, r3, r4, r5, r6⟩ := q1'
        have hadj := (HSS.out x.1.val).1 x.2
        have hx8 : x.1.val < 64 := by omega
        have hlenq : (nats (t ++ pre.map fun (x : PtIn SS) => x.1.val)).length = (t ++ pre.map fun (x : PtIn SS) => x.1.val).length := by simp
        have hlen9 : (t ++ pre.map fun (x : PtIn SS) => x.1.val).length ≤ 20 := by
          rw [List.length_append, List.length_map]
          unfold rchMu at hmu; simp at hmu ⊢; omega
        have hsw := withAll_small (pre.map (·.1)) s hs
        rw [List.map_map] at hsw
        have hsw' : withAll s (pre.map fun (x : PtIn SS) => x.1.val) < 256 := hsw
        have hsn : withAll s ((pre ++ [x]).map fun (x : PtIn SS) => x.1.val) = withAll s (pre.map fun (x : PtIn SS) => x.1.val) ||| 2 ^ x.1.val := by
          rw [List.map_append, List.map_cons, List.map_nil]; simp [withAll]
        have hqn2 : nats (t ++ (pre ++ [x]).map fun (x : PtIn SS) => x.1.val) = nats (t ++ pre.map fun (x : PtIn SS) => x.1.val) ++ [Value.int .i64 ((x.1.val : Nat) : Int)] := by
          rw [List.map_append, ← List.append_assoc]; simp
        have HSN := Lib.hid hsn
        have HQN := Lib.hid hqn2
        rw [hlenq] at b2 q1
        clear hsn hqn2 hsw hlenq
        generalize withAll s (pre.map fun (x : PtIn SS) => x.1.val) = s' at *
        generalize hqq : (t ++ pre.map fun (x : PtIn SS) => x.1.val) = qq at *
        have HQQ := Lib.hid hqq
        clear hqq
        have c1 := b1.cell
        have f1 := b1.frozen
        have n2 : Bt ≠ b' := boxed_ne b2 r2 (by decide)
        have n3 : W.heap.size ≠ b' := boxed_ne sb r2 (by decide)
        have n4 : w.heap.size ≠ b' := boxed_ne b1 r2 (by decide)
        have hb'W : b' < W'.heap.size := (Array.getElem?_eq_some_iff.1 r2).1
        have gA := grownBy_setCell_at W' w.heap.size 0 (.int .u64 ((s' ||| 2 ^ x.1.val : Nat) : Int))
        have b1V := b1.set (.int .u64 ((s' ||| 2 ^ x.1.val : Nat) : Int))
        have b2V := b2.kept gA (by simp; omega)
        have q1V := q1.kept gA (by simp [Value.ownBlock]; omega)
        have sbV := sb.kept gA (by simp; omega)
        have mkV := marks_row mk gA ⟨_, b1, rfl⟩
        have koV := keeps_row gA ⟨_, b1, rfl⟩
        have blV := bl.setCell (p := ⟨w.heap.size, 0, none⟩) (Nat.le_refl _) (.int .u64 ((s' ||| 2 ^ x.1.val : Nat) : Int))
        have hbq : ∃ o : Obj, (W'.setCell ⟨w.heap.size, 0, none⟩ (.int .u64 ((s' ||| 2 ^ x.1.val : Nat) : Int))).heap[b']? = some o ∧ o.isCells = true := ⟨_, (gA.block b' hb'W (by simp; omega)).trans r2, rfl⟩
        have hVs : (W'.setCell ⟨w.heap.size, 0, none⟩ (.int .u64 ((s' ||| 2 ^ x.1.val : Nat) : Int))).heap.size = W'.heap.size := by simp [World.setCell]
        have c2V := b2V.cell
        have f2V := b2V.frozen
        have blW := bl.size
        clear r6 r3 r4 r5
        gi_wp2_with fail
        refine ⟨trivial, ?_⟩
        refine ((wide_wide.inRound l).calls _ _ _ _ _ _ (with_any s' x.1.val _ (by omega) hx8)).mono ?_
        rintro e w' ⟨rfl, rfl⟩
        have HBk : ∀ o : Obj, ((W'.setCell ⟨w.heap.size, 0, none⟩ (.int .u64 ((s' ||| 2 ^ x.1.val : Nat) : Int))).alloc o).heap[W'.heap.size]? = some o := fun o => by
          have := World.alloc_heap_new (W'.setCell ⟨w.heap.size, 0, none⟩ (.int .u64 ((s' ||| 2 ^ x.1.val : Nat) : Int))) o
          rwa [hVs] at this
        gi_wp2_with (gi_at_builtin; refine wpListIn_append_q _ _ (x.1.val : Int) W'.heap.size (q1V.kept (World.grownBy_alloc _ _ none) (by simp [Value.ownBlock])) rfl rfl Try.underlying28 hi hz0 hz1 hz2 rfl (by first | rfl | simp [hVs]) (HBk _) (by simp; omega) (by simp; omega) ?_; intro v2 w6 hq6 hg6 hat6; have hq6b := hq6; obtain ⟨b7, o7, c7, ar7, rfl, hr7⟩ := hq6b; have b26 := (b2V.alloc (.cells #[.int .i64 ((x.1.val : Nat) : Int)] 3)).kept hg6 (by simp [Value.ownBlock]; exact n2); have c26 := b26.cell; have f26 := b26.frozen)
        generalize W'.setCell ⟨w.heap.size, 0, none⟩ (.int .u64 ((s' ||| 2 ^ x.1.val : Nat) : Int)) = V2 at *
        obtain ⟨hr71, hr72, _⟩ := hr7
        have n5 : Bt ≠ b7 := boxed_ne b26 hr72 (by decide)
        have hg7 : (V2.alloc (.cells #[.int .i64 ((x.1.val : Nat) : Int)] 3)).grownBy w6 (some b') := hg6
        have hL7 : (nats qq ++ [Value.int .i64 ((x.1.val : Nat) : Int)]).length = qq.length + 1 := by simp
        rw [hL7] at hq6
        clear hat6
        generalize hv7 : (Value.slice (some ⟨b7, o7, none⟩) (qq.length + 1) c7) = v7 at *
        have hv7b : v7.ownBlock = some b7 := by rw [← hv7]; rfl
        have hbqA : ∃ o : Obj, (V2.alloc (.cells #[.int .i64 ((x.1.val : Nat) : Int)] 3)).heap[b']? = some o ∧ o.isCells = true := by
          obtain ⟨o, ho, hc⟩ := hbq
          exact ⟨o, ((below_alloc' V2 _).block b' (by omega)).trans ho, hc⟩
        have gS := grownBy_setCell_at w6 Bt 0 v7
        have hbt6 : ∃ o : Obj, w6.heap[Bt]? = some o ∧ o.isCells = true := ⟨_, b26, rfl⟩
        have sb7 := ((sbV.alloc (.cells #[.int .i64 ((x.1.val : Nat) : Int)] 3)).kept hg7 (by simp; omega)).kept gS (by simp; omega)
        have sz6 : w.heap.size ≤ w6.heap.size := Nat.le_trans (Nat.le_trans (by omega) (show V2.heap.size ≤ (V2.alloc (.cells #[.int .i64 ((x.1.val : Nat) : Int)] 3)).heap.size by simp)) hg7.size
        refine ⟨(koV.trans (KeepsOthers.alloc _ _)).trans ((keeps_row hg7 hbqA).trans (keeps_row gS hbt6)), (show _ = _ from sb7).trans (show _ = _ from sb).symm, ?_⟩
        refine ⟨v7, ?_, b26.set v7, ?_, sb7, marks_row (marks_row (mkV.later (below_alloc' _ _)) hg7 hbqA) gS hbt6,
          ((below_c' blV (below_alloc' _ _)).grown hg7 (by simp; omega) (fun r e => by cases e; omega)).grown gS (by omega) (fun r e => by cases e; omega)⟩
        · rw [HSN.out]
          exact ((b1V.alloc _).kept hg7 (by simp; omega)).kept gS (by simp; omega)
        · rw [HQN.out]
          exact hq6.kept gS (by rw [hv7b]; simp; omega)
      case done2 =>
        rintro D xs W' hD hxs ⟨tv', b1, b2, q1, sb, mk, bl⟩ hK
        have hxm : xs.map (fun (x : PtIn SS) => x.1.val) = (elems SS).map (·.val) := by rw [← hxs, List.map_map]; rfl
        rw [hxm] at b1 q1
        have hmem : ∀ x, x ∈ (elems SS).map (·.val) ↔ adjS O u x ∧ Wn.testBit x = true ∧ s.testBit x = false := by
          intro x
          rw [← HSS.out x]
          constructor
          · intro hx; obtain ⟨y, hy, rfl⟩ := List.mem_map.1 hx; exact mem_elems.1 hy
          · intro hx
            have hx8 : x < 8 := by
              rcases Nat.lt_or_ge x 8 with h | h
              · exact h
              · have : SS.testBit x = false := Nat.testBit_lt_two_pow (Nat.lt_of_lt_of_le (show SS < 2 ^ 8 from hdl) (Nat.pow_le_pow_right (by omega) h))
                rw [this] at hx; cases hx
            exact List.mem_map.2 ⟨⟨x, hx8⟩, mem_elems.2 hx, rfl⟩
        have HR := Lib.hid (rch_round hrch hmem)
        have hmu2 := rch_mu (s := s) (S := SS) (u := u) (t := t) (fun x hx => ((HSS.out x).1 hx).2.2)
        have hsw := withAll_small (elems SS) s hs
        have HQ : Hid (∀ i ∈ t ++ (elems SS).map (·.val), i < n) := by
          intro i hi
          rcases List.mem_append.1 hi with h | h
          · exact hqn i (List.mem_cons_of_mem _ h)
          · exact (HAB.out u i ((hmem i).1 h).1).2
        generalize withAll s ((elems SS).map (·.val)) = s'' at *
        generalize t ++ (elems SS).map (·.val) = q'' at *
        have c1 := b1.cell
        have b1lt := b1.lt
        have q1' := q1
        obtain ⟨b', o', c', arr', rfl, _⟩ := q1'
        simp only [List.length_map] at b2 q1
        have c2 := b2.cell
        have hmk' : Marks w.heap.size W' ({ target := .collected D, args := #[] } :: ds) := .cons (by omega) hK (fun dd hd e => by
          obtain ⟨D', g1, g2⟩ := hmk.old dd hd
          rw [g1] at e
          simp at e
          omega) mk
        have blW := bl.size
        clear hmem
        gi_wp2
        exact ⟨_, hmu2, W'.heap.size, _, s'', q'', _, _, _, _, _, _, _, _, _, _, _, _, _, _, _, _, _, _, _, _, _, _, rfl, rfl, by omega, HR.out, hsw, HQ.out, b1.alloc _, Boxed.new _ _ _, by omega, q1.kept (World.grownBy_alloc _ _ none) (by simp [Value.ownBlock]), below_c' bl (below_alloc' _ _), hmk'.later (below_alloc' _ _)⟩
      case stop2 =>
        rintro D c pre W' _ _ h _
        exact h.elim

end Go.Proofs.Ytjeafgnaoncphaa
