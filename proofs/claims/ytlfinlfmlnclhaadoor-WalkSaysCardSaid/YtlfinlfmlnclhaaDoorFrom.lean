/- What walk.From returns: the walk. Conditions: in each statement. -/
import Derived.Test.YtlfinlfmlnclhaaDoorQueue
import Derived.Test.YtlfinlfmlnclhaaDoorAdj
import Derived.Test.YtlfinlfmlnclhaaDoorGraph
namespace Go.Proofs.YtlfinlfmlnclhaaDoor
open Go.RowKit Go.Shelf Gr
attribute [local go_sem] Oper.semAt_some

theorem fill_set (n k : Nat) (hk : k < n) : (List.replicate k (-1 : Int) ++ List.replicate (n - k) 0).set k (-1) = List.replicate (k + 1) (-1) ++ List.replicate (n - (k + 1)) 0 := by
  refine List.ext_getElem? fun i => ?_
  rw [List.getElem?_set]
  simp only [List.length_append, List.length_replicate, List.getElem?_append, List.getElem?_replicate]
  repeat' split
  all_goals first | rfl | (exfalso; omega)

theorem ints_set (xs : List Int) (k : Nat) (x : Int) : (ints xs).set k (.int .i64 x) = ints (xs.set k x) := by simp [ints, List.map_set]

set_option pp.deepTerms true in
set_option pp.maxSteps 1000000 in
/-- between two rounds of the inner loop -/
def FromI (O : List Nat) (k f u s g bo wb w4 gs caps Bt Bs : Nat) (w1 : World) (ds : List Deferred) (d : List Int) (t : List Nat) (pre : List (PtIn s)) (W' : World) : Prop :=
  ∃ (d' : List Int) (t' : List Nat) (tv' : Value), (pre.map (fun (x : PtIn s) => x.1.val)).foldl (bfsStep u) (d, u :: t) = (d', u :: t') ∧ Bfs O k f d' (u :: t') ∧
    Boxed W' bo 36 (.slice (some ⟨g, 0, none⟩) k k) ∧ W'.ownsRow g 3 1 (.slice (some ⟨g, 0, none⟩) k k) k (ints d') ∧
    W'.ownsRow wb 74 1 (.slice (some ⟨gs, 0, none⟩) k caps) k (setsOf O) ∧ Boxed W' Bt 36 tv' ∧ QRow W' w4 tv' (nats (u :: t')) ∧
    Boxed W' Bs 74 (.int .u64 (s : Int)) ∧ Marks w4 W' ds ∧ w4 ≤ W'.heap.size ∧ Below g w1 W'

theorem boxed_ne {W : World} {B b : Nat} {t t' : TypeId} {v : Value} {arr : Array Value} (h : Boxed W B t v) (hb : W.heap[b]? = some (.cells arr t' (0, 0))) (hne : t ≠ t') : B ≠ b := by
  rintro rfl
  rw [show W.heap[B]? = _ from h] at hb
  cases hb
  exact hne rfl
theorem marks_row {W W' : World} {B r : Nat} {ds : List Deferred} (h : Marks B W ds) (hg : W.grownBy W' (some r)) (hr : ∃ o : Obj, W.heap[r]? = some o ∧ o.isCells = true) : Marks B W' ds :=
  h.kept fun D _ _ hD => (hg.block D (Array.getElem?_eq_some_iff.1 hD).1 (fun e => by
    obtain ⟨o, ho, hc⟩ := hr
    cases e
    rw [hD] at ho; cases ho; cases hc)).trans hD
theorem keeps_row {W W' : World} {r : Nat} (hg : W.grownBy W' (some r)) (hr : ∃ o : Obj, W.heap[r]? = some o ∧ o.isCells = true) : KeepsOthers W W' :=
  KeepsOthers.of_grownBy hg fun j o e hj => by cases e; obtain ⟨o', ho, hc⟩ := hr; rw [hj] at ho; cases ho; exact hc

set_option maxRecDepth 100000 in
set_option maxHeartbeats 4000000 in
theorem from_ok (n f : Nat) (v : Value) (ls : List Ln) (w : World) (hr : LinesRd w v ls) (hg : GoodG n ls) (hf : f < n) :
    Calls Tryd.prog 38 #[.int .i64 n, v, .int .i64 f] w fun e w' => ∃ d a c, e = .returned (.tuple #[.slice a n c, .nilIface]) ∧ IsDist (beside n ls) n f d ∧ Rd w' (.slice a n c) n (ints d) ∧ Below w.heap.size w w' := by
  obtain ⟨i0, hi, hz0, hz1, hz2⟩ := info_parts info_int
  have HG := Lib.hid hg
  have HC : Hid (errOf (chk n ls) = .nilIface) := by show _ = _; rw [chk_good hg]; rfl
  have hn8 : n ≤ 8 := hg.2.1
  have hlen : (beside n ls).length = n := beside_length n ls
  have HI : Hid (decide ((0 : Int) ≤ (f : Int) ∧ (f : Int) ≤ (n : Int) - 1) = true) := by show _ = _; exact decide_eq_true (by omega)
  have w1' : IntKind.i64.wrap ((n : Int) - 1) = (n : Int) - 1 := IntWalk.i64_in _ (by omega)
  have h1 : 1 ≤ 20 := by omega
  clear hg
  refine (callsIn_wide (n := 20)).1 ?_
  refine callsIn_of_wp_marks Tryd.func38 rfl trivial ?_ rfl
  simp only [Tryd.ntmps38, List.size_toArray, List.length_cons, List.length_nil, Nat.reduceAdd, Nat.reduceSub, Array.replicate_succ, Array.replicate_zero, List.push_toArray, List.append_toArray, List.nil_append, List.cons_append]
  gi_wp2_with fail
  refine ⟨trivial, ?_⟩
  refine (callsIn_wide.2 (graphCheck_any n v ls _ hr)).mono ?_
  rintro e w1 ⟨rfl, hB1⟩
  rw [HC.out]
  gi_wp2_with fail
  refine ⟨trivial, ?_⟩
  refine (callsIn_wide.2 (within_any _ _ _ _)).mono ?_
  rintro e w2 ⟨rfl, rfl⟩
  first | rw [HI.out] | (rw [w1', HI.out])
  gi_wp2_with (gi_at_make; refine wpListIn_make_full _ rfl _ _ _ rfl w1.heap.size 3 i0 (.int .i64 0) 1 Tryd.underlying36 hi hz0 hz1 .i64 .i64 _ _ n rfl rfl rfl rfl (by rw [hz2]; omega) (by unfold maxLen; omega) (Nat.le_refl _) ?_; intro w2 hown hgr)
  have hB2 := below_iff_grown.2 hgr
  have hsz2 := hB2.size
  have hlt2 : w1.heap.size < w2.heap.size := (hown.lt _ rfl).2
  have ez : (madeCells (Value.int .i64 0).cells (n * 1)).toList = ints (List.replicate 0 (-1) ++ List.replicate (n - 0) 0) := by
    rw [Nat.mul_one]; show (madeCells #[Value.int .i64 0] n).toList = _; rw [toList_madeCells_one]; simp
  rw [ez] at hown
  clear ez hgr
  gi_loopw [30, 10] (fun i _ wr => ∃ k : Nat, k ≤ n ∧ i = .int .i64 k ∧ Boxed wr w2.heap.size 36 (.slice (some ⟨w1.heap.size, 0, none⟩) n n) ∧
    wr.ownsRow w1.heap.size 3 1 (.slice (some ⟨w1.heap.size, 0, none⟩) n n) n (ints (List.replicate k (-1) ++ List.replicate (n - k) 0)) ∧ Below w1.heap.size w1 wr) (fun i _ _ => n - (intOf i).toNat)
  case atStart => exact ⟨0, by omega, rfl, Boxed.new _ _ _, hown.alloc _, below_c hB2 (below_alloc' _ _)⟩
  case round =>
    obtain ⟨k, hk, rfl, hbox, hor, hbr⟩ := hrel
    have hbc := hbox.cell
    by_cases hlt : k < n
    · have hfk := hor.frozenAt k
      have hck := owns_at hor (ints_get (k := k) (by simp; omega))
      have hkn : (k : Int) < (n : Int) := by omega
      gi_wp2
      obtain ⟨own', gr'⟩ := hor.stored k (.int .i64 (-1))
      rw [ints_set, fill_set n k hlt] at own'
      go_roundw
      case rel => exact ⟨k + 1, by omega, by go_num, hbox.kept (grownBy_setCell_at _ _ _ _) (by simp; omega), own', hbr.setCell (p := ⟨w1.heap.size, k, none⟩) (Nat.le_refl _) _⟩
      case measure => simp [intOf]; omega
    · have e : k = n := by omega
      subst e
      have hL : (List.replicate k (-1 : Int) ++ List.replicate (k - k) 0) = List.replicate k (-1) := by simp
      rw [hL] at hor
      have hff := hor.frozenAt f
      have hfn : (f : Int) < (k : Int) := by omega
      have hcf := owns_at hor (ints_get (k := f) (by simp; omega))
      clear hL hlt hown
      gi_wp2_with fail
      obtain ⟨own', gr'⟩ := hor.stored f (.int .i64 0)
      rw [ints_set] at own'
      have hbox' := hbox.kept (grownBy_setCell_at wr w1.heap.size f (.int .i64 0)) (by simp; omega)
      have hbr' := hbr.setCell (p := ⟨w1.heap.size, f, none⟩) (Nat.le_refl _) (.int .i64 0)
      have hszr := hbr'.size
      clear hbr hbox hor hbc hff hcf
      have hlt2' : w2.heap.size < wr.heap.size := by have := hbox'.lt; simpa [World.setCell] using this
      generalize wr.setCell ⟨w1.heap.size, f, none⟩ (.int .i64 0) = wb at *
      have hB01 := below_c hB1 hbr'
      have hgwb0 : w1.heap.size < wb.heap.size := (own'.lt _ rfl).2
      refine ⟨trivial, ?_⟩
      refine (callsIn_wide.2 (coreBeside_any k v ls _ (hr.later hB01) HG.out)).mono ?_
      rintro e w4 ⟨gs, caps, rfl, hos, hB4, hS⟩
      have hB14 := below_c hbr' hB4
      have hB04 := below_c hB1 hB14
      have hor4 := owns_later own' hB4
      have hbox4 : Boxed w4 w2.heap.size 36 (.slice (some ⟨w1.heap.size, 0, none⟩) k k) := (hB4.block _ hbox'.lt).trans hbox'
      have HS := Lib.hid hS
      have HAB := Lib.hid (adj_bounded HG.out)
      clear hS hB4 own' gr' hbox' hbr' hB01 hB2 hsz2
      generalize hOe : beside k ls = O at hlen hos HS HAB
      have HOe := Lib.hid hOe
      clear hOe
      gi_wp2_with fail
      have hgs : wb.heap.size ≤ gs ∧ gs < w4.heap.size := hos.lt gs rfl
      have hgl : w1.heap.size ≤ w4.heap.size := hB14.size
      have hbo : w2.heap.size < w4.heap.size := hbox4.lt
      have hgwb : w1.heap.size < wb.heap.size := hgwb0
      refine loop_ghost (fun m a W => ∃ (Bt : Nat) (tv : Value) (d : List Int) (q : List Nat) (ds : List Deferred) (y45 y46 y47 y48 y49 y50 y51 y52 y53 y54 y55 y56 y77 : Value),
        a = { tmps := #[.int .i64 (k : Int), v, .int .i64 (f : Int), undef, undef, undef, .slice none 0 0, .nilIface, .nilIface, .pointer (some ⟨w2.heap.size, 0, none⟩), u10, .slice (some ⟨gs, 0, none⟩) k caps, .pointer (some ⟨Bt, 0, none⟩), undef, .int .i64 (k : Int), v, .nilIface, .nilIface, .bool false, undef, .int .i64 (f : Int), .int .i64 (k : Int), .int .i64 ((k : Int) - 1), .bool true, .bool false, undef, .int .i64 (k : Int), .slice (some ⟨w1.heap.size, 0, none⟩) k k, .slice (some ⟨w1.heap.size, 0, none⟩) k k, .int .i64 (k : Int), .int .i64 (k : Int), .bool false, u32, u33, u34, u35, u36, .slice (some ⟨w1.heap.size, 0, none⟩) k k, .int .i64 (f : Int), .pointer (some ⟨w1.heap.size, f, none⟩), .int .i64 (k : Int), v, .slice (some ⟨gs, 0, none⟩) k caps, .int .i64 (f : Int), .slice (some ⟨w4.heap.size, 0, none⟩) 1 1, y45, y46, y47, y48, y49, y50, y51, y52, y53, y54, y55, y56, undef, undef, undef, undef, undef, undef, undef, undef, undef, undef, undef, undef, undef, undef, undef, undef, undef, undef, undef, undef, y77, undef], defers := ds } ∧ m = bfsMu d q ∧ Bfs O k f d q ∧
        Boxed W w2.heap.size 36 (.slice (some ⟨w1.heap.size, 0, none⟩) k k) ∧ W.ownsRow w1.heap.size 3 1 (.slice (some ⟨w1.heap.size, 0, none⟩) k k) k (ints d) ∧
        W.ownsRow wb.heap.size 74 1 (.slice (some ⟨gs, 0, none⟩) k caps) k (setsOf O) ∧ Boxed W Bt 36 tv ∧ w4.heap.size ≤ Bt ∧ QRow W w4.heap.size tv (nats q) ∧
        Below w1.heap.size w1 W ∧ w4.heap.size ≤ W.heap.size ∧ Marks w4.heap.size W ds) _
        ⟨w4.heap.size + 1, _, _, [f], [], undef, undef, undef, undef, undef, undef, undef, undef, undef, undef, undef, undef, undef, rfl, rfl, bfs_start hf, (hbox4.alloc _).alloc _, (owns_later hor4 (below_alloc' _ _)).alloc _, (owns_later hos (below_alloc' _ _)).alloc _,
          by have := Boxed.new (w4.alloc (.cells #[.int .i64 (f : Int)] 3)) 36 (.slice (some ⟨w4.heap.size, 0, none⟩) 1 1); rwa [World.size_alloc] at this,
          by omega, (QRow.of_lit (xs := nats [f]) rfl rfl rfl (Nat.le_refl _) (by simp [maxLen])).kept (World.grownBy_alloc _ _ none) (by simp [Value.ownBlock]), below_c (below_c hB14 (below_alloc' _ _)) (below_alloc' _ _), by simp; omega, .nil⟩ ?_
      rintro m a W ⟨Bt, tv, d, q, ds, y45, y46, y47, y48, y49, y50, y51, y52, y53, y54, y55, y56, y77, rfl, rfl, hbfs, hbox, hout, hset, hbt, hBt, hq, hB, hsz, hmk⟩
      have hbc := hbox.cell
      have hbtc := hbt.cell
      cases q with
      | nil =>
        obtain ⟨bq, oq, cq, arr, rfl, _⟩ := hq
        gi_wp2
        refine leaves_marks hmk (fun W' => results_tmp2 rfl _ _ W') ?_ ⟨d, _, _, rfl, by rw [HOe.out]; exact bfs_end hbfs, rd_of_owns hout, below_c hB1 hB⟩
        rintro s A A' row ⟨d, a, c, e, g1, g2, g3⟩ hg hr
        exact ⟨d, a, c, e, g1, rd_k g2 hg (fun r e => (hr r e).2), ownFrom_below (Nat.le_refl _) hB04.size s A A' row g3 hg hr⟩
      | cons u t =>
        obtain ⟨bq, oq, cq, rfl, hq1, hq2, hqc⟩ := hq.head
        have hu : u < k := by have := at1_in (hbfs.qin u List.mem_cons_self); rwa [hbfs.len] at this
        have huo : u < O.length := by omega
        have hsu := owns_at hset (setsOf_get huo)
        have hs := HS.out _ (List.getElem_mem huo)
        have hSe : O[u]?.getD 0 = O[u] := by rw [List.getElem?_eq_getElem huo]; rfl
        generalize O[u] = s at hsu hs hSe
        have HSe := Lib.hid hSe
        clear hSe
        gi_wp2_with fail
        refine ⟨trivial, ?_⟩
        refine (callsIn_wide.2 (each_any s _)).mono ?_
        rintro e w' ⟨rfl, rfl⟩
        gi_wp2_with fail
        refine wpIn_rangeFunc_ownF rfl h1 (gf := 76) (lb := #[.pointer (some ⟨W.heap.size, 0, none⟩)]) rfl trivial (enters_of Tryd.func76 (by kernel_rfl) rfl)
          (each_stopsIn 19 (by omega) W.heap.size s hs _ (World.alloc_heap_new _ _) (by simp)) (fun h k => keepsBlock_t h k) (keepsBlock_b (by simp)) (Below.refl _ _) (fun _ => rfl)
          (FromI O k f u s w1.heap.size w2.heap.size wb.heap.size w4.heap.size gs caps Bt W.heap.size w1 ds d t)
          (fun _ _ _ => False) ?hI (fun _ _ _ _ _ hs _ _ => hs) ?h0 ?a1 ?assign ?body ?done ?stop
        case hI =>
          rintro pre A A' row ⟨d', t', tv', e1, e2, b1, o1, o2, b2, q1, sb, mk, sz, bl⟩ hg hr
          have hr2 : ∀ r, row = some r → ∃ o : Obj, A.heap[r]? = some o ∧ o.isCells = false := fun r e => (hr r e).2
          refine ⟨d', t', tv', e1, e2, boxed_k b1 hg hr2, owns_k o1 hg hr2, owns_k o2 hg hr2, boxed_k b2 hg hr2, qrow_k q1 hg hr2, boxed_k sb hg hr2,
            marks_k mk hg (fun r e => (hr r e).1) (fun dd hd => ?_), Nat.le_trans sz hg.size, bl.grown hg (Nat.le_trans hgl sz) (fun r e => ?_)⟩
          · obtain ⟨D, hD1, hD2⟩ := hmk.old dd hd
            exact ⟨D, hD1, by simp; omega⟩
          · have := (hr r e).1; simp at this; omega
        case h0 =>
          refine ⟨d, t, _, rfl, hbfs, hbox.alloc _, (owns_later hout (below_alloc' _ _)), (owns_later hset (below_alloc' _ _)), hbt.alloc _, hq.kept (World.grownBy_alloc _ _ none) (by simp [Value.ownBlock]), Boxed.new _ _ _, hmk.later (below_alloc' _ _), by simp; omega, below_c hB (below_alloc' _ _)⟩
        case assign =>
          intro l x W' K hK
          gi_wp2
          exact hK
        case body =>
          rintro l pre x W' ⟨d', t', tv', e1, e2, b1, o1, o2, b2, q1, sb, mk, sz, bl⟩ hlt
          have c1 := b1.cell
          have c2 := b2.cell
          have hadj : adjS O u x.1.val := by unfold adjS; rw [HSe.out]; exact x.2
          have hxk : x.1.val < k := (HAB.out _ _ hadj).2
          have hxd : x.1.val < d'.length := by rw [e2.len]; exact hxk
          have hud : u < d'.length := by rw [e2.len]; exact hu
          have hcx := owns_at o1 (ints_get hxd)
          have hcu := owns_at o1 (ints_get hud)
          have e3 : d'[x.1.val] = at1 d' x.1.val := by have := at1_lt hxd; rw [List.getElem?_eq_getElem hxd] at this; simpa using this
          have e4 : d'[u] = at1 d' u := by have := at1_lt hud; rw [List.getElem?_eq_getElem hud] at this; simpa using this
          rw [e3] at hcx
          rw [e4] at hcu
          have hst := Lib.hid (bfs_step e2 hxk hadj)
          have hfew := e2.few u
          have hu0 := e2.qin u List.mem_cons_self
          have hfx := o1.frozenAt x.1.val
          have hxk' : (x.1.val : Int) < (k : Int) := by omega
          have huk' : (u : Int) < (k : Int) := by omega
          have hwd : IntKind.i64.wrap (at1 d' u + 1) = at1 d' u + 1 := IntWalk.i64_in _ (by omega)
          clear e3 e4
          obtain ⟨bq', oq', cq', rfl, hq1', hq2', hqc'⟩ := q1.head
          have ht8 : t'.length ≤ 8 := by have := e2.cap; rw [List.length_cons] at this; omega
          simp only [List.length_map] at q1 b2 c2 hq1'
          by_cases hneg : at1 d' x.1.val < 0
          · gi_wp2
            refine region_tail_in (wide_wide.inRound l) 10 (by kernel_rfl) (by kernel_rfl) ?_ ?_
            · refine calm_cons (calm_load rfl) (calm_cons (calm_move rfl) (calm_cons (calm_load rfl) (calm_cons (calm_load rfl) (calm_cons (calm_index rfl) (calm_cons (calm_load rfl) (calm_cons (calm_index rfl) (calm_cons (calm_load rfl) (calm_cons (calm_bin rfl) (calm_cons (calm_index rfl) (calm_cons (calm_store rfl) calm_nil))))))))))
            simp only [List.take_succ_cons, List.take_zero, List.drop_succ_cons, List.drop_zero]
            change wpStill _ _ (World.drew _) _ _ _
            repeat still_step
            refine wpStill_nil ?_
            change wpList _ _ _ _ _ (World.drew _)
            go_wp2
            obtain ⟨own', gr'⟩ := o1.stored x.1.val (.int .i64 (at1 d' u + 1))
            rw [ints_set] at own'
            obtain ⟨V, hV⟩ : ∃ V, V = (W'.setCell ⟨w1.heap.size, x.1.val, none⟩ (.int .i64 (at1 d' u + 1))).drew := ⟨_, rfl⟩
            have g0 := grownBy_setCell_at W' w1.heap.size x.1.val (.int .i64 (at1 d' u + 1))
            have gA : W'.grownBy V (some w1.heap.size) := by rw [hV]; exact ⟨g0.os, g0.tape, g0.output, g0.size, g0.block⟩
            have hgc : ∃ o : Obj, W'.heap[w1.heap.size]? = some o ∧ o.isCells = true := by
              obtain ⟨o, ho, hc⟩ := cells_of_cell hcx; exact ⟨o, ho, hc⟩
            have ownV : V.ownsRow w1.heap.size 3 1 (.slice (some ⟨w1.heap.size, 0, none⟩) k k) k (ints (d'.set x.1.val (at1 d' u + 1))) := by rw [hV]; exact own'.drew
            first | rw [← hV] | skip
            have q1own := q1.own
            obtain ⟨bo', hbo1, hbo2, hbo3, arr0, hbo4⟩ := q1own
            obtain rfl : bq' = bo' := by simpa [Value.ownBlock] using hbo1
            have n1 : some w2.heap.size ≠ some w1.heap.size := by simp; omega
            have n2 : Bt ≠ bq' := boxed_ne b2 hbo4 (by decide)
            have n3 : W.heap.size ≠ bq' := boxed_ne sb hbo4 (by decide)
            have n4 : Bt < W.heap.size := hbt.lt
            have b1V := b1.kept gA n1
            have b2V := b2.kept gA (by simp; omega)
            have q1V := q1.kept gA (by simp [Value.ownBlock]; omega)
            have o2V := o2.kept gA (.inr (by simp [Value.ownBlock]; omega))
            have sbV := sb.kept gA (by simp; omega)
            have mkV := marks_row mk gA hgc
            have koV := keeps_row gA hgc
            have szV : w4.heap.size ≤ V.heap.size := Nat.le_trans sz gA.size
            have blV := bl.grown gA (Nat.le_trans hgl sz) (fun r e => by cases e; exact Nat.le_refl _)
            have c2V := b2V.cell
            have f2V := b2V.frozen
            have hbq : ∃ o : Obj, V.heap[bq']? = some o ∧ o.isCells = true := ⟨_, (gA.block bq' hbo3 (by simp; omega)).trans hbo4, rfl⟩
            have hltV : bq' < V.heap.size := Nat.lt_of_lt_of_le hbo3 gA.size
            clear hV g0 gr' own' hbo4
            gi_wp2_with (gi_at_builtin; refine wpListIn_append_q _ _ (x.1.val : Int) V.heap.size (q1V.kept (World.grownBy_alloc _ _ none) (by simp [Value.ownBlock])) rfl rfl Tryd.underlying36 hi hz0 hz1 hz2 rfl rfl (World.alloc_heap_new _ _) (by simp; omega) (by simp; omega) ?_; intro v2 w6 hq6 hg6 hat6; have hq6b := hq6; obtain ⟨b7, o7, c7, ar7, rfl, hr7⟩ := hq6b; have b26 := (b2V.alloc (.cells #[.int .i64 ((x.1.val : Nat) : Int)] 3)).kept hg6 (by simp [Value.ownBlock]; exact n2); have c26 := b26.cell; have f26 := b26.frozen)
            obtain ⟨hr71, hr72, _⟩ := hr7
            have n5 : Bt ≠ b7 := boxed_ne b26 hr72 (by decide)
            have hg7 : (V.alloc (.cells #[.int .i64 ((x.1.val : Nat) : Int)] 3)).grownBy w6 (some bq') := hg6
            have hL7 : (nats (u :: t') ++ [Value.int .i64 ((x.1.val : Nat) : Int)]).length = t'.length + 1 + 1 := by simp
            rw [hL7] at hq6
            clear hat6
            generalize hv7 : (Value.slice (some ⟨b7, o7, none⟩) (t'.length + 1 + 1) c7) = v7 at *
            have hv7b : v7.ownBlock = some b7 := by rw [← hv7]; rfl
            obtain ⟨d'', t'', s1, s2, s3, s4, s5, s6⟩ := hst.out
            have s0 : bfsStep u (d', u :: t') x.1.val = (d'.set x.1.val (at1 d' u + 1), u :: (t' ++ [x.1.val])) := by unfold bfsStep; exact if_pos hneg
            rw [s0] at s1
            obtain ⟨rfl, e⟩ := Prod.mk.inj s1
            obtain ⟨_, rfl⟩ := List.cons.inj e
            have hbqA : ∃ o : Obj, (V.alloc (.cells #[.int .i64 ((x.1.val : Nat) : Int)] 3)).heap[bq']? = some o ∧ o.isCells = true := by
              obtain ⟨o, ho, hc⟩ := hbq
              exact ⟨o, ((below_alloc' V _).block bq' hltV).trans ho, hc⟩
            have gS := grownBy_setCell_at w6 Bt 0 v7
            have hbt6 : ∃ o : Obj, w6.heap[Bt]? = some o ∧ o.isCells = true := ⟨_, b26, rfl⟩
            have sb7 := ((sbV.alloc (.cells #[.int .i64 ((x.1.val : Nat) : Int)] 3)).kept hg7 (by simp; omega)).kept gS (by simp; omega)
            have sz6 : w4.heap.size ≤ w6.heap.size := Nat.le_trans szV (Nat.le_trans (by simp) hg7.size)
            refine ⟨(koV.trans (KeepsOthers.alloc _ _)).trans ((keeps_row hg7 hbqA).trans (keeps_row gS hbt6)), (show _ = _ from sb7).trans (show _ = _ from sb).symm, ?_⟩
            refine ⟨_, _, v7, ?_, s2, ((b1V.alloc _).kept hg7 (by simp; omega)).kept gS (by simp; omega),
              ((owns_later ownV (below_alloc' _ _)).kept hg7 (.inr (by simp [Value.ownBlock]; omega))).kept gS (.inr (by simp [Value.ownBlock]; omega)),
              ((owns_later o2V (below_alloc' _ _)).kept hg7 (.inr (by simp [Value.ownBlock]; omega))).kept gS (.inr (by simp [Value.ownBlock]; omega)),
              b26.set v7, ?_, sb7, marks_row (marks_row (mkV.later (below_alloc' _ _)) hg7 hbqA) gS hbt6, Nat.le_trans sz6 gS.size,
              ((below_c' blV (below_alloc' _ _)).grown hg7 (by simp; omega) (fun r e => by cases e; omega)).grown gS (by omega) (fun r e => by cases e; omega)⟩
            · rw [List.map_append, List.foldl_append, e1]
              exact s0
            · have e7 : nats (u :: (t' ++ [x.1.val])) = nats (u :: t') ++ [Value.int .i64 ((x.1.val : Nat) : Int)] := by simp
              rw [e7]
              exact hq6.kept gS (by rw [hv7b]; simp; omega)
          · have hneg' : 0 ≤ at1 d' x.1.val := by omega
            gi_wp2
            obtain ⟨d'', t'', s1, s2, s3, s4, s5, s6⟩ := hst.out
            have s0 : bfsStep u (d', u :: t') x.1.val = (d', u :: t') := by unfold bfsStep; exact if_neg (show ¬ at1 d' x.1.val < 0 by omega)
            rw [s0] at s1
            obtain ⟨rfl, e⟩ := Prod.mk.inj s1
            obtain ⟨_, rfl⟩ := List.cons.inj e
            refine ⟨KeepsOthers.refl _, rfl, ?_⟩
            refine ⟨d', t', _, ?_, s2, b1, o1, o2, b2, q1, sb, mk, sz, bl⟩
            rw [List.map_append, List.foldl_append, e1]
            exact s0
        case done =>
          rintro D xs W' hD hxs ⟨d', t', tv', e1, e2, b1, o1, o2, b2, q1, sb, mk, sz, bl⟩ hK
          have c1 := b1.cell
          have c2 := b2.cell
          obtain ⟨bq', oq', cq', rfl, hq1', hq2', hqc'⟩ := q1.head
          simp only [List.length_map] at q1 b2 c2 hq1'
          unfold maxLen at hq2'
          have hxm : xs.map (fun (x : PtIn s) => x.1.val) = (elems s).map (·.val) := by rw [← hxs, List.map_map]; rfl
          obtain ⟨d'', t'', r1, r2, r3⟩ := bfs_round hn8 HAB.out hbfs
          rw [HSe.out, ← hxm, e1] at r1
          obtain ⟨rfl, e⟩ := Prod.mk.inj r1
          obtain ⟨_, rfl⟩ := List.cons.inj e
          have hDs : w4.heap.size ≤ D := by simp at hD; omega
          have hmk' : Marks w4.heap.size W' ({ target := .collected D, args := #[] } :: ds) := .cons hDs hK (fun dd hd e => by
            obtain ⟨D', g1, g2⟩ := hmk.old dd hd
            rw [g1] at e
            simp at e hD
            omega) mk
          gi_wp2
          · subst h
            refine ⟨_, r3, _, _, d', t', _, ⟨rfl, rfl⟩, rfl, r2, b1.alloc _, owns_later o1 (below_alloc' _ _), owns_later o2 (below_alloc' _ _), Boxed.new _ _ _, by omega, ?_, below_c' bl (below_alloc' _ _), by omega, hmk'.later (below_alloc' _ _)⟩
            exact q1.tail1.kept (World.grownBy_alloc _ _ none) (by simp [Value.ownBlock])
          · refine ⟨_, r3, _, _, d', t', _, ⟨rfl, rfl⟩, rfl, r2, b1.alloc _, owns_later o1 (below_alloc' _ _), owns_later o2 (below_alloc' _ _), Boxed.new _ _ _, by omega, ?_, below_c' bl (below_alloc' _ _), by omega, hmk'.later (below_alloc' _ _)⟩
            exact (q1.tail2 h).kept (World.grownBy_alloc _ _ none) (by simp [Value.ownBlock])
        case stop =>
          rintro D c pre W' _ _ h _
          exact h.elim

end Go.Proofs.YtlfinlfmlnclhaaDoor
