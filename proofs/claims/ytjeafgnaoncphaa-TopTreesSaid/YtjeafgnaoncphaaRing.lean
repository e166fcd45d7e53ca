/- What walk.Ring returns: the walk. Conditions: in each statement. -/
import Derived.Test.YtjeafgnaoncphaaFrom
import Derived.Test.YtjeafgnaoncphaaPlainA
import Derived.Test.YtjeafgnaoncphaaFlex
namespace Go.Proofs.Ytjeafgnaoncphaa
open Go.RowKit Go.Shelf Gr
attribute [local go_sem] Oper.semAt_some

/-- between two rounds of the loop over the points beside a -/
def RingI (O : List Nat) (n ai s gs caps Ba Bs : Nat) (w4 : World) (ds : List Deferred) (pre : List (PtIn s)) (W' : World) : Prop :=
  ∃ k : Int, BestIs O n (fun x y => (x < ai ∧ adjS O x y) ∨ (x = ai ∧ ∃ z ∈ pre, z.1.val = y)) k ∧ Boxed W' w4.heap.size 62 (.slice (some ⟨gs, 0, none⟩) n caps) ∧
    Boxed W' (w4.heap.size + 1) 3 (.int .i64 k) ∧ Boxed W' Ba 3 (.int .i64 (ai : Int)) ∧ Boxed W' Bs 65 (.int .u64 (s : Int)) ∧ Marks w4.heap.size W' ds ∧ Below w4.heap.size w4 W'

/-- between two rounds of the innermost loop -/
def RingI2 (C : List Nat) (nw Bn Bs : Nat) (wr : World) (pre : List (PtIn nw)) (W' : World) : Prop :=
  Boxed W' Bn 65 (.int .u64 ((orAll C (pre.map fun x => x.1.val) : Nat) : Int)) ∧ Boxed W' Bs 65 (.int .u64 (nw : Int)) ∧ Below wr.heap.size wr W'

theorem grownBy_setCell_drew (W : World) (b : Nat) (v : Value) : W.grownBy (W.setCell ⟨b, 0, none⟩ v).drew (some b) :=
  ⟨(grownBy_setCell_at W b 0 v).os, (grownBy_setCell_at W b 0 v).tape, (grownBy_setCell_at W b 0 v).output, (grownBy_setCell_at W b 0 v).size, (grownBy_setCell_at W b 0 v).block⟩

theorem keepsBlock_set {X W : World} {B b : Nat} {u : Value} (h : KeepsBlock B X W) (hne : B ≠ b) : KeepsBlock B X (W.setCell ⟨b, 0, none⟩ u) :=
  (show _ = _ from heap_setCell_other W ⟨b, 0, none⟩ B u hne).trans h

theorem setsOf_one (O : List Nat) : ∀ u ∈ setsOf O, u.oneCell' = true := by
  intro u hu
  obtain ⟨x, _, rfl⟩ := List.mem_map.1 hu
  rfl

set_option pp.deepTerms true in
set_option pp.maxSteps 1000000 in
set_option maxRecDepth 100000 in
set_option maxHeartbeats 4000000 in
theorem ring_ok (n : Nat) (v : Value) (ls : List Ln) (w : World) (hr : LinesRd w v ls) (hg : GoodG n ls) :
    Calls Try.prog 26 #[.int .i64 n, v] w fun e w' => ∃ k : Int, e = .returned (.tuple #[.int .i64 k, .nilIface]) ∧ BestIs (beside n ls) n (adjS (beside n ls)) k ∧ Below w.heap.size w w' := by
  obtain ⟨i0, hi, hz0, hz1, hz2⟩ := info_parts info_set
  have HG := Lib.hid hg
  have HC : Hid (errOf (chk n ls) = .nilIface) := by show _ = _; rw [chk_good hg]; rfl
  have hn8 : n ≤ 8 := hg.2.1
  have hlen : (beside n ls).length = n := beside_length n ls
  have h1 : 1 ≤ 20 := by omega
  clear hg
  refine (callsIn_wide (n := 20)).1 ?_
  refine callsIn_of_wp_marks Try.func26 rfl trivial ?_ rfl
  simp only [Try.ntmps26, List.size_toArray, List.length_cons, List.length_nil, Nat.reduceAdd, Nat.reduceSub, Array.replicate_succ, Array.replicate_zero, List.push_toArray, List.append_toArray, List.nil_append, List.cons_append]
  gi_wp2_with fail
  refine ⟨trivial, ?_⟩
  refine (callsIn_wide.2 (graphCheck_any n v ls _ hr)).mono ?_
  rintro e w1 ⟨rfl, hB1⟩
  rw [HC.out]
  gi_wp2_with fail
  refine ⟨trivial, ?_⟩
  refine (callsIn_wide.2 (coreBeside_any n v ls _ (hr.later hB1) HG.out)).mono ?_
  rintro e w4 ⟨gs, caps, rfl, hos, hB4, hS⟩
  have hB04 := below_c hB1 hB4
  have HS := Lib.hid hS
  have HAB := Lib.hid (adj_bounded HG.out)
  have HNE : Hid (∀ i j, adjS (beside n ls) i j → i ≠ j) := fun i j h => adj_ne HG.out h
  clear hS
  generalize hOe : beside n ls = O at hlen hos HS HAB HNE
  have HOe := Lib.hid hOe
  clear hOe
  gi_wp2_with fail
  have hgs : gs < w4.heap.size := (hos.lt gs rfl).2
  have hbx1 : Boxed ((w4.alloc (.cells #[.slice (some ⟨gs, 0, none⟩) n caps] 62)).alloc (.cells #[.int .i64 0] 3)) (w4.heap.size + 1) 3 (.int .i64 0) := by
    have := Boxed.new (w4.alloc (.cells #[.slice (some ⟨gs, 0, none⟩) n caps] 62)) 3 (.int .i64 0); rwa [World.size_alloc] at this
  refine loop_ghost (fun m a W => ∃ (ai : Nat) (k : Int) (ds : List Deferred) (y9 y28 y29 y30 y31 y32 y33 y34 y100 : Value),
    a = { tmps := #[.int .i64 (n : Int), v, undef, undef, .int .i64 0, .nilIface, .nilIface, .pointer (some ⟨w4.heap.size, 0, none⟩), .pointer (some ⟨w4.heap.size + 1, 0, none⟩), y9, undef, undef, undef, undef, undef, undef, undef, .int .i64 (n : Int), v, .nilIface, .nilIface, .bool false, undef, .int .i64 (n : Int), v, .slice (some ⟨gs, 0, none⟩) n caps, .int .i64 (n : Int), .int .i64 (ai : Int), y28, y29, y30, y31, y32, y33, y34, undef, undef, undef, undef, undef, undef, undef, undef, undef, undef, undef, undef, undef, undef, undef, undef, undef, undef, undef, undef, undef, undef, undef, undef, undef, undef, undef, undef, undef, undef, undef, undef, undef, undef, undef, undef, undef, undef, undef, undef, undef, undef, undef, undef, undef, undef, undef, undef, undef, undef, undef, undef, undef, undef, undef, undef, undef, undef, undef, undef, undef, undef, undef, undef, undef, y100, undef], defers := ds } ∧ m = n - ai ∧ ai ≤ n ∧ BestIs O n (fun x y => x < ai ∧ adjS O x y) k ∧
    Boxed W w4.heap.size 62 (.slice (some ⟨gs, 0, none⟩) n caps) ∧ Boxed W (w4.heap.size + 1) 3 (.int .i64 k) ∧ Below w4.heap.size w4 W ∧ Marks w4.heap.size W ds) _
    ⟨0, 0, [], undef, undef, undef, undef, undef, undef, undef, undef, undef, rfl, rfl, Nat.zero_le _, BestIs.none O n (fun a b h => by omega), (Boxed.new _ _ _).alloc _, hbx1, below_c (below_alloc' _ _) (below_alloc' _ _), .nil⟩ ?_
  rintro m a W ⟨ai, k, ds, y9, y28, y29, y30, y31, y32, y33, y34, y100, rfl, rfl, hai, hbest, hbs, hbb, hB, hmk⟩
  have hbsc := hbs.cell
  have hbbc := hbb.cell
  have hosW := owns_later hos hB
  have hszW : w4.heap.size + 1 < W.heap.size := hbb.lt
  by_cases hlt : ai < n
  · have hlti : (ai : Int) < (n : Int) := by omega
    have hao : ai < O.length := by omega
    have hsa := owns_at hosW (setsOf_get hao)
    have hW5 := below_alloc' W (.cells #[.int .i64 (ai : Int)] 3)
    have hsa2 : (W.alloc (.cells #[.int .i64 (ai : Int)] 3)).cell? ⟨gs, ai, none⟩ = some (.int .u64 ((O[ai] : Nat) : Int)) := (hW5.cell (p := ⟨gs, ai, none⟩) (by simp; omega)).trans hsa
    have hbs2 := hbs.alloc (.cells #[.int .i64 (ai : Int)] 3)
    have hbsc2 := hbs2.cell
    have hba2 := Boxed.new W 3 (.int .i64 (ai : Int))
    have hbac2 := hba2.cell
    have hs := HS.out _ (List.getElem_mem hao)
    have hSe : O[ai]?.getD 0 = O[ai] := by rw [List.getElem?_eq_getElem hao]; rfl
    generalize O[ai] = s at hsa hsa2 hs hSe
    have HSe := Lib.hid hSe
    clear hSe
    gi_wp2_with fail
    refine ⟨trivial, ?_⟩
    refine (callsIn_wide.2 (each_any s _)).mono ?_
    rintro e w' ⟨rfl, rfl⟩
    gi_wp2_with fail
    have hBs : Boxed ((W.alloc (.cells #[.int .i64 (ai : Int)] 3)).alloc (.cells #[.int .u64 (s : Int)] 65)) (W.heap.size + 1) 65 (.int .u64 (s : Int)) := by
      have := Boxed.new (W.alloc (.cells #[.int .i64 (ai : Int)] 3)) 65 (.int .u64 (s : Int)); rwa [World.size_alloc] at this
    refine wpIn_rangeFunc_ownH rfl h1 (gf := 67) (lb := #[.pointer (some ⟨W.heap.size + 1, 0, none⟩)]) rfl trivial (enters_of Try.func67 (by kernel_rfl) rfl)
      (each_stopsIn 19 (by omega) (W.heap.size + 1) s hs _ hBs (by simp)) (fun h k => keepsBlock_t h k) (keepsBlock_b (by simp)) (Below.refl _ _) (fun _ => rfl)
      (RingI O n ai s gs caps W.heap.size (W.heap.size + 1) w4 ds) (fun _ _ _ => False) ?hI (fun _ _ _ _ _ hs _ _ => hs) ?h0
      (fun x a' _ => a' = { tmps := #[.int .i64 (n : Int), v, undef, undef, .int .i64 0, .nilIface, .nilIface, .pointer (some ⟨w4.heap.size, 0, none⟩), .pointer (some ⟨w4.heap.size + 1, 0, none⟩), .pointer (some ⟨W.heap.size, 0, none⟩), .int .i64 ((x.1.val : Nat) : Int), undef, undef, undef, undef, undef, undef, .int .i64 (n : Int), v, .nilIface, .nilIface, .bool false, undef, .int .i64 (n : Int), v, .slice (some ⟨gs, 0, none⟩) n caps, .int .i64 (n : Int), .int .i64 (ai : Int), .bool true, .int .i64 (ai : Int), .slice (some ⟨gs, 0, none⟩) n caps, .int .i64 (ai : Int), .pointer (some ⟨gs, ai, none⟩), .int .u64 (s : Int), .func (.func 67) #[] #[.pointer (some ⟨W.heap.size + 1, 0, none⟩)], .int .i64 ((x.1.val : Nat) : Int), undef, undef, undef, undef, undef, undef, undef, undef, undef, undef, undef, undef, undef, undef, undef, undef, undef, undef, undef, undef, undef, undef, undef, undef, undef, undef, undef, undef, undef, undef, undef, undef, undef, undef, undef, undef, undef, undef, undef, undef, undef, undef, undef, undef, undef, undef, undef, undef, undef, undef, undef, undef, undef, undef, undef, undef, undef, undef, undef, undef, undef, undef, undef, undef, y100, undef], defers := [] }) (fun _ _ _ _ _ _ hs _ _ => hs) ?assign ?body ?done ?stop
    case hI =>
      rintro pre A A' row ⟨k', e1, b1, b2, b3, b4, mk, bl⟩ hg hr
      have hr2 : ∀ r, row = some r → ∃ o : Obj, A.heap[r]? = some o ∧ o.isCells = false := fun r e => (hr r e).2
      refine ⟨k', e1, boxed_k b1 hg hr2, boxed_k b2 hg hr2, boxed_k b3 hg hr2, boxed_k b4 hg hr2, marks_k mk hg (fun r e => (hr r e).1) (fun dd hd => ?_), bl.grown hg bl.size (fun r e => ?_)⟩
      · obtain ⟨D, hD1, hD2⟩ := hmk.old dd hd
        exact ⟨D, hD1, by simp; omega⟩
      · have := (hr r e).1; simp at this; omega
    case h0 =>
      exact ⟨k, hbest.mono (fun x y => by simp), hbs2.alloc _, (hbb.alloc _).alloc _, hba2.alloc _, hBs, (hmk.later (below_alloc' _ _)).later (below_alloc' _ _), below_c' (below_c' hB (below_alloc' _ _)) (below_alloc' _ _) (by simp; omega)⟩
    case assign =>
      intro l pre x W' K hi hK
      gi_wp2
      exact hK _ _ (KeepsFrom.refl _ _) rfl hi rfl
    case body =>
      rintro l pre x a' X hl hrec ⟨k', e1, b1, b2, b3, b4, mk, bl⟩ rfl hpl
      have c1 := b1.cell
      have c2 := b2.cell
      have c3 := b3.cell
      have hadj : adjS O ai x.1.val := by unfold adjS; rw [HSe.out]; exact x.2
      have hxn : x.1.val < n := (HAB.out _ _ hadj).2
      have hne := HNE.out _ _ hadj
      have hosX := owns_later hos bl
      have hX1 := below_alloc' X (.cells #[] 65)
      have c1A : (X.alloc (.cells #[] 65)).cell? ⟨w4.heap.size, 0, none⟩ = some (.slice (some ⟨gs, 0, none⟩) n caps) := (b1.alloc _).cell
      gi_wp2_with (gi_at_builtin; refine wpListIn_append_own_at _ rfl _ _ 62 rfl X.heap.size 65 i0 (.int .u64 0) 1 8 Try.underlying62 hi hz0 hz1 hz2 rfl (by decide) _ 0 [] rfl (owns_empty rfl (Nat.le_refl _)) ⟨gs, 0, none⟩ n caps (setsOf O) rfl (by rw [setsOf_length]; omega) ((owns_later hosX hX1).cells rfl) (setsOf_one O) (by unfold maxLen; omega) (by omega) (by simp) ?_; intro v6 w6 hown6 hgr6' hnil6 hat6; have hgr6 : (X.alloc (.cells #[] 65)).grownBy w6 (some X.heap.size) := hgr6'; clear hgr6' hnil6 hat6; rw [Nat.zero_add, List.nil_append] at hown6; obtain ⟨gc, capc, rfl, hgc1, hgc2⟩ := owns_form hown6 (by omega))
      have hB6 : Below X.heap.size X w6 := hX1.grown hgr6 (by simp) (fun r e => by cases e; exact Nat.le_refl _)
      have hBX1 := below_c hB6 (below_alloc' w6 (.cells #[.slice (some ⟨gc, 0, none⟩) n capc] 62))
      have ownX1 := owns_later hown6 (below_alloc' w6 (.cells #[.slice (some ⟨gc, 0, none⟩) n capc] 62))
      have bcX1 := Boxed.new w6 62 (.slice (some ⟨gc, 0, none⟩) n capc)
      have hgcB : gc < w6.heap.size := hgc2
      generalize hX1e : w6.alloc (.cells #[.slice (some ⟨gc, 0, none⟩) n capc] 62) = X1 at *
      have hxo : x.1.val < O.length := by omega
      have hOa : O[ai]?.getD 0 = s := HSe.out
      have hOa' : O[ai] = s := by rw [← hOa, List.getElem?_eq_getElem hao]; rfl
      have ccX := bcX1.cell
      have caX : X1.cell? ⟨W.heap.size, 0, none⟩ = some (.int .i64 (ai : Int)) := (hBX1.cell (p := ⟨W.heap.size, 0, none⟩) b3.lt).trans c3
      have cga := owns_at ownX1 (setsOf_get hao)
      rw [hOa'] at cga
      have cgb := owns_at ownX1 (setsOf_get hxo)
      have fga := ownX1.frozenAt ai
      have fgb := ownX1.frozenAt x.1.val
      have hsb := HS.out _ (List.getElem_mem hxo)
      have hOb : O[x.1.val]?.getD 0 = O[x.1.val] := by rw [List.getElem?_eq_getElem hxo]; rfl
      generalize hsbe : O[x.1.val] = sb at *
      have hai8 : ai < 8 := by omega
      have hx8 : x.1.val < 8 := x.1.isLt
      have hxi : (x.1.val : Int) < (n : Int) := by omega
      obtain ⟨U1, hU1⟩ : ∃ U1, U1 = (X1.setCell ⟨gc, ai, none⟩ (.int .u64 ((diff s (2 ^ x.1.val) : Nat) : Int))).drew := ⟨_, rfl⟩
      have ccU : U1.cell? ⟨w6.heap.size, 0, none⟩ = some (.slice (some ⟨gc, 0, none⟩) n capc) := by
        rw [hU1]; exact (bcX1.kept (grownBy_setCell_at X1 gc ai _) (by simp; omega)).cell
      have ownU0 := ownX1.stored ai (.int .u64 ((diff s (2 ^ x.1.val) : Nat) : Int))
      obtain ⟨ownU, _⟩ := ownU0
      rw [setsOf_set] at ownU
      have ownU1 : U1.ownsRow X.heap.size 65 1 (.slice (some ⟨gc, 0, none⟩) n capc) n (setsOf (O.set ai (diff s (2 ^ x.1.val)))) := by rw [hU1]; exact ownU.drew
      have HU1 := Lib.hid hU1
      clear hU1
      have hxo2 : x.1.val < (O.set ai (diff s (2 ^ x.1.val))).length := by simpa using hxo
      have cgU := owns_at ownU1 (setsOf_get hxo2)
      have fgU := ownU1.frozenAt x.1.val
      refine region_flex_in (wide_wide.inRound l) (V := fun k => if k = 0 then X1.drew else if k = 1 then U1 else U1.setCell ⟨gc, x.1.val, none⟩ (.int .u64 ((diff sb (2 ^ ai) : Nat) : Int)))
        [(true, 0), (true, 0), (true, 1), (true, 1), (true, 0), (true, 0), (true, 0), (true, 0), (true, 0), (true, 0), (true, 0), (true, 0), (true, 0), (true, 0), (true, 0), (true, 0), (true, 0), (false, 0), (true, 1), (false, 1)] 2 (U1.setCell ⟨gc, x.1.val, none⟩ (.int .u64 ((diff sb (2 ^ ai) : Nat) : Int))) (by kernel_rfl) rfl (by kernel_rfl) (by kernel_rfl) (by kernel_rfl) (by kernel_rfl) ?calm rfl rfl ?_
      case calm =>
        refine calm_cons (calm_load rfl) (calm_cons (calm_load rfl) (calm_cons (calm_load rfl) (calm_cons (calm_move rfl) (calm_cons (calm_load rfl) (calm_cons (calm_load rfl) (calm_cons (calm_index rfl) (calm_cons (calm_load rfl) (calm_cons (calm_move rfl) (calm_cons (calm_call _ _ _ rfl (enters_of Try.func40 (by kernel_rfl) rfl)) (calm_cons (calm_load rfl) (calm_cons (calm_move rfl) (calm_cons (calm_index rfl) (calm_cons (calm_load rfl) (calm_cons (calm_load rfl) (calm_cons (calm_call _ _ _ rfl (enters_of Try.func40 (by kernel_rfl) rfl)) (calm_cons (calm_index rfl) (calm_cons (calm_store rfl) (calm_cons (calm_index rfl) (calm_cons (calm_store rfl) calm_nil)))))))))))))))))))
      repeat (refine fx_y0 X1.drew rfl (fun K hK => ?_); go_simp; refine hK _ ?_; clear hK K)
      repeat (refine fx_y1 X1.drew U1 rfl rfl (fun K hK => ?_); go_simp; refine hK _ ?_ ?_; (go_simp; try rfl); clear hK K)
      repeat (refine fx_y0 X1.drew rfl (fun K hK => ?_); go_simp; refine hK _ ?_; clear hK K)
      refine fx_y0 X1.drew rfl (fun K hK => ?_); go_simp; refine ⟨_, still_of (without_any s x.1.val _ (by omega) (by omega)), hK _ ?_⟩; clear hK K
      repeat (refine fx_y0 X1.drew rfl (fun K hK => ?_); go_simp; refine hK _ ?_; clear hK K)
      refine fx_y0 X1.drew rfl (fun K hK => ?_); go_simp; refine ⟨_, still_of (without_any sb ai _ (by omega) (by omega)), hK _ ?_⟩; clear hK K
      repeat (refine fx_y0 X1.drew rfl (fun K hK => ?_); go_simp; refine hK _ ?_; clear hK K)
      refine fx_s X1.drew U1 rfl rfl rfl (fun K hK => ?_) ?_
      · rw [HU1.out] at hK
        go_simp
        exact hK
      refine fx_y1 X1.drew U1 rfl rfl (fun K hK => ?_); go_simp; refine hK _ ?_ ?_; (go_simp; try rfl); clear hK K
      refine fx_s U1 (U1.setCell ⟨gc, x.1.val, none⟩ (.int .u64 ((diff sb (2 ^ ai) : Nat) : Int))) rfl rfl rfl (fun K hK => ?_) ?_
      · go_simp
        exact hK
      simp only [fxRun]
      have ownU2 : (U1.setCell ⟨gc, x.1.val, none⟩ (.int .u64 ((diff sb (2 ^ ai) : Nat) : Int))).ownsRow X.heap.size 65 1 (.slice (some ⟨gc, 0, none⟩) n capc) n (setsOf (cutS O ai x.1.val)) := by
        have h := (ownU1.stored x.1.val (.int .u64 ((diff sb (2 ^ ai) : Nat) : Int))).1
        rw [setsOf_set] at h
        unfold cutS
        rw [hOa, hOb]
        exact h
      have bcU2 : Boxed (U1.setCell ⟨gc, x.1.val, none⟩ (.int .u64 ((diff sb (2 ^ ai) : Nat) : Int))) w6.heap.size 62 (.slice (some ⟨gc, 0, none⟩) n capc) := by
        refine Boxed.kept ?_ (grownBy_setCell_at U1 gc x.1.val _) (by simp; omega)
        rw [HU1.out]
        have hb := bcX1.kept (grownBy_setCell_at X1 gc ai (.int .u64 ((diff s (2 ^ x.1.val) : Nat) : Int))) (by simp; omega)
        exact hb
      have hBX2 : Below X.heap.size X (U1.setCell ⟨gc, x.1.val, none⟩ (.int .u64 ((diff sb (2 ^ ai) : Nat) : Int))) := by
        rw [HU1.out]
        exact (((hBX1.setCell (p := ⟨gc, ai, none⟩) hgc1 _).drew).setCell (p := ⟨gc, x.1.val, none⟩) hgc1 _)
      clear cgU fgU ownU1 ccU hsb ownU HU1 cgb fgb fga cga caX ccX
      generalize U1.setCell ⟨gc, x.1.val, none⟩ (.int .u64 ((diff sb (2 ^ ai) : Nat) : Int)) = U2 at *
      clear bcX1 ownX1 hBX1 hX1e hB6 hown6 hgr6
      have hCs : Small (cutS O ai x.1.val) := cutS_small HS.out
      have hCl : (cutS O ai x.1.val).length = n := by rw [cutS_length]; exact hlen
      obtain ⟨D, hD⟩ := exists_dist hn8 (cutS_bounded HAB.out hao hxo hne) hlt (O := cutS O ai x.1.val)
      have HD := Lib.hid hD
      have hl00 := lvl_start hD
      rw [Nat.zero_or] at hl00
      have hl0 := Lib.hid hl00
      clear hl00
      have hDa : ¬ (0 ≤ at1 D x.1.val ∧ at1 D x.1.val < ((0 : Nat) : Int)) := by omega
      have HN0 := Lib.hid hDa
      have HCs := Lib.hid hCs
      clear hD hDa hCs
      generalize hCe : cutS O ai x.1.val = C at ownU2 hCl HCs
      have HCe := Lib.hid hCe
      have HD' : Hid (IsDist C n ai D) := by show IsDist _ _ _ _; rw [← hCe]; exact HD.out
      clear hCe
      have hsX2 := hBX2.size
      have caU2 : U2.cell? ⟨W.heap.size, 0, none⟩ = some (.int .i64 (ai : Int)) := (hBX2.cell (p := ⟨W.heap.size, 0, none⟩) b3.lt).trans c3
      gi_wp2_with fail
      refine ⟨trivial, ?_⟩
      refine ((wide_wide.inRound l).calls _ _ _ _ _ _ (with_any 0 ai _ (by omega) (by omega))).mono ?_
      rintro e w' ⟨rfl, rfl⟩
      gi_wp2_with fail
      gi_loopw [12, 13, 14] (fun far seen now wr => ∃ kk nw sn : Nat, far = .int .i64 (kk : Int) ∧ seen = .int .u64 (sn : Int) ∧ now = .int .u64 (nw : Int) ∧ nw < 256 ∧ sn < 256 ∧ kk ≤ n ∧ Hid (Lvl D kk nw sn) ∧ Hid (¬ (0 ≤ at1 D x.1.val ∧ at1 D x.1.val < (kk : Int))) ∧ Below U2.heap.size U2 wr) (fun far _ _ _ => n + 1 - (intOf far).toNat)
      case atStart => exact ⟨0, 2 ^ ai, 2 ^ ai, rfl, by first | rfl | simp, by first | rfl | simp, pow_small hai8, pow_small hai8, Nat.zero_le _, hl0, HN0, Below.refl _ _⟩
      case round =>
        obtain ⟨kk, nw, sn, rfl, rfl, rfl, hnw, hsn, hkk, HL, HN, hBr⟩ := hrel
        have hBXr := below_c hBX2 hBr
        have b1Y := boxed_later b1 hBXr
        have b2Y := boxed_later b2 hBXr
        have b3Y := boxed_later b3 hBXr
        have b4Y := boxed_later b4 hBXr
        have mkY := mk.later hBXr
        have blY := below_c' bl hBXr bl.size
        have c2Y := b2Y.cell
        have f2Y := b2Y.frozen
        have kfY0 : KeepsFrom ((W.alloc (.cells #[.int .i64 (ai : Int)] 3)).alloc (.cells #[.int .u64 (s : Int)] 65)).heap.size X wr := KeepsFrom.of_grownBy (below_iff_grown.1 hBXr) (fun j e => by cases e)
        have kbY0 : KeepsBlock (W.heap.size + 1) X wr := (show _ = _ from b4Y).trans (show _ = _ from b4).symm
        have hPs : ∀ a b, ((a < ai ∧ adjS O a b ∨ a = ai ∧ ∃ z, z ∈ pre ∧ z.1.val = b) ∨ a = ai ∧ b = x.1.val) ↔ (a < ai ∧ adjS O a b ∨ a = ai ∧ ∃ z, z ∈ pre ++ [x] ∧ z.1.val = b) := by
          intro a b
          constructor
          · rintro ((h | ⟨h, z, h1, h2⟩) | ⟨h1, h2⟩)
            · exact .inl h
            · exact .inr ⟨h, z, List.mem_append_left _ h1, h2⟩
            · exact .inr ⟨h1, x, by simp, h2.symm⟩
          · rintro (h | ⟨h, z, h1, h2⟩)
            · exact .inl (.inl h)
            · rcases List.mem_append.1 h1 with h1 | h1
              · exact .inl (.inr ⟨h, z, h1, h2⟩)
              · rw [List.mem_singleton] at h1; subst h1; exact .inr ⟨h, h2.symm⟩
        by_cases hz : nw = 0
        · have hzb : ((nw : Int) != 0) = false := by simp [hz]
          have HE := Lib.hid (lvl_end HD'.out HL.out HN.out (.inl hz))
          clear hz
          have gY : ∀ u, wr.grownBy (wr.setCell ⟨w4.heap.size + 1, 0, none⟩ u) (some (w4.heap.size + 1)) := fun u => grownBy_setCell_at wr (w4.heap.size + 1) 0 u
          have hbY : ∃ o : Obj, wr.heap[w4.heap.size + 1]? = some o ∧ o.isCells = true := ⟨_, b2Y, rfl⟩
          gi_wp2_with fail
          refine ⟨trivial, ?_⟩
          gi_wp2_with fail
          refine ⟨trivial, ?_⟩
          refine ((wide_wide.inRound l).calls _ _ _ _ _ _ (has_any sn x.1.val _ (by omega) (by omega))).mono ?_
          rintro e w' ⟨rfl, rfl⟩
          rcases HE.out with ⟨hs1, hs2⟩ | ⟨hs1, hs2⟩
          · have HS1 := Lib.hid hs1
            have HR : Hid (RV O n ai x.1.val (((kk + 1 : Nat)) : Int)) := ⟨D, HD.out, by rw [hs2]; omega⟩
            clear hs1 hs2
            rw [HS1.out]
            by_cases hk0 : k' = 0
            · have hkb : (k' == 0) = true := by simp [hk0]
              have HT := Lib.hid (e1.take HR.out (by omega) (.inl hk0))
              clear hk0
              gi_wp2
              exact ⟨kfY0.trans ((KeepsOthers.setCell _ _ _).from _), keepsBlock_set kbY0 (by omega), _, (HT.out.mono hPs), b1Y.kept (gY _) (by simp), b2Y.set _, b3Y.kept (gY _) (by simp; omega), b4Y.kept (gY _) (by simp; omega), marks_row mkY (gY _) hbY, blY.setCell (p := ⟨w4.heap.size + 1, 0, none⟩) (by simp) _⟩
            · have hkb : (k' == 0) = false := by simp [hk0]
              by_cases hk1 : ((kk + 1 : Nat) : Int) < k'
              · have HT := Lib.hid (e1.take HR.out (by omega) (.inr hk1))
                have hk1' : (kk : Int) + 1 < k' := by omega
                clear hk0 hk1
                gi_wp2
                exact ⟨kfY0.trans ((KeepsOthers.setCell _ _ _).from _), keepsBlock_set kbY0 (by omega), _, (HT.out.mono hPs), b1Y.kept (gY _) (by simp), b2Y.set _, b3Y.kept (gY _) (by simp; omega), b4Y.kept (gY _) (by simp; omega), marks_row mkY (gY _) hbY, blY.setCell (p := ⟨w4.heap.size + 1, 0, none⟩) (by simp) _⟩
              · have HT := Lib.hid (e1.skip HR.out (.inr ⟨hk0, by omega⟩))
                have hk1' : ¬ ((kk : Int) + 1 < k') := by omega
                clear hk0 hk1
                gi_wp2
                exact ⟨kfY0, kbY0, k', (HT.out.mono hPs), b1Y, b2Y, b3Y, b4Y, mkY, blY⟩
          · have HS1 := Lib.hid hs1
            have HT := Lib.hid (e1.skip (r := 0) ⟨D, HD.out, by rw [hs2]; omega⟩ (.inl rfl))
            clear hs1 hs2
            rw [HS1.out]
            gi_wp2
            exact ⟨kfY0, kbY0, k', (HT.out.mono hPs), b1Y, b2Y, b3Y, b4Y, mkY, blY⟩
        · have hzb : ((nw : Int) != 0) = true := by simp; omega
          cases hbit : nw.testBit x.1.val with
          | true =>
            have HE := Lib.hid (lvl_end HD'.out HL.out HN.out (.inr hbit))
            have HBt := Lib.hid hbit
            clear hbit
            have gY : ∀ u, wr.grownBy (wr.setCell ⟨w4.heap.size + 1, 0, none⟩ u) (some (w4.heap.size + 1)) := fun u => grownBy_setCell_at wr (w4.heap.size + 1) 0 u
            have hbY : ∃ o : Obj, wr.heap[w4.heap.size + 1]? = some o ∧ o.isCells = true := ⟨_, b2Y, rfl⟩
            gi_wp2_with fail
            refine ⟨trivial, ?_⟩
            refine ((wide_wide.inRound l).calls _ _ _ _ _ _ (has_any nw x.1.val _ (by omega) (by omega))).mono ?_
            rintro e w' ⟨rfl, rfl⟩
            rw [HBt.out]
            gi_wp2_with fail
            refine ⟨trivial, ?_⟩
            refine ((wide_wide.inRound l).calls _ _ _ _ _ _ (has_any sn x.1.val _ (by omega) (by omega))).mono ?_
            rintro e w' ⟨rfl, rfl⟩
            rcases HE.out with ⟨hs1, hs2⟩ | ⟨hs1, hs2⟩
            · have HS1 := Lib.hid hs1
              have HR : Hid (RV O n ai x.1.val (((kk + 1 : Nat)) : Int)) := ⟨D, HD.out, by rw [hs2]; omega⟩
              clear hs1 hs2
              rw [HS1.out]
              by_cases hk0 : k' = 0
              · have hkb : (k' == 0) = true := by simp [hk0]
                have HT := Lib.hid (e1.take HR.out (by omega) (.inl hk0))
                clear hk0
                gi_wp2
                exact ⟨kfY0.trans ((KeepsOthers.setCell _ _ _).from _), keepsBlock_set kbY0 (by omega), _, (HT.out.mono hPs), b1Y.kept (gY _) (by simp), b2Y.set _, b3Y.kept (gY _) (by simp; omega), b4Y.kept (gY _) (by simp; omega), marks_row mkY (gY _) hbY, blY.setCell (p := ⟨w4.heap.size + 1, 0, none⟩) (by simp) _⟩
              · have hkb : (k' == 0) = false := by simp [hk0]
                by_cases hk1 : ((kk + 1 : Nat) : Int) < k'
                · have HT := Lib.hid (e1.take HR.out (by omega) (.inr hk1))
                  have hk1' : (kk : Int) + 1 < k' := by omega
                  clear hk0 hk1
                  gi_wp2
                  exact ⟨kfY0.trans ((KeepsOthers.setCell _ _ _).from _), keepsBlock_set kbY0 (by omega), _, (HT.out.mono hPs), b1Y.kept (gY _) (by simp), b2Y.set _, b3Y.kept (gY _) (by simp; omega), b4Y.kept (gY _) (by simp; omega), marks_row mkY (gY _) hbY, blY.setCell (p := ⟨w4.heap.size + 1, 0, none⟩) (by simp) _⟩
                · have HT := Lib.hid (e1.skip HR.out (.inr ⟨hk0, by omega⟩))
                  have hk1' : ¬ ((kk : Int) + 1 < k') := by omega
                  clear hk0 hk1
                  gi_wp2
                  exact ⟨kfY0, kbY0, k', (HT.out.mono hPs), b1Y, b2Y, b3Y, b4Y, mkY, blY⟩
            · have HS1 := Lib.hid hs1
              have HT := Lib.hid (e1.skip (r := 0) ⟨D, HD.out, by rw [hs2]; omega⟩ (.inl rfl))
              clear hs1 hs2
              rw [HS1.out]
              gi_wp2
              exact ⟨kfY0, kbY0, k', (HT.out.mono hPs), b1Y, b2Y, b3Y, b4Y, mkY, blY⟩
          | false =>
            have HBt := Lib.hid hbit
            clear hbit
            have hkn := lvl_alive HD'.out HL.out hz
            have HNN : Hid (¬ (0 ≤ at1 D x.1.val ∧ at1 D x.1.val < ((kk + 1 : Nat) : Int))) := by
              show ¬ _
              intro h
              have h1 := HN.out
              have h2 : at1 D x.1.val ≠ (kk : Int) := fun e => by have := (HL.out.now x.1.val).2 e; rw [HBt.out] at this; cases this
              omega
            have HLL := Lib.hid (lvl_step hn8 HD'.out HL.out)
            have hor := HL.out.now
            have HLn := Lib.hid hor
            clear hor hz
            obtain ⟨r0, hr0⟩ := hrec
            have hBW := below_c hBXr (below_2 wr (.cells #[.int .u64 0] 65) (.cells #[.int .u64 (nw : Int)] 65))
            have hrW := (hBW.block l (Array.getElem?_eq_some_iff.1 hr0).1).trans hr0
            have hBn : Boxed ((wr.alloc (.cells #[.int .u64 0] 65)).alloc (.cells #[.int .u64 (nw : Int)] 65)) (wr.heap.size + 1) 65 (.int .u64 (nw : Int)) := by
              have := Boxed.new (wr.alloc (.cells #[.int .u64 0] 65)) 65 (.int .u64 (nw : Int)); rwa [World.size_alloc] at this
            gi_wp2_with fail
            refine ⟨trivial, ?_⟩
            refine ((wide_wide.inRound l).calls _ _ _ _ _ _ (has_any nw x.1.val _ (by omega) (by omega))).mono ?_
            rintro e w' ⟨rfl, rfl⟩
            rw [HBt.out]
            gi_wp2_with fail
            refine ⟨trivial, ?_⟩
            refine ((wide_wide.inRound l).calls _ _ _ _ _ _ (each_any nw _)).mono ?_
            rintro e w' ⟨rfl, rfl⟩
            gi_wp2_with fail
            refine wpIn_rangeFunc_ownN (l₀ := l) (r₀ := r0) rfl hrW (by omega) (gf := 67) (lb := #[.pointer (some ⟨wr.heap.size + 1, 0, none⟩)]) rfl trivial (enters_of Try.func67 (by kernel_rfl) rfl)
              ((each_stopsIn 17 (by omega) (wr.heap.size + 1) nw hnw _ hBn (by simp)).inRound l) (fun h k => keepsBlock_t h k) (keepsBlock_b (by simp)) (Below.refl _ _) (fun _ => rfl)
              (RingI2 C nw wr.heap.size (wr.heap.size + 1) wr) (fun _ _ _ => False) ?hI2 (fun _ _ _ _ _ hs _ _ => hs) ?h02
              (fun x2 a' _ => a' = { tmps := #[.int .i64 (n : Int), v, undef, undef, .int .i64 0, .nilIface, .nilIface, .pointer (some ⟨w4.heap.size, 0, none⟩), .pointer (some ⟨w4.heap.size + 1, 0, none⟩), .pointer (some ⟨W.heap.size, 0, none⟩), .int .i64 ((x.1.val : Nat) : Int), .pointer (some ⟨w6.heap.size, 0, none⟩), .int .i64 (kk : Int), .int .u64 (sn : Int), .int .u64 (nw : Int), .pointer (some ⟨wr.heap.size, 0, none⟩), .int .i64 ((x2.1.val : Nat) : Int), .int .i64 (n : Int), v, .nilIface, .nilIface, .bool false, undef, .int .i64 (n : Int), v, .slice (some ⟨gs, 0, none⟩) n caps, .int .i64 (n : Int), .int .i64 (ai : Int), .bool true, .int .i64 (ai : Int), .slice (some ⟨gs, 0, none⟩) n caps, .int .i64 (ai : Int), .pointer (some ⟨gs, ai, none⟩), .int .u64 (s : Int), .func (.func 67) #[] #[.pointer (some ⟨W.heap.size + 1, 0, none⟩)], .int .i64 ((x.1.val : Nat) : Int), .slice (some ⟨X.heap.size, 0, none⟩) 0 0, .slice (some ⟨gs, 0, none⟩) n caps, .slice (some ⟨gc, 0, none⟩) n capc, .slice (some ⟨gc, 0, none⟩) n capc, .int .i64 (ai : Int), .slice (some ⟨gc, 0, none⟩) n capc, .int .i64 ((x.1.val : Nat) : Int), .slice (some ⟨gc, 0, none⟩) n capc, .int .i64 (ai : Int), .pointer (some ⟨gc, ai, none⟩), .int .u64 (s : Int), .int .i64 ((x.1.val : Nat) : Int), .int .u64 ((diff s (2 ^ x.1.val) : Nat) : Int), .slice (some ⟨gc, 0, none⟩) n capc, .int .i64 ((x.1.val : Nat) : Int), .pointer (some ⟨gc, x.1.val, none⟩), .int .u64 (sb : Int), .int .i64 (ai : Int), .int .u64 ((diff sb (2 ^ ai) : Nat) : Int), .pointer (some ⟨gc, ai, none⟩), .pointer (some ⟨gc, x.1.val, none⟩), .int .i64 (ai : Int), .int .u64 ((2 : Int) ^ ai), .int .u64 ((2 : Int) ^ ai), .int .u64 (nw : Int), .bool true, .bool true, .int .u64 (nw : Int), .int .i64 ((x.1.val : Nat) : Int), .bool false, .bool true, .bool true, u68, u69, .int .u64 (nw : Int), .func (.func 67) #[] #[.pointer (some ⟨wr.heap.size + 1, 0, none⟩)], .int .i64 ((x2.1.val : Nat) : Int), u73, u74, u75, u76, u77, u78, u79, u80, u81, u82, u83, u84, undef, undef, undef, undef, undef, undef, undef, undef, undef, undef, undef, undef, undef, undef, undef, y100, undef], defers := [] }) (fun _ _ _ _ _ _ hs _ _ => hs) ?assign2 ?body2 ?done2 ?stop2
            case hI2 =>
              rintro pre2 A A' row ⟨i1, i2, i3⟩ hg hr
              have hr2 : ∀ r, row = some r → ∃ o : Obj, A.heap[r]? = some o ∧ o.isCells = false := fun r e => (hr r e).2
              refine ⟨boxed_k i1 hg hr2, boxed_k i2 hg hr2, i3.grown hg i3.size (fun r e => ?_)⟩
              have := (hr r e).1; simp at this; omega
            case h02 =>
              exact ⟨(Boxed.new wr 65 (.int .u64 0)).alloc _, hBn, below_2 wr _ _⟩
            case assign2 =>
              intro l2 pre2 x2 W2 K hi hK
              gi_wp2
              exact hK _ _ (KeepsFrom.refl _ _) rfl hi rfl
            case body2 =>
              rintro l2 pre2 x2 a2 W2 hl2 hrec2 ⟨i1, i2, i3⟩ rfl hpl2
              have hx2n : x2.1.val < n := by
                have h1 := (HLn.out x2.1.val).1 x2.2
                have h2 := at1_in (d := D) (i := x2.1.val) (by omega)
                rwa [HD'.out.len] at h2
              have hx2c : x2.1.val < C.length := by omega
              have hx2i : (x2.1.val : Int) < (n : Int) := by omega
              have d1 := i1.cell
              have f1 := i1.frozen
              have hB2r := below_c' hBr i3 hBr.size
              have d2 := (boxed_later bcU2 hB2r).cell
              have d3 := owns_at (owns_later ownU2 hB2r) (setsOf_get hx2c)
              have hCx := HCs.out _ (List.getElem_mem hx2c)
              have hCg : C[x2.1.val]?.getD 0 = C[x2.1.val] := by rw [List.getElem?_eq_getElem hx2c]; rfl
              have hor := orAll_small HCs.out (pre2.map fun z => z.1.val)
              have hsn2 := orAll_snoc C (pre2.map fun z => z.1.val) x2.1.val
              rw [hCg] at hsn2
              have HSN := Lib.hid hsn2
              clear hsn2 hCg
              generalize C[x2.1.val] = cx at *
              have hbo := bits_or_u64_nat (orAll C (pre2.map fun z => z.1.val)) cx (by omega) (by omega)
              have HSN' : Hid (orAll C ((pre2 ++ [x2]).map fun z => z.1.val) = orAll C (pre2.map fun z => z.1.val) ||| cx) := by
                show _ = _; rw [List.map_append, List.map_cons, List.map_nil]; exact HSN.out
              clear HSN
              generalize orAll C (pre2.map fun z => z.1.val) = oa at *
              clear hor
              gi_wp2
              refine region_tail_in ((wide_wide.inRound l).inRound l2) 6 (by kernel_rfl) (by kernel_rfl) ?_ ?_
              · refine calm_cons (calm_load rfl) (calm_cons (calm_load rfl) (calm_cons (calm_move rfl) (calm_cons (calm_index rfl) (calm_cons (calm_load rfl) (calm_cons (calm_bin rfl) (calm_cons (calm_store rfl) calm_nil))))))
              simp only [List.take_succ_cons, List.take_zero, List.drop_succ_cons, List.drop_zero]
              change wpStill _ _ (World.drew _) _ _ _
              repeat still_step
              refine wpStill_nil ?_
              change wpList _ _ _ _ _ (World.drew _)
              go_wp2
              refine ⟨((KeepsOthers.setCell W2 _ _).trans (KeepsOthers.drew _)).from _, (show _ = _ from (i2.kept (grownBy_setCell_drew W2 wr.heap.size _) (by simp))).trans (show _ = _ from i2).symm, ?_, i2.kept (grownBy_setCell_drew W2 wr.heap.size _) (by simp), (i3.setCell (p := ⟨wr.heap.size, 0, none⟩) (Nat.le_refl _) _).drew⟩
              rw [HSN'.out]
              try rw [hbo]
              show (W2.setCell ⟨wr.heap.size, 0, none⟩ _).heap[wr.heap.size]? = _
              exact i1.set _
            case done2 =>
              rintro xs W2 hxs ⟨i1, i2, i3⟩
              have hxm : xs.map (fun (z : PtIn nw) => z.1.val) = (elems nw).map (·.val) := by rw [← hxs, List.map_map]; rfl
              rw [hxm] at i1
              have d1 := i1.cell
              have hor := orAll_small HCs.out ((elems nw).map (·.val))
              have hdf := diff_small (t := sn) hor
              have hban := bits_andNot_u64_nat (orAll C ((elems nw).map (·.val))) sn (by omega) (by omega)
              have hbor := bits_or_u64_nat sn (diff (orAll C ((elems nw).map (·.val))) sn) (by omega) (by omega)
              have hsm := or_small hsn hdf
              have hBe := below_c' hBr i3 hBr.size
              have HDF := Lib.hid hdf
              have HSM := Lib.hid hsm
              clear hdf hsm hor
              gi_wp2
              go_roundw
              case rel => exact ⟨kk + 1, _, _, by go_num, rfl, rfl, HDF.out, HSM.out, by omega, HLL, HNN, hBe⟩
              case measure => simp [intOf]; omega
            case stop2 =>
              rintro c pre2 W2 _ h
              exact h.elim
    case done =>
      rintro D xs W' hD hxs ⟨k', e1, b1, b2, b3, b4, mk, bl⟩ hK
      have hxm : ∀ y, (∃ z, z ∈ xs ∧ z.1.val = y) ↔ adjS O ai y := by
        intro y
        unfold adjS
        rw [HSe.out]
        constructor
        · rintro ⟨z, hz, rfl⟩; exact z.2
        · intro hy
          have hy8 : y < 8 := Nat.lt_of_lt_of_le (HAB.out ai y (by unfold adjS; rw [HSe.out]; exact hy)).2 hn8
          have hm : (⟨y, hy8⟩ : Pt) ∈ xs.map (·.1) := by rw [hxs]; exact mem_elems.2 hy
          obtain ⟨z, hz, e⟩ := List.mem_map.1 hm
          exact ⟨z, hz, by rw [e]⟩
      have HM := Lib.hid (e1.mono (P' := fun x y => x < ai + 1 ∧ adjS O x y) (fun a b => by
        rw [hxm]
        constructor
        · rintro (⟨h1, h2⟩ | ⟨rfl, h2⟩)
          · exact ⟨by omega, h2⟩
          · exact ⟨by omega, h2⟩
        · rintro ⟨h1, h2⟩
          by_cases e : a = ai
          · subst e; exact .inr ⟨rfl, h2⟩
          · exact .inl ⟨by omega, h2⟩))
      have hDs : w4.heap.size ≤ D := by simp at hD; omega
      have hmk' : Marks w4.heap.size W' ({ target := .collected D, args := #[] } :: ds) := .cons hDs hK (fun dd hd e => by
        obtain ⟨D', g1, g2⟩ := hmk.old dd hd
        rw [g1] at e
        simp at e hD
        omega) mk
      clear hxm e1
      gi_wp2
      exact ⟨_, by omega, ai + 1, k', _, _, _, _, _, _, _, _, _, _, rfl, rfl, by omega, HM.out, b1, b2, bl, hmk'⟩
    case stop =>
      rintro D c pre W' _ _ h _
      exact h.elim
  · have e : ai = n := by omega
    subst e
    gi_wp2_with fail
    refine leaves_marks hmk (fun W' => results_tmp2 rfl _ _ W') ?_ ⟨k, rfl, by rw [HOe.out]; exact hbest.mono (fun x y => ⟨fun h => h.2, fun h => ⟨(HAB.out _ _ h).1, h⟩⟩), below_c hB04 hB⟩
    rintro s A A' row ⟨k, e, g1, g2⟩ hg hr
    exact ⟨k, e, g1, ownFrom_below (Nat.le_refl _) hB04.size s A A' row g2 hg hr⟩

end Go.Proofs.Ytjeafgnaoncphaa
