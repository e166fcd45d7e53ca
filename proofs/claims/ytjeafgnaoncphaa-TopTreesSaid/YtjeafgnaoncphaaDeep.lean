/- What the visit of a deep walk returns: the walk. Conditions: in each statement. -/
import Derived.Test.YtjeafgnaoncphaaDeepV
namespace Go.Proofs.Ytjeafgnaoncphaa
open Go.RowKit Go.Shelf Gr
attribute [local go_sem] Oper.semAt_some

/-- between two rounds -/
def VisI (E : DEnv) (n : Nat) (O : List Nat) (f i : Nat) (s1 : DSt) (S Bi Bs : Nat) (W0 : World) (pre : List (PtIn S)) (W' : World) : Prop :=
  DMem E n O ((pre.map (fun (x : PtIn S) => x.1.val)).foldl (visitStep (visit O f) i) s1) W' ∧ Boxed W' Bi 3 (.int .i64 (i : Int)) ∧ Boxed W' Bs 65 (.int .u64 (S : Int)) ∧ Hot E W0 W'

set_option maxRecDepth 100000 in
set_option maxHeartbeats 4000000 in
theorem visit_any {n : Nat} {O : List Nat} (hn8 : n ≤ 8) (hO : Bounded n O) (hs : Symm O) (hlen : O.length = n) (hS : Small O) (E : DEnv) (hE : E.Ok) : ∀ (f i : Nat) (b : Int) (s : DSt) (k : Nat) (W : World),
    DMem E n O s W → DOk n s k → i < n → s.seen.testBit i = false → n ≤ cnt s.seen + f →
    Calls Try.prog 59 #[.int .i64 (i : Int), .int .i64 b, .pointer (some ⟨E.bs, 0, none⟩), .pointer (some ⟨E.bn, 0, none⟩), .pointer (some ⟨E.bm, 0, none⟩), .pointer (some ⟨E.bf, 0, none⟩), .pointer (some ⟨E.bb, 0, none⟩), .pointer (some ⟨E.bv, 0, none⟩), .pointer (some ⟨E.bl, 0, none⟩)] W
      fun e W' => (∃ v, e = .returned v) ∧ DMem E n O (visit O f i b s) W' ∧ Hot E W W' := by
  intro f
  induction f with
  | zero => intro i b s k W _ hk hi hu hf; have := hk.room hn8 hi hu; omega
  | succ f ih =>
    intro i b s k W hm hk hi hu hf
    obtain ⟨hnow, hseen⟩ := hk.few hn8
    have hi8 : i < 8 := by omega
    have h1 : 1 ≤ 20 := by omega
    have hbv := hm.vis.lt
    have HE := Lib.hid hE
    have HK := Lib.hid hk
    have HAB := Lib.hid hO
    have HSY := Lib.hid hs
    have HS := Lib.hid hS
    have HN := Lib.hid hE.ne
    have hne := hE.ne
    have hio : i < O.length := by omega
    have hii : (i : Int) < (n : Int) := by omega
    have hwith := cnt_with hi8 hu
    -- the world behind the box of i, and 'seen'
    have hm1 := hm.later (below_alloc' W (.cells #[.int .i64 (i : Int)] 3))
    have hot1 := (Hot.refl E W).later (below_alloc' W (.cells #[.int .i64 (i : Int)] 3))
    have hbi1 := Boxed.new W 3 (.int .i64 (i : Int))
    have hbic1 := hbi1.cell
    have cs1 := hm1.seen.cell
    have fs1 := hm1.seen.frozen
    refine (callsIn_wide (n := 20)).1 ?_
    refine callsIn_of_wp_marks Try.func59 rfl trivial ?_ rfl
    simp only [Try.ntmps59, List.size_toArray, List.length_cons, List.length_nil, Nat.reduceAdd, Nat.reduceSub, Array.replicate_succ, Array.replicate_zero, List.push_toArray, List.append_toArray, List.nil_append, List.cons_append]
    gi_wp2_with fail
    refine ⟨trivial, ?_⟩
    refine (callsIn_wide.2 (with_any s.seen i _ (by omega) (by omega))).mono ?_
    rintro e w' ⟨rfl, rfl⟩
    gi_wp2_with fail
    have hm2 := hm1.seen' hE (s.seen ||| 2 ^ i)
    have hot2 := hot1.set E.bs 0 (.int .u64 ((s.seen ||| 2 ^ i : Nat) : Int)) (.inl rfl)
    have hbi2 := hbi1.kept (grownBy_setCell_at (W.alloc (.cells #[.int .i64 (i : Int)] 3)) E.bs 0 (.int .u64 ((s.seen ||| 2 ^ i : Nat) : Int))) (by have := hE.i; simp; omega)
    clear hm1 hot1 hbi1 hbic1 cs1 fs1
    generalize hX : (W.alloc (.cells #[.int .i64 (i : Int)] 3)).setCell ⟨E.bs, 0, none⟩ (.int .u64 ((s.seen ||| 2 ^ i : Nat) : Int)) = X at *
    clear hX
    have cbi := hbi2.cell
    have cm := hm2.met.cell
    have cf := hm2.frm.cell
    have cn := hm2.now.cell
    have fm := hm2.om.frozenAt i
    have hlm : i < s.met.length := by rw [hk.lm]; exact hi
    have hlf : i < s.frm.length := by rw [hk.lf]; exact hi
    have dm := owns_at hm2.om (ints_get hlm)
    obtain ⟨U1, hU1⟩ : ∃ U1, U1 = (X.setCell ⟨E.gm, i, none⟩ (.int .i64 (s.now : Int))).drew := ⟨_, rfl⟩
    have hmU1 : DMem E n O { s with seen := s.seen ||| 2 ^ i, met := s.met.set i (s.now : Int) } U1 := by rw [hU1]; exact (hm2.met' hE i (s.now : Int)).drew
    have hotU1 : Hot E W U1 := by rw [hU1]; exact (hot2.set E.gm i _ (.inr (.inr (.inl rfl)))).later ((Below.refl _ _).drew)
    have hbiU1 : Boxed U1 W.heap.size 3 (.int .i64 (i : Int)) := by
      have hb := hbi2.kept (grownBy_setCell_at X E.gm i (.int .i64 (s.now : Int))) (by have := hE.g1; have := hE.h; have := hE.i; simp; omega)
      rw [hU1]; exact hb
    have HU1 := Lib.hid hU1
    clear hU1
    have cbiU := hbiU1.cell
    have cfU := hmU1.frm.cell
    have ffU := hmU1.ofr.frozenAt i
    have dfU := owns_at hmU1.ofr (ints_get hlf)
    refine region_flex_in wide_wide (V := fun k => if k = 0 then X.drew else if k = 1 then U1 else U1.setCell ⟨E.gf, i, none⟩ (.int .i64 b))
      [(true, 0), (true, 0), (true, 1), (true, 1), (true, 0), (true, 1), (true, 0), (false, 0), (true, 1), (false, 1)] 2 (U1.setCell ⟨E.gf, i, none⟩ (.int .i64 b)) (by kernel_rfl) rfl (by kernel_rfl) (by kernel_rfl) (by kernel_rfl) (by kernel_rfl) ?calm rfl rfl ?_
    case calm =>
      exact calm_cons (calm_load rfl) (calm_cons (calm_load rfl) (calm_cons (calm_load rfl) (calm_cons (calm_load rfl) (calm_cons (calm_load rfl) (calm_cons (calm_move rfl) (calm_cons (calm_index rfl) (calm_cons (calm_store rfl) (calm_cons (calm_index rfl) (calm_cons (calm_store rfl) calm_nil)))))))))
    repeat (refine fx_y0 X.drew rfl (fun K hK => ?_); go_simp; refine hK _ ?_; clear hK K)
    repeat (refine fx_y1 X.drew U1 rfl rfl (fun K hK => ?_); go_simp; refine hK _ ?_ ?_; (go_simp; try rfl); clear hK K)
    repeat (refine fx_y0 X.drew rfl (fun K hK => ?_); go_simp; refine hK _ ?_; clear hK K)
    repeat (refine fx_y1 X.drew U1 rfl rfl (fun K hK => ?_); go_simp; refine hK _ ?_ ?_; (go_simp; try rfl); clear hK K)
    repeat (refine fx_y0 X.drew rfl (fun K hK => ?_); go_simp; refine hK _ ?_; clear hK K)
    refine fx_s X.drew U1 rfl rfl rfl (fun K hK => ?_) ?_
    · rw [HU1.out] at hK
      go_simp
      exact hK
    refine fx_y1 X.drew U1 rfl rfl (fun K hK => ?_); go_simp; refine hK _ ?_ ?_; (go_simp; try rfl); clear hK K
    refine fx_s U1 (U1.setCell ⟨E.gf, i, none⟩ (.int .i64 b)) rfl rfl rfl (fun K hK => ?_) ?_
    · go_simp
      exact hK
    simp only [fxRun]
    have hm3 := hmU1.frm' hE i b
    have hot3 := hotU1.set E.gf i (.int .i64 b) (.inr (.inr (.inr (.inl rfl))))
    have hbi3 := hbiU1.kept (grownBy_setCell_at U1 E.gf i (.int .i64 b)) (by have := hE.g3; have := hE.h; have := hE.i; simp; omega)
    clear cbi cm cf cn fm dm cbiU cfU ffU dfU HU1 hmU1 hotU1 hbiU1 hm2 hot2 hbi2
    generalize hX2 : U1.setCell ⟨E.gf, i, none⟩ (.int .i64 b) = X2 at *
    clear hX2
    have cn := hm3.now.cell
    have fn := hm3.now.frozen
    have w1' : IntKind.i64.wrap ((s.now : Int) + 1) = (s.now : Int) + 1 := IntWalk.i64_in _ (by omega)
    -- 'now++', then the set of i
    have hm4 := hm3.now' hE (s.now + 1)
    have hot4 := hot3.set E.bn 0 (.int .i64 ((s.now + 1 : Nat) : Int)) (.inr (.inl rfl))
    have hbi4 := hbi3.kept (grownBy_setCell_at X2 E.bn 0 (.int .i64 ((s.now + 1 : Nat) : Int))) (by have := hE.h; have := hE.i; simp; omega)
    have hE1 := hE.h
    have hE2 := hE.i
    have hE3 := hE.g1
    have hE4 := hE.g2
    have hE5 := hE.g3
    rw [show ((s.now + 1 : Nat) : Int) = (s.now : Int) + 1 from by simp] at hm4 hot4 hbi4
    have cb4 := hm4.bes.cell
    have cbi4 := hbi4.cell
    have hsa := owns_at hm4.os (setsOf_get hio)
    have hss := hS _ (List.getElem_mem hio)
    have hSe : O[i]?.getD 0 = O[i] := by rw [List.getElem?_eq_getElem hio]; rfl
    generalize O[i] = S at hsa hss hSe
    have HSe := Lib.hid hSe
    clear hSe
    gi_wp2_with fail
    refine ⟨trivial, ?_⟩
    refine (callsIn_wide.2 (each_any S _)).mono ?_
    rintro e w' ⟨rfl, rfl⟩
    generalize hX3 : X2.setCell ⟨E.bn, 0, none⟩ (.int .i64 ((s.now : Int) + 1)) = X3 at *
    clear hX3
    have hsz3 := hot4.size
    have hbi4lt := hbi4.lt
    have hm5 := hm4.later (below_alloc' X3 (.cells #[.int .u64 (S : Int)] 65))
    have hot5 := hot4.later (below_alloc' X3 (.cells #[.int .u64 (S : Int)] 65))
    have hbi5 := hbi4.alloc (.cells #[.int .u64 (S : Int)] 65)
    have hes : ∀ x : PtIn S, adjS O i x.1.val := fun x => by unfold adjS; rw [HSe.out]; exact x.2
    have HES := Lib.hid hes
    have HEN : Hid (DMem E n O (s.enter i b) (X3.alloc (.cells #[.int .u64 (S : Int)] 65))) := hm5
    have hen := enter_ok (b := b) hn8 hk hi hu
    have hencnt : n ≤ cnt (s.enter i b).seen + f := by show n ≤ cnt (s.seen ||| 2 ^ i) + f; omega
    have HF : Hid (∀ pre : List (PtIn S), DOk n ((pre.map (fun (x : PtIn S) => x.1.val)).foldl (visitStep (visit O f) i) (s.enter i b)) (k + 1) ∧ n ≤ cnt ((pre.map (fun (x : PtIn S) => x.1.val)).foldl (visitStep (visit O f) i) (s.enter i b)).seen + f) := by
      intro pre
      obtain ⟨g1, _, g2⟩ := fold_eff hn8 hO hs f i (pre.map (fun (x : PtIn S) => x.1.val)) (fun x hx => by obtain ⟨y, _, rfl⟩ := List.mem_map.1 hx; exact hes y) (s.enter i b) (k + 1) hen hencnt
      exact ⟨g1, g2⟩
    have HO : Hid (visit O (f + 1) i b s = (((elems S).map (·.val)).foldl (visitStep (visit O f) i) (s.enter i b)).leave i) := by
      show visit O (f + 1) i b s = _
      rw [← HSe.out]; rfl
    clear hm4 hot4 hbi4 hes hen hencnt cb4 cbi4 hsa cn fn hm3 hot3 hbi3
    generalize s.enter i b = s1 at HF HEN HO
    gi_wp2_with fail
    refine wpIn_rangeFunc_ownF rfl h1 (gf := 67) (lb := #[.pointer (some ⟨X3.heap.size, 0, none⟩)]) rfl trivial (enters_of Try.func67 (by kernel_rfl) rfl)
      (each_stopsIn 19 (by omega) X3.heap.size S hss _ (World.alloc_heap_new _ _) (by simp)) (fun h k => keepsBlock_t h k) (keepsBlock_b (by simp)) (Below.refl _ _) (fun _ => rfl)
      (VisI E n O f i s1 S W.heap.size X3.heap.size W) (fun _ _ _ => False) ?hI (fun _ _ _ _ _ hs _ _ => hs) ?h0 ?a1 ?assign ?body ?done ?stop
    case hI =>
      rintro pre A A' row ⟨m, b1, b2, ht⟩ hg hr
      have hr2 : ∀ r, row = some r → ∃ o : Obj, A.heap[r]? = some o ∧ o.isCells = false := fun r e => (hr r e).2
      refine ⟨m.k hg hr2, boxed_k b1 hg hr2, boxed_k b2 hg hr2, ?_⟩
      cases row with
      | none => exact ht.later (below_iff_grown.2 hg)
      | some r => exact ht.grown hg (.inr (by have := (hr r rfl).1; simp at this; omega))
    case h0 =>
      exact ⟨HEN.out, hbi5, Boxed.new _ _ _, hot5⟩
    case assign =>
      intro l x W' K hK
      gi_wp2
      exact hK
    case body =>
      rintro l pre x W' ⟨m, b1, b2, ht⟩ hlt
      obtain ⟨hok, hcnt⟩ := HF.out pre
      obtain ⟨hnow1, hseen1⟩ := hok.few hn8
      have hx8 := x.1.isLt
      have hxa := HES.out x
      have hxn := (HAB.out _ _ hxa).2
      have hcs := m.seen.cell
      have hci := b1.cell
      have hcv := m.vis.cell
      have hfold : (((pre ++ [x]).map (fun (x : PtIn S) => x.1.val)).foldl (visitStep (visit O f) i) s1) = visitStep (visit O f) i ((pre.map (fun (x : PtIn S) => x.1.val)).foldl (visitStep (visit O f) i) s1) x.1.val := by
        rw [List.map_append, List.foldl_append]; rfl
      have HFO := Lib.hid hfold
      clear hfold
      generalize hs2 : (pre.map (fun (x : PtIn S) => x.1.val)).foldl (visitStep (visit O f) i) s1 = s2 at *
      have HS2 := Lib.hid hs2
      clear hs2
      cases hb : s2.seen.testBit x.1.val with
      | true =>
        have HB := Lib.hid hb
        gi_wp2_with fail
        refine ⟨trivial, ?_⟩
        refine ((wide_wide.inRound l).calls _ _ _ _ _ _ (has_any s2.seen x.1.val _ (by omega) (by omega))).mono ?_
        rintro e w' ⟨rfl, rfl⟩
        rw [HB.out]
        gi_wp2
        refine ⟨KeepsOthers.refl _, rfl, ?_⟩
        refine ⟨?_, b1, b2, ht⟩
        rw [HFO.out, visitStep, if_pos HB.out]; exact m
      | false =>
        have HB := Lib.hid hb
        gi_wp2_with fail
        refine ⟨trivial, ?_⟩
        refine ((wide_wide.inRound l).calls _ _ _ _ _ _ (has_any s2.seen x.1.val _ (by omega) (by omega))).mono ?_
        rintro e w' ⟨rfl, rfl⟩
        rw [HB.out]
        gi_wp2_with fail
        refine ⟨trivial, ?_⟩
        refine ((wide_wide.inRound l).calls _ _ _ _ _ _ (ih x.1.val (i : Int) s2 (k + 1) _ m hok hxn hb hcnt)).mono ?_
        rintro e w' ⟨⟨v, rfl⟩, hm', ht'⟩
        gi_wp2
        have hnb : ∀ B, E.bv < B → ¬ E.hot B := by intro B hB; unfold DEnv.hot; omega
        have b2' := ht'.boxed b2 (hnb _ (by omega))
        refine ⟨ht'.keeps m, (show _ = _ from b2').trans (show _ = _ from b2).symm, ?_⟩
        refine ⟨?_, ht'.boxed b1 (hnb _ hbv), b2', ht.trans ht'⟩
        rw [HFO.out, visitStep, if_neg (by rw [HB.out]; simp)]; exact hm'
    case done =>
      rintro D xs W' hD hxs ⟨m, b1, b2, ht⟩ hK
      obtain ⟨hok, hcnt⟩ := HF.out xs
      have hxm : xs.map (fun (x : PtIn S) => x.1.val) = (elems S).map (·.val) := by rw [← hxs, List.map_map]; rfl
      rw [hxm] at m hok
      obtain ⟨hnow1, hseen1⟩ := hok.few hn8
      have HO' := HO.out
      generalize ((elems S).map (·.val)).foldl (visitStep (visit O f) i) s1 = s3 at *
      have HO2 := Lib.hid HO'
      clear HO' HO hxm
      have hll : i < s3.left.length := by rw [hok.ll]; exact hi
      have cl := m.left.cell
      have ci := b1.cell
      have cn := m.now.cell
      have fl := m.ol.frozenAt i
      have dl := owns_at m.ol (ints_get hll)
      have m2 := m.left' hE i (s3.now : Int)
      have ht2 := ht.set E.gl i (.int .i64 (s3.now : Int)) (.inr (.inr (.inr (.inr rfl))))
      have hglc := row_cells m.ol
      have hK2 := (keeps_row (grownBy_setCell_at W' E.gl i (.int .i64 (s3.now : Int))) hglc).same D _ hK rfl
      have cn2 := m2.now.cell
      have fn2 := m2.now.frozen
      have m3 := m2.now' hE (s3.now + 1)
      have ht3 := ht2.set E.bn 0 (.int .i64 ((s3.now + 1 : Nat) : Int)) (.inr (.inl rfl))
      have hnc : ∃ o : Obj, (W'.setCell ⟨E.gl, i, none⟩ (.int .i64 (s3.now : Int))).heap[E.bn]? = some o ∧ o.isCells = true := ⟨_, m2.now, rfl⟩
      have hK3 := (keeps_row (grownBy_setCell_at (W'.setCell ⟨E.gl, i, none⟩ (.int .i64 (s3.now : Int))) E.bn 0 (.int .i64 ((s3.now + 1 : Nat) : Int))) hnc).same D _ hK2 rfl
      rw [show ((s3.now + 1 : Nat) : Int) = (s3.now : Int) + 1 from by simp] at m3 ht3 hK3
      have w3' : IntKind.i64.wrap ((s3.now : Int) + 1) = (s3.now : Int) + 1 := IntWalk.i64_in _ (by omega)
      have HM3 := Lib.hid m3
      clear m3 m2 ht2 hK2 hnc
      gi_wp2
      have hmk : Marks W.heap.size ((W'.setCell ⟨E.gl, i, none⟩ (.int .i64 (s3.now : Int))).setCell ⟨E.bn, 0, none⟩ (.int .i64 ((s3.now : Int) + 1))) [{ target := .collected D, args := #[] }] := .cons (by simp at hD; omega) hK3 (by simp) .nil
      refine leaves_marks hmk (fun W' => results_none rfl _ _ W') ?_ ⟨⟨_, rfl⟩, by rw [HO2.out]; exact HM3.out, ht3⟩
      rintro _ A A' row ⟨_, g1, g2⟩ hg hr
      refine ⟨⟨_, rfl⟩, g1.k hg (fun r e => (hr r e).2), ?_⟩
      cases row with
      | none => exact g2.later (below_iff_grown.2 hg)
      | some r => exact g2.grown hg (.inr (hr r rfl).1)
    case stop =>
      rintro D c pre W' _ _ h _
      exact h.elim

end Go.Proofs.Ytjeafgnaoncphaa
