/- What prufer.Write returns: the walk. Conditions: in each statement. -/
import Derived.Test.YtjeafgnaoncphaaPruferP
import Derived.Test.YtjeafgnaoncphaaLen
namespace Go.Proofs.Ytjeafgnaoncphaa
open Go.RowKit Gr

set_option maxRecDepth 100000 in
set_option maxHeartbeats 1000000 in
theorem prufer_bad (n : Int) (v : Value) (ls : List Ln) (w : World) (hr : LinesRd w v ls) (hc : chk n ls ≠ 0) :
    Calls Try.prog 29 #[.int .i64 n, v] w fun e w' => e = .returned (.tuple #[.slice none 0 0, errV (chk n ls)]) ∧ Below w.heap.size w w' := by
  have K := treeCheck_bad n v ls w hr hc
  clear hc
  go_enter Try.func29, Try.ntmps29
  go_wp2_with fail
  refine K.mono ?_
  rintro e w1 ⟨rfl, hB⟩
  go_wp2
  go_ret2
  exact ⟨rfl, hB⟩

set_option maxRecDepth 100000 in
set_option maxHeartbeats 1000000 in
theorem prufer_no (n : Nat) (v : Value) (ls : List Ln) (w : World) (hr : LinesRd w v ls) (hg : GoodG n ls) (hT : ¬ IsTreeG n ls ∨ n < 2) :
    Calls Try.prog 29 #[.int .i64 (n : Int), v] w fun e w' => ∃ q : Nat, q ≠ 0 ∧ e = .returned (.tuple #[.slice none 0 0, errV q]) ∧ Below w.heap.size w w' := by
  have K := treeCheck_ok n v ls w hr hg
  have HT := Lib.hid hT
  clear hT hg
  go_enter Try.func29, Try.ntmps29
  go_wp2_with fail
  refine K.mono ?_
  rintro e w1 ⟨⟨hT, rfl⟩ | ⟨hT, rfl⟩, hB⟩
  · have hn2 : n < 2 := by
      rcases HT.out with h | h
      · exact absurd hT h
      · exact h
    have hn2i : (n : Int) < 2 := by omega
    clear hT
    go_wp2
    go_ret2
    exact ⟨5, by omega, rfl, hB⟩
  · clear hT
    go_wp2
    go_ret2
    exact ⟨7, by omega, rfl, hB⟩

theorem setSz (W : World) (a : Addr) (v : Value) : (W.setCell a v).heap.size = W.heap.size := by simp [World.setCell]

set_option maxRecDepth 100000 in
set_option maxHeartbeats 8000000 in
theorem prufer_ok (n : Nat) (v : Value) (ls : List Ln) (w : World) (hr : LinesRd w v ls) (hg : GoodG n ls) (hT : IsTreeG n ls) (h2 : 2 ≤ n) :
    Calls Try.prog 29 #[.int .i64 (n : Int), v] w fun e w' => ∃ (row : List Nat) (a : Option Addr) (c : Nat), e = .returned (.tuple #[.slice a (n - 2) c, .nilIface]) ∧ row.length = n - 2 ∧ (∀ v, v < n → dO (beside n ls) v = 1 + row.count v) ∧ (∀ v ∈ row, v < n) ∧ Rd w' (.slice a (n - 2) c) (n - 2) (nats row) ∧ Below w.heap.size w w' := by
  obtain ⟨i0, hi, hz0, hz1, hz2⟩ := info_parts info_int
  have K := treeCheck_ok n v ls w hr hg
  have HT := Lib.hid hT
  have HG := Lib.hid hg
  have hn8 : n ≤ 8 := hg.2.1
  have wn2 : IntKind.i64.wrap ((n : Int) - 2) = (n : Int) - 2 := IntWalk.i64_in _ (by omega)
  have hn2 : ¬ (n : Int) < 2 := by omega
  have hd2 : decide ((n : Int) < 2) = false := by simp; omega
  obtain ⟨m, hm⟩ : ∃ m : Nat, n = m + 2 := ⟨n - 2, by omega⟩
  have hmi : (n : Int) - 2 = (m : Int) := by omega
  rw [hmi] at wn2
  have HM := Lib.hid hm
  clear hT hg hm
  go_enter Try.func29, Try.ntmps29
  go_wp2_with fail
  refine K.mono ?_
  rintro e w1 ⟨⟨_, rfl⟩ | ⟨hT, _⟩, hB1⟩
  · go_wp2_with fail
    refine (coreBeside_any n v ls _ (hr.later hB1) HG.out).mono ?_
    rintro e w2 ⟨g, cap, rfl, hown, hB2, hS⟩
    have hB12 := below_c hB1 hB2
    have hP0 := Lib.hid (pru_start HG.out hS HT.out)
    have hown := owns_mono hown hB1.size
    have hcap := (rd_of_owns hown).bounds.2
    generalize hOe : beside n ls = O0 at *
    have HOe := Lib.hid hOe
    clear hB1 hB2 hS hOe
    go_wp2_with fail
    go_loopw [8, 25] (fun oo tt wr => ∃ (t : Nat) (O A out : List Nat), t ≤ m ∧ tt = .int .i64 t ∧ out.length = t ∧ Hid (Pru n O0 O A out) ∧ wr.ownsRow w.heap.size 65 1 (.slice (some ⟨g, 0, none⟩) n cap) n (setsOf O) ∧ wr.ownsRow w.heap.size 3 1 oo t (nats out) ∧ (∀ r, oo.ownBlock = some r → r ≠ g) ∧ Below w.heap.size w wr) (fun _ tt _ => m - (intOf tt).toNat)
    case atStart => exact ⟨0, O0, List.range n, [], by omega, rfl, rfl, hP0, hown, World.ownsRow_nil _ _ _ _, fun r e => (by cases e), hB12⟩
    case round =>
      clear hP0 hown hB12
      obtain ⟨t, O, A, out, ht, rfl, hol, HP, hrow, ho, hsep, hB⟩ := hrel
      obtain ⟨ao, co, rfl⟩ := owns_slice ho
      have hOl := HP.out.len
      obtain ⟨wa, hwa⟩ : ∃ wa, wa = wr := ⟨wr, rfl⟩
      subst hwa
      have HOL := Lib.hid hol
      clear hol
      by_cases hlt : t < m
      · have hti : (t : Int) < (m : Int) := by omega
        have hA2 : 2 ≤ A.length := by have := HP.out.many; have := HOL.out; have := HM.out; omega
        have HLF := Lib.hid (HP.out.leaf hA2)
        go_wp2_with fail
        go_loopw [8, 29] (fun oo ii wx => ∃ i : Nat, i ≤ n ∧ ii = .int .i64 i ∧ oo = .slice ao t co ∧ Hid (∀ k, k < i → dO O k ≠ 1) ∧ Below wa.heap.size wa wx) (fun _ ii _ => n - (intOf ii).toNat)
        case atStart => exact ⟨0, by omega, rfl, rfl, fun k hk => absurd hk (Nat.not_lt_zero _), Below.refl _ _⟩
        case round =>
          obtain ⟨i, hi', rfl, rfl, HN, hBi⟩ := hrel
          by_cases hli : i < n
          · have hii : (i : Int) < (n : Int) := by omega
            have hrow1 := owns_later hrow hBi
            have hiO : i < O.length := by omega
            have ci := owns_at hrow1 (setsOf_get hiO)
            have hsi := HP.out.small _ (List.getElem_mem hiO)
            have HDO : Hid (dO O i = (elems O[i]).length) := by show _ = _; unfold dO; rw [List.getElem?_eq_getElem hiO]; rfl
            have KL := len_any O[i] hsi wr
            have HSI : Hid (O[i]?.getD 0 = O[i]) := by show _ = _; rw [List.getElem?_eq_getElem hiO]; rfl
            generalize O[i] = s at *
            by_cases hd1 : (elems s).length = 1
            · have hb : (((elems s).length : Int) == 1) = true := by simp [hd1]
              obtain ⟨x, hx⟩ := List.length_eq_one_iff.1 hd1
              have hsx : s.testBit x.val = true := mem_elems.1 (by rw [hx]; exact List.mem_singleton.2 rfl)
              have hadj : adjS O i x.val := by show (O[i]?.getD 0).testBit _ = true; rw [HSI.out]; exact hsx
              have hone : ∀ k, adjS O i k → k = x.val := fun k hk => by
                have hk' : (O[i]?.getD 0).testBit k = true := hk
                rw [HSI.out] at hk'
                exact elems_one x hx hk' hsi
              have HST := Lib.hid (HP.out.step hadj hone (by rw [HDO.out, hd1]) hA2)
              have hjn := HP.out.lt _ (HP.out.within _ _ hadj).2.1
              have hij := (HP.out.within _ _ hadj).2.2
              have hpx : (ptsOf (elems s))[0]? = some (.int .i64 ((x.val : Nat) : Int)) := by rw [hx]; rfl
              rw [hd1] at KL
              have KLi := fun w => list_any s hsi w
              rw [hd1] at KLi
              have hx8 := x.isLt
              generalize ptsOf (elems s) = Y at *
              generalize x.val = j at *
              have hjO : j < O.length := by omega
              have HSJ : Hid (O[j]?.getD 0 = O[j]) := by show _ = _; rw [List.getElem?_eq_getElem hjO]; rfl
              have hsj := HP.out.small _ (List.getElem_mem hjO)
              have cj0 := setsOf_get hjO
              have HCO : Hid (cutO O i j = (O.set i 0).set j (diff O[j] (2 ^ i))) := by show _ = _; unfold cutO; rw [HSJ.out]
              have hdl : diff O[j] (2 ^ i) < 256 := diff_small hsj
              generalize O[j] = sj at *
              have KW := fun w => without_any sj i w (by omega) (by omega)
              have hji : (j : Int) < (n : Int) := by omega
              clear hd1 hx hsx hadj hone HN HLF HSI HDO hi'
              go_wp2_with fail
              refine KL.mono ?_
              rintro e w3 ⟨rfl, hB3⟩
              have hBi3 := below_c hBi hB3
              have hrow3 := owns_later hrow hBi3
              have ci3 : w3.cell? ⟨g, i, none⟩ = some (.int .u64 (s : Int)) := (hB3.cell (p := ⟨g, i, none⟩) (hrow1.lt g rfl).2).trans ci
              go_wp2_with fail
              refine (KLi _).mono ?_
              rintro e w4 ⟨a4, c4, rfl, o4, hB4⟩
              obtain ⟨gl, cl, hv, _, _⟩ := owns_form o4 (by omega)
              obtain ⟨rfl, rfl⟩ : a4 = some ⟨gl, 0, none⟩ ∧ c4 = cl := by cases hv; exact ⟨rfl, rfl⟩
              have c40 := owns_at o4 hpx
              have hBi4 := below_c hBi3 hB4
              have hBw4 := hB.trans (hBi4.mono hB.size)
              have hrow4 := owns_later hrow hBi4
              have ho4 := owns_later ho hBi4
              have hgb := hrow4.lt g rfl
              have cj4 := owns_at hrow4 cj0
              have hfi := hrow4.frozenAt i
              have hfj := hrow4.frozenAt j
              have own5 := (hrow4.stored i (.int .u64 0)).1
              have es : (setsOf O).set i (.int .u64 0) = setsOf (O.set i 0) := setsOf_set O i 0
              rw [es] at own5
              have ci4 : w4.cell? ⟨g, i, none⟩ = some (.int .u64 (s : Int)) := (hB4.cell (p := ⟨g, i, none⟩) (hrow3.lt g rfl).2).trans ci3
              have hfj5 := own5.frozenAt j
              have hc5l : j < (O.set i 0).length := by simp; omega
              have cj5 := owns_at own5 (setsOf_get hc5l)
              have own6 := (own5.stored j (.int .u64 ((diff sj (2 ^ i) : Nat) : Int))).1
              rw [setsOf_set, ← HCO.out] at own6
              have ho5 := World.ownsRow.kept ho4 (grownBy_setCell_at w4 g i (.int .u64 0)) (by
                cases hb : (Value.slice ao t co).ownBlock with
                | none => exact .inl rfl
                | some r => exact .inr (fun e => hsep r hb (by injection e)))
              have ho6 := World.ownsRow.kept ho5 (grownBy_setCell_at (w4.setCell ⟨g, i, none⟩ (.int .u64 0)) g j (.int .u64 ((diff sj (2 ^ i) : Nat) : Int))) (by
                cases hb : (Value.slice ao t co).ownBlock with
                | none => exact .inl rfl
                | some r => exact .inr (fun e => hsep r hb (by injection e)))
              have hB6 := (hBw4.setCell (p := ⟨g, i, none⟩) hgb.1 (.int .u64 0)).setCell (p := ⟨g, j, none⟩) hgb.1 (.int .u64 ((diff sj (2 ^ i) : Nat) : Int))
              have hs6 := hB6.size
              generalize (O.set i 0)[j] = sj5 at *
              clear es hv o4 ho5 own5 hrow4 ho4 hrow3 hrow1 ci hrow ho
              go_wp2_with fail
              refine (KW _).mono ?_
              rintro e w' ⟨rfl, rfl⟩
              go_wp2_with (at_builtin; go_must (refine wpl_app _ _ _ (AppTo.refl ho6) rfl rfl Try.underlying28 hi hz0 hz1 hz2 rfl (by decide) rfl (by first | rfl | (rw [setSz, setSz]; rfl)) rfl (by simp [Value.oneCell']) (by decide) (by omega) hs6 ?_); intro v8 w8 hA8 hne8 hst8)
              go_roundw
              case rel =>
                refine ⟨t + 1, cutO O i j, A.erase i, out ++ [j], by omega, by go_num, by rw [List.length_append, HOL.out]; rfl, HST, ?_, ?_, ?_, ?_⟩
                · refine World.ownsRow.kept own6 hA8.grown ?_
                  exact .inr (fun e => hsep g e.symm rfl)
                · simpa [nats] using hA8.own
                · intro r hr
                  rcases hA8.at_ with e | e
                  · rw [e] at hr; exact hsep r hr
                  · have := e r hr
                    have h3 := hgb.2
                    rw [setSz, setSz] at this
                    omega
                · exact hB6.grown hA8.grown hs6 (fun r hr => (ho6.lt r hr).1)
              case measure => simp [intOf]; omega
            · have hb : (((elems s).length : Int) == 1) = false := by rw [beq_eq_false_iff_ne]; omega
              have HN2 : Hid (∀ k, k < i + 1 → dO O k ≠ 1) := fun k hk => by
                by_cases e : k = i
                · rw [e, HDO.out]; exact hd1
                · exact HN.out k (by omega)
              generalize (elems s).length = d at *
              clear hd1 HDO
              go_wp2_with fail
              refine KL.mono ?_
              rintro e w3 ⟨rfl, hB3⟩
              have hBi3 := below_c hBi hB3
              go_wp2
              go_roundw
              case rel => exact ⟨i + 1, by omega, by go_num, rfl, HN2, hBi3⟩
              case measure => simp [intOf]; omega
          · exfalso
            obtain ⟨k, hk1, hk2⟩ := HLF.out
            exact HN.out k (by omega) hk2
      · obtain rfl : t = m := by omega
        have hA2 : A.length = 2 := by have := HP.out.many; have := HOL.out; have := HM.out; omega
        have HL := Lib.hid (HP.out.last hA2)
        have HO := Lib.hid HP.out.outs
        have hnm : n - 2 = t := by have := HM.out; omega
        have HNM := Lib.hid hnm
        clear hnm
        go_wp2
        go_ret2
        exact ⟨out, ao, co, by rw [HNM.out]; rfl, by rw [HNM.out, HOL.out], fun v hv => by rw [HOe.out]; exact HL.out v hv, HO.out, by rw [HNM.out]; exact rd_of_owns ho, hB⟩
  · exact absurd HT.out hT
end Go.Proofs.Ytjeafgnaoncphaa
