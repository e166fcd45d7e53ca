/- WalkMore returns true for every input: the walk. Conditions: none. -/
import Derived.Test.YthlnejfojaldnaaWalkParts
import Derived.Test.YthlnejfojaldnaaMoreP
import Derived.Test.YthlnejfojaldnaaBack
namespace Go.Proofs.Ythlnejfojaldnaa
open Go.RowKit Gr

/-- 'append(nil, x...)' of any slice that is read -/
theorem wpl_app0 {P : Program} {ops : Array Oper} {rest : List Oper} {o : Oper} {a : Act} {Q : Exit → Act → World → Prop} (s x : Operand) (t : TypeId)
    {w : World} {e : TypeId} {size bytes : Nat} {i : TypeInfo} {z : Value} {ad : Option Addr} {m c : Nat} {news : List Value}
    (hr : Rd w (.slice ad m c) m news) (hl : news.length = m * size)
    (hgd : o.guard = none) (ho : o.op = .call { callee := .builtin .append, args := #[s, x], argTypes := #[t, t] })
    (ht : P.underlying t = some (.slice e)) (hi : P.info? e = some i) (hz : i.zero = some z) (hsize : i.size = size) (hby : i.bytes = bytes) (hzs : z.cells.size = size) (hsz : 0 < size)
    (hs : a.eval s = .slice none 0 0) (hx : a.eval x = .slice ad m c) (h1 : ∀ u ∈ news, u.oneCell' = true)
    (hby2 : bytes ≤ 1000) (h63 : m ≤ 100000000)
    (h : ∀ v' w', w'.ownsRow w.heap.size e size v' m news → Below w.heap.size w w' → wpList P ops Q rest (a.put o.dst v') w') :
    wpList P ops Q (o :: rest) a w := by
  rcases Nat.eq_zero_or_pos m with h0 | h0
  · subst h0
    obtain rfl : news = [] := List.eq_nil_of_length_eq_zero (by simpa using hl)
    refine wpList_plain hgd fun K hK => ?_
    have hrun : (Builtin.append_ #[t, t] o.type #[.slice none 0 0, .slice ad 0 c]).run P w = .ok (.slice none 0 0) w := by
      cases ad <;> simp [Builtin.append_, run_underlying ht, sizeOf, typeInfo, hi, Builtin.lenOf, Builtin.firstCells, loadCells, loadCellsFrom]
    unfold Oper.wp execOp
    simp only [ho, resolve, invoke, builtin, Sem.run_bind, Sem.run_pure, Result.andThen_ok, List.map_toArray, List.map_cons, List.map_nil, hs, hx, hrun]
    exact hK _ _ (h _ _ (World.ownsRow_nil _ _ _ _) (Below.refl _ _))
  · refine wpl_appL s x t (AppTo.refl (World.ownsRow_nil w w.heap.size e size)) hr hl h0 hgd ho ht hi hz hsize hby hzs hsz hs hx h1 hby2 (by omega) (Nat.le_refl _) ?_
    intro v' w' hA _ hst
    exact h v' w' (by simpa using hA.own) hst

theorem cellsOf_one (ls : List Ln) : ∀ u ∈ cellsOf ls, u.oneCell' = true := by
  intro u hu
  obtain ⟨l, _, hl⟩ := List.mem_flatMap.1 hu
  simp at hl
  rcases hl with rfl | rfl <;> rfl

theorem rd_at {w : World} {n b off c i : Nat} {d : List Int} (h : Rd w (.slice (some ⟨b, off, none⟩) n c) n (ints d)) (hl : d.length = n) (hi : i < n) :
    w.cell? ⟨b, off + i, none⟩ = some (.int .i64 (at1 d i)) := by
  obtain ⟨b', off', e, _, _, h⟩ := rd_cells h hl (by omega)
  cases e
  exact h i hi

set_option maxRecDepth 100000 in
set_option maxHeartbeats 4000000 in
theorem walkMore_any (n : Int) {v : Value} {ls : List Ln} {w : World} (hr : LinesRd w v ls) (q : Ln) (f : Int) :
    Calls Try.prog 11 #[.int .i64 n, v, .agg #[.int .i64 q.1, .int .i64 q.2], .int .i64 f] w fun e w' => e = .returned (.bool true) ∧ Below w.heap.size w w' := by
  obtain ⟨qa, qb⟩ := q
  simp only
  have hr0 := hr.later (below_alloc' w (.cells #[.int .i64 qa, .int .i64 qb] 34))
  by_cases hc : chk n ls = 0
  · obtain ⟨m, rfl, hg⟩ := good_of hc
    have HG := Lib.hid hg
    have hm8 := hg.2.1
    have hm1 := hg.1
    have hl24 := hg.2.2.1
    have w1' : IntKind.i64.wrap ((m : Int) - 1) = (m : Int) - 1 := IntWalk.i64_in _ (by omega)
    have hmm : ((m : Int) != (m : Int)) = false := by simp
    clear hc hg
    by_cases hf : 0 ≤ f ∧ f ≤ (m : Int) - 1
    · obtain ⟨f, rfl⟩ := Int.eq_ofNat_of_zero_le hf.1
      have hfm : f < m := by omega
      clear hf
      by_cases h24 : ls.length = 24
      · have hv : ∃ av cv, v = .slice av ls.length cv := by obtain ⟨av, cv, hv, _⟩ := hr; exact ⟨av, cv, hv⟩
        obtain ⟨av, cv, rfl⟩ := hv
        rw [h24] at hr hr0 ⊢
        go_enter Try.func11, Try.ntmps11
        go_wp2_with fail
        refine (walkFact_any _).mono ?_
        rintro e w1 ⟨rfl, hB1⟩
        go_wp2_with fail
        refine (from_ok m f _ ls _ ((hr.later (below_alloc' w (.cells #[.int .i64 qa, .int .i64 qb] 34))).later hB1) HG.out hfm).mono ?_
        rintro e w2 ⟨x, ax, cx, rfl, hx, hrx, hB2⟩
        go_wp2
        go_ret
        exact ⟨rfl, below_c (below_c (below_alloc' _ _) hB1) hB2⟩
      · have hv : ∃ av cv, v = .slice av ls.length cv := by obtain ⟨av, cv, hv, _⟩ := hr; exact ⟨av, cv, hv⟩
        obtain ⟨av, cv, rfl⟩ := hv
        have hll : ((ls.length : Int) == 24) = false := by simp; omega
        obtain ⟨i0, hi, hz0, hz1, hz2⟩ := info_parts info_line
        have hq1 : (w.alloc (.cells #[.int .i64 qa, .int .i64 qb] 34)).cell? ⟨w.heap.size, 0, none⟩ = some (.int .i64 qa) := cell_of_row _ _ _ _ _ _ (World.alloc_heap_new w _)
        have hq2 : (w.alloc (.cells #[.int .i64 qa, .int .i64 qb] 34)).cell? ⟨w.heap.size, 1, none⟩ = some (.int .i64 qb) := cell_of_row _ _ _ _ _ _ (World.alloc_heap_new w _)
        have hsz : w.heap.size < (w.alloc (.cells #[.int .i64 qa, .int .i64 qb] 34)).heap.size := by simp
        have hB0 := below_alloc' w (.cells #[.int .i64 qa, .int .i64 qb] 34)
        generalize hw0 : w.alloc (.cells #[.int .i64 qa, .int .i64 qb] 34) = w0 at *
        go_enter Try.func11, Try.ntmps11
        go_wp2_with fail
        refine (walkFact_any _).mono ?_
        rintro e w1 ⟨rfl, hB1⟩
        go_wp2_with fail
        refine (from_ok m f _ ls _ (hr0.later hB1) HG.out hfm).mono ?_
        rintro e w2 ⟨x, ax, cx, rfl, hx, hrx, hB2⟩
        have hB02 := below_c hB1 hB2
        have hr2 := hr0.later hB02
        have tok : True := trivial
        go_wp2_with (first
          | (at_builtin; have _t := tok; refine wpl_app0 _ _ _ hr2 (by rw [cellsOf_length]) rfl rfl Try.underlying22 hi hz0 hz1 hz2 rfl (by decide) rfl rfl (cellsOf_one _) (by decide) (by omega) ?_; intro v3 w3 hown3 hB3; clear tok; have hB03 := below_c hB02 hB3; have hq13 := (hB03.cell (p := ⟨w.heap.size, 0, none⟩) hsz).trans hq1; have hq23 := (hB03.cell (p := ⟨w.heap.size, 1, none⟩) hsz).trans hq2)
          | (at_builtin; go_must (refine wpl_app _ _ _ (AppTo.refl hown3) rfl rfl Try.underlying22 hi hz0 hz1 hz2 rfl (by decide) rfl rfl rfl (by simp [Value.oneCell']) (by decide) (by omega) hB3.size ?_); intro v4 w4 hA4 hne4 hst4))
        have hall : LinesRd w4 v4 (ls ++ [(qa, qb)]) := by
          show Rd w4 v4 (ls ++ [(qa, qb)]).length (cellsOf (ls ++ [(qa, qb)]))
          rw [cellsOf_append, List.length_append]
          exact rd_of_owns hA4.own
        have hB24 := hB3.trans hst4
        have hB04 := below_c hB02 hB24
        clear hq13 hq23 hA4 hne4 hst4 hown3 hB3 hB03
        by_cases hc2 : chk m (ls ++ [(qa, qb)]) = 0
        · obtain ⟨m', e', hg2⟩ := good_of hc2
          obtain rfl : m' = m := by omega
          have HG2 := Lib.hid hg2
          have hgi := good_in hg2
          clear hc2 hg2 e'
          simp only at hgi
          obtain ⟨a, rfl⟩ := Int.eq_ofNat_of_zero_le hgi.1
          obtain ⟨b, rfl⟩ := Int.eq_ofNat_of_zero_le hgi.2.2.1
          have ham : a < m' := by omega
          have hbm : b < m' := by omega
          have HQa := Lib.hid (decide_eq_true (show 0 ≤ (a : Int) ∧ (a : Int) ≤ (m' : Int) - 1 by omega))
          have HQb := Lib.hid (decide_eq_true (show 0 ≤ (b : Int) ∧ (b : Int) ≤ (m' : Int) - 1 by omega))
          refine (from_ok m' f _ _ _ hall HG2.out hfm).mono ?_
          rintro e w5 ⟨y, ay, cy, rfl, hy, hry, hB5⟩
          have hB05 := below_c hB04 hB5
          go_wp2_with fail
          refine (parts_ok m' _ ls _ (hr0.later hB05) HG.out).mono ?_
          rintro e w6 ⟨p, ap, cp, rfl, hp, hrp, hB6⟩
          have hB06 := below_c hB05 hB6
          go_wp2_with fail
          refine (ring_ok m' _ _ _ (hall.later (below_c hB5 hB6)) HG2.out).mono ?_
          rintro e w7 ⟨k, rfl, hk, hB7⟩
          have hB07 := below_c hB06 hB7
          have hmore := more_ring HG.out HG2.out hp hk ham hbm
          have hdm := fun i (j : Nat) => dist_more hx hy (more_adj HG.out HG2.out) j i
          have hrx7 := hrx.later (below_c hB24 (below_c hB5 (below_c hB6 hB7)))
          have hry7 := hry.later (below_c hB6 hB7)
          have hrp7 := hrp.later hB7
          have hq17 := (hB07.cell (p := ⟨w.heap.size, 0, none⟩) hsz).trans hq1
          have hq27 := (hB07.cell (p := ⟨w.heap.size, 1, none⟩) hsz).trans hq2
          have hr7 := hr0.later hB07
          have hsz7 : w.heap.size < w7.heap.size := Nat.lt_of_lt_of_le hsz hB07.size
          obtain ⟨bx, ox, rfl, hcx1, hcx2, _⟩ := rd_cells hrx7 hx.len hm1
          obtain ⟨by', oy, rfl, hcy1, hcy2, _⟩ := rd_cells hry7 hy.len hm1
          obtain ⟨bp, op, rfl, hcp1, hcp2, _⟩ := rd_cells hrp7 hp.len hm1
          unfold maxLen at hcx2 hcy2 hcp2
          have hxl := hx.len
          have hyl := hy.len
          have hpl := hp.len
          have HDM : Hid (∀ i, 0 ≤ at1 x i → 0 ≤ at1 y i ∧ at1 y i ≤ at1 x i) := fun i h => hdm i (at1 x i).toNat (by omega)
          have HMORE := Lib.hid hmore
          have hks := hk.small
          have hkp := hk.pos
          clear hx hy hp hk hrx hry hrp hr hr0 hr2 hB1 hB2 hB5 hB6 hB7 hB24 hq1 hq2 hgi hdm hmore hB02 hB04 hB05 hB06 hall
          go_wp2_with fail
          refine (in_any _ _ _ _).mono ?_
          rintro e w8 ⟨rfl, rfl⟩
          first | rw [HQa.out] | (rw [w1', HQa.out])
          go_wp2_with fail
          refine (in_any _ _ _ _).mono ?_
          rintro e w8 ⟨rfl, rfl⟩
          first | rw [HQb.out] | (rw [w1', HQb.out])
          go_wp2_with fail
          go_loopw [18] (fun i wr => ∃ j : Nat, j ≤ m' ∧ i = .int .i64 j ∧ Below w7.heap.size w7 wr) (fun i _ => m' - (intOf i).toNat)
          case atStart => exact ⟨0, by omega, rfl, Below.refl _ _⟩
          case round =>
            obtain ⟨j, hj, rfl, hbr⟩ := hrel
            have hrx8 := hrx7.later hbr
            have hry8 := hry7.later hbr
            have hrp8 := hrp7.later hbr
            have hr8 := hr7.later hbr
            have hq18 := (hbr.cell (p := ⟨w.heap.size, 0, none⟩) hsz7).trans hq17
            have hq28 := (hbr.cell (p := ⟨w.heap.size, 1, none⟩) hsz7).trans hq27
            have hB08 := below_c hB07 hbr
            by_cases hlt : j < m'
            · have hji : (j : Int) < (m' : Int) := by omega
              have hcxj := rd_at hrx8 hxl hlt
              have hcyj := rd_at hry8 hyl hlt
              have hdj := HDM.out j
              clear hrx8 hry8 hrp8 hr8 hq18 hq28
              generalize at1 x j = xj at *
              generalize at1 y j = yj at *
              rcases Int.lt_or_le xj 0 with hxj | hxj
              · have e1 : decide (xj ≥ 0) = false := by simp; omega
                have e1' : decide (0 ≤ xj) = false := by simp; omega
                clear hxj hdj
                go_wp2
                go_quiet (fail)
                go_wp2
                go_roundw
                case rel => exact ⟨j + 1, by omega, by go_num, hbr.trans ((below_drewN' _ _).mono hbr.size)⟩
                case measure => simp [intOf]; omega
              · obtain ⟨hd1, hd2⟩ := hdj hxj
                have e1 : decide (xj ≥ 0) = true := by simp; omega
                have e1' : decide (0 ≤ xj) = true := by simp; omega
                have e2 : decide (yj < 0) = false := by simp; omega
                have e3 : decide (yj > xj) = false := by simp; omega
                have e3' : decide (xj < yj) = false := by simp; omega
                clear hxj hdj hd1 hd2
                go_wp2
                go_quiet (fail)
                go_wp2
                go_roundw
                case rel => exact ⟨j + 1, by omega, by go_num, hbr.trans ((below_drewN' _ _).mono hbr.size)⟩
                case measure => simp [intOf]; omega
            · have hai : (a : Int) < (m' : Int) := by omega
              have hbi : (b : Int) < (m' : Int) := by omega
              have hpa := rd_at hrp8 hpl ham
              have hpb := rd_at hrp8 hpl hbm
              clear hrx8 hry8 hrp8
              have hm0 := HMORE.out
              generalize at1 p a = pa at *
              generalize at1 p b = pb at *
              by_cases hpp : pa = pb
              · have e1 : (pa != pb) = false := by simp [hpp]
                cases hnr : near ls a b with
                | false =>
                  have HN := Lib.hid hnr
                  have hk0 := hm0 hpp hnr
                  have e2 : decide (k > 0) = true := by simp; omega
                  have e2' : decide (0 < k) = true := by simp; omega
                  clear hnr hk0 hpp hm0
                  go_wp2
                  go_quiet ((go_at_call 16; refine (refBeside_any _ ls a b _ (hr8.drewN _)).mono ?_; rintro e w' ⟨rfl, rfl⟩; exact ⟨ret_bool HN.out, _, rfl⟩))
                  go_wp2
                  go_ret
                  exact ⟨rfl, below_c hB0 (below_c hB08 (below_drewN' _ _))⟩
                | true =>
                  have HN := Lib.hid hnr
                  clear hnr hpp hm0
                  go_wp2
                  go_quiet ((go_at_call 16; refine (refBeside_any _ ls a b _ (hr8.drewN _)).mono ?_; rintro e w' ⟨rfl, rfl⟩; exact ⟨ret_bool HN.out, _, rfl⟩))
                  go_wp2
                  go_ret
                  exact ⟨rfl, below_c hB0 (below_c hB08 (below_drewN' _ _))⟩
              · have e1 : (pa != pb) = true := by simp [hpp]
                have HN : Hid (near ls a b = near ls a b) := rfl
                clear hpp hm0
                go_wp2
                go_quiet ((go_at_call 16; refine (refBeside_any _ ls a b _ (hr8.drewN _)).mono ?_; rintro e w' ⟨rfl, rfl⟩; exact ⟨ret_bool HN.out, _, rfl⟩))
                go_wp2
                go_ret
                exact ⟨rfl, below_c hB0 (below_c hB08 (below_drewN' _ _))⟩
        · refine (from_bad m _ _ f _ hall hc2).mono ?_
          rintro e w5 ⟨rfl, hB5⟩
          have HC2 := Lib.hid (errOf_pos hc2)
          go_wp2
          go_ret
          exact ⟨rfl, below_c hB0 (below_c hB04 hB5)⟩
    · go_enter Try.func11, Try.ntmps11
      go_wp2_with fail
      refine (walkFact_any _).mono ?_
      rintro e w1 ⟨rfl, hB1⟩
      go_wp2_with fail
      refine (from_out m _ ls f _ (hr0.later hB1) HG.out hf).mono ?_
      rintro e w2 ⟨rfl, hB2⟩
      go_wp2
      go_ret
      exact ⟨rfl, below_c (below_c (below_alloc' _ _) hB1) hB2⟩
  · go_enter Try.func11, Try.ntmps11
    go_wp2_with fail
    refine (walkFact_any _).mono ?_
    rintro e w1 ⟨rfl, hB1⟩
    go_wp2_with fail
    refine (from_bad n _ ls f _ (hr0.later hB1) hc).mono ?_
    rintro e w2 ⟨rfl, hB2⟩
    go_wp2
    go_ret
    exact ⟨rfl, below_c (below_c (below_alloc' _ _) hB1) hB2⟩

end Go.Proofs.Ythlnejfojaldnaa
