/- What the document's functions for numbers as bits return: the walks. Conditions: in each statement. -/
import Derived.Test.YtlfinlfmlnclhaaDoorElias3
import Derived.Test.YtlfinlfmlnclhaaDoorRefLines
namespace Go.Proofs.YtlfinlfmlnclhaaDoor
open Go.RowKit
open El (allIn)

set_option maxHeartbeats 400000 in
theorem refAll_any (v : Value) (n : Nat) (xs : List Int) (lo hi : Int) (w : World) (hr : Rd w v n (ints xs)) (hx : xs.length = n) :
    Calls Tryd.prog 78 #[v, .int .i64 lo, .int .i64 hi] w fun e w' => e = .returned (.bool (allIn xs lo hi)) ∧ w = w' := by
  obtain ⟨a, c, rfl, hnc, hcm, h0, hcell⟩ := hr
  unfold maxLen at hcm
  have HX := Lib.hid hx
  have H0 := Lib.hid h0
  clear hx h0
  go_enter Tryd.func78, Tryd.ntmps78
  go_wp2
  go_loop [7] (fun i => ∃ k : Nat, k ≤ n ∧ i = .int .i64 k ∧ allIn (xs.take k) lo hi = true) (fun i => n - (intOf i).toNat)
  case atStart => exact ⟨0, by omega, rfl, rfl⟩
  case round =>
    obtain ⟨k, hk, rfl, hall⟩ := hrel
    have HA := Lib.hid hall
    clear hall
    by_cases hlt : k < n
    · obtain ⟨b, off, rfl, hb, hc⟩ := hcell (by omega)
      have hkx : k < xs.length := by rw [HX.out]; exact hlt
      have hck := hc k _ (ints_get hkx)
      by_cases hin : lo ≤ xs[k] ∧ xs[k] ≤ hi
      · have hd := Lib.hid (decide_eq_true hin)
        go_wp2_with fail
        refine (refIn_any _ _ _ _).mono ?_
        rintro e w' ⟨rfl, rfl⟩
        rw [hd.out]
        go_wp2
        go_round
        case rel => exact ⟨k + 1, by omega, by go_num, allIn_take_succ xs lo hi k hkx HA.out hin⟩
        case measure => simp [intOf]; omega
      · have hd := Lib.hid (decide_eq_false hin)
        have hin' := Lib.hid hin
        clear hin
        go_wp2_with fail
        refine (refIn_any _ _ _ _).mono ?_
        rintro e w' ⟨rfl, rfl⟩
        rw [hd.out]
        go_wp2
        go_ret
        exact ⟨ret_bool (allIn_false xs lo hi k hkx hin'.out).symm, rfl⟩
    · go_wp2
      go_ret
      exact ⟨by rw [← HA.out, List.take_of_length_le (by rw [HX.out]; omega)]; rfl, rfl⟩

set_option maxHeartbeats 400000 in
theorem refBits_any (v : Value) (xs : List Int) (w : World) (hr : Rd w v xs.length (ints xs)) :
    Calls Tryd.prog 61 #[v] w fun e w' => e = .returned (.int .i64 (El.chk xs : Nat)) ∧ w = w' := by
  have hr' := hr
  obtain ⟨a, c, rfl, hnc, hcm, h0, hcell⟩ := hr
  unfold maxLen at hcm
  clear h0 hcell
  by_cases hl : 600 < xs.length
  · have hl' : (600 : Int) < (xs.length : Int) := by omega
    go_enter Tryd.func61, Tryd.ntmps61
    go_wp2
    go_ret
    exact ⟨by simp [El.chk, hl], rfl⟩
  · have hl' : (xs.length : Int) ≤ (600 : Int) := by omega
    cases hall : allIn xs 0 1
    all_goals
      have HA := Lib.hid hall
      clear hall
      go_enter Tryd.func61, Tryd.ntmps61
      go_wp2_with fail
      refine (refAll_any _ _ xs 0 1 _ hr' rfl).mono ?_
      rintro e w' ⟨rfl, rfl⟩
      rw [HA.out]
      go_wp2
      go_ret
      exact ⟨by simp [El.chk, hl, HA.out], rfl⟩

/-- a returned list of numbers, the caller's own -/
def RetRow (w : World) (xs : List Int) (e : Ending) (w' : World) : Prop :=
  ∃ a c, e = .returned (.slice a xs.length c) ∧ w'.ownsRow w.heap.size 3 1 (.slice a xs.length c) xs.length (ints xs) ∧ Below w.heap.size w w'

theorem RetRow.mk {w : World} {xs : List Int} {e : Ending} {w' : World} {v' : Value} {n : Nat} (he : e = .returned v') (h : w'.ownsRow w.heap.size 3 1 v' n (ints xs)) (hn : n = xs.length) (hb : Below w.heap.size w w') : RetRow w xs e w' := by
  subst hn
  obtain ⟨a, c, rfl⟩ := owns_slice h
  exact ⟨a, c, he, h, hb⟩

set_option maxHeartbeats 1000000 in
theorem refBehind_any (v : Value) (xs : List Int) (n : Int) (w : World) (hr : Rd w v xs.length (ints xs)) (hp : 0 < xs.length) (hl : xs.length ≤ 100000) :
    Calls Tryd.prog 77 #[v, .int .i64 n] w (RetRow w (xs ++ [n])) := by
  obtain ⟨i0, hi, hz0, hz1, hz2⟩ := info_parts info_int
  have hr' := hr
  obtain ⟨a, c, rfl, hnc, hcm, _, _⟩ := hr'
  go_enter Tryd.func77, Tryd.ntmps77
  have tok : True := trivial
  go_wp2_with (first | (at_builtin; have _t := tok; refine wpl_appL _ _ _ (AppTo.refl (World.ownsRow_nil w w.heap.size 3 1)) hr (by simp [ints]) hp rfl rfl Tryd.underlying36 hi hz0 hz1 hz2 rfl (by decide) rfl rfl (ints_one _) (by decide) (by omega) (Nat.le_refl _) ?_; intro v1 w1 hA1 hne1 hst1; clear tok) | (at_builtin; go_must (refine wpl_app _ _ _ hA1 rfl rfl Tryd.underlying36 hi hz0 hz1 hz2 rfl (by decide) rfl rfl rfl (by simp [Value.oneCell']) (by decide) (by omega) (Nat.le_refl _) ?_); intro v2 w2 hA2 hne2 hst2))
  go_ret
  exact RetRow.mk rfl (by simpa [ints] using hA2.own) (by simp) hA2.of_nil

theorem El.low_half (m : Nat) : ∀ n, El.low (n / 2) m ++ [((n % 2 : Nat) : Int)] = El.low n (m + 1) := by
  induction m with
  | zero => intro n; simp [El.low]
  | succ m ih =>
    intro n
    rw [El.low, El.low, List.cons_append, ih n]
    congr 2
    rw [Nat.div_div_eq_div_mul, Nat.pow_succ, Nat.mul_comm 2]

theorem El.low_ne (n m : Nat) : 0 < (El.low n (m + 1)).length := by rw [El.low_length]; omega

theorem El.low_small (n : Nat) (h : n < 2) : El.low n (n.log2 + 1) = [(n : Int)] := by
  have : n = 0 ∨ n = 1 := by omega
  rcases this with rfl | rfl <;> decide +kernel

set_option maxHeartbeats 1000000 in
theorem refBinary_any : ∀ (k n : Nat) (w : World), n ≤ k → n ≤ 1000000 → Calls Tryd.prog 56 #[.int .i64 n] w (RetRow w (El.low n (n.log2 + 1))) := by
  intro k
  induction k with
  | zero =>
    intro n w hn _
    have HS := Lib.hid (El.low_small n (by omega))
    go_enter Tryd.func56, Tryd.ntmps56
    go_wp2
    go_ret
    rw [HS.out]
    exact RetRow.mk (n := 1) rfl (World.ownsRow_lit _ _ 1 (Nat.le_refl _) (by decide) rfl) rfl (below_alloc' _ _)
  | succ k ih =>
    intro n w hn hm
    by_cases h2 : n < 2
    · have HS := Lib.hid (El.low_small n h2)
      go_enter Tryd.func56, Tryd.ntmps56
      go_wp2
      go_ret
      rw [HS.out]
      exact RetRow.mk (n := 1) rfl (World.ownsRow_lit _ _ 1 (Nat.le_refl _) (by decide) rfl) rfl (below_alloc' _ _)
    · have HL := Lib.hid (El.log2_half n (by omega))
      have hlog : (n / 2).log2 ≤ 29 := El.log2_le_of _ 29 (by omega)
      have hd2 : IntKind.i64.wrap ((n : Int) / 2) = ((n / 2 : Nat) : Int) := by rw [IntWalk.i64_in _ (by omega)]; simp
      have hm2 : IntKind.i64.wrap ((n : Int) % 2) = ((n % 2 : Nat) : Int) := by rw [IntWalk.i64_in _ (by omega)]; simp
      go_enter Tryd.func56, Tryd.ntmps56
      go_wp2_with fail
      refine (ih (n / 2) _ (by omega) (by omega)).mono ?_
      rintro e w1 ⟨a1, c1, rfl, ho1, hB1⟩
      go_wp2_with fail
      refine (refBehind_any _ _ _ _ (rd_of_owns ho1) (El.low_ne _ _) (by rw [El.low_length]; omega)).mono ?_
      rintro e w2 ⟨a2, c2, rfl, ho2, hB2⟩
      go_wp2
      go_ret
      have e1 : El.low (n / 2) ((n / 2).log2 + 1) ++ [(n : Int) % 2] = El.low n (n.log2 + 1) := by
        have := El.low_half ((n / 2).log2 + 1) n
        rw [show ((n % 2 : Nat) : Int) = (n : Int) % 2 from by simp] at this
        rw [this, ← HL.out]
      simp only [List.length_append, List.length_singleton] at ho2
      rw [← e1]
      exact RetRow.mk rfl (owns_mono ho2 hB1.size) (by simp) (below_c hB1 hB2)

set_option maxRecDepth 100000 in
set_option maxHeartbeats 1000000 in
theorem refGamma_any (n : Nat) (w : World) (hm : n ≤ 1000000) : Calls Tryd.prog 22 #[.int .i64 n] w (RetRow w (El.gamma n)) := by
  obtain ⟨i0, hi, hz0, hz1, hz2⟩ := info_parts info_int
  have hlog : n.log2 ≤ 29 := El.log2_le_of _ 29 (by omega)
  have hll := El.low_length n (n.log2 + 1)
  have HG : Hid (El.gamma n = List.replicate n.log2 0 ++ El.low n (n.log2 + 1)) := rfl
  have HLen := Lib.hid (El.gamma_length n)
  have hne := El.low_ne n n.log2
  go_enter Tryd.func22, Tryd.ntmps22
  go_wp2_with fail
  refine (refBinary_any n n _ (Nat.le_refl _) hm).mono ?_
  rintro e w1 ⟨a1, c1, rfl, ho1, hB1⟩
  rw [hll] at ho1 ⊢
  have ez : (madeCells (Value.int .i64 0).cells (n.log2 * 1)).toList = ints (List.replicate n.log2 0) := by
    rw [Nat.mul_one]; show (madeCells #[Value.int .i64 0] n.log2).toList = _; rw [toList_madeCells_one]; simp
  go_wp2_with (first
    | (at_make; go_must (refine wpList_make_full _ rfl _ _ _ rfl w1.heap.size 3 i0 (.int .i64 0) 1 Tryd.underlying36 hi hz0 hz1 .i64 .i64 _ _ n.log2 rfl rfl (by simp) (by simp) (by rw [hz2]; omega) (by unfold maxLen; omega) (Nat.le_refl _) ?_); intro w2 hown hgr; rw [ez] at hown; have hB12 := below_c hB1 (below_iff_grown.2 hgr); have hrd := (rd_of_owns ho1).later (below_iff_grown.2 hgr); have hs2 := hB12.size)
    | (at_builtin; go_must (refine wpl_appL _ _ _ (AppTo.refl (owns_mono hown hB1.size)) hrd (by simp [ints, El.low_length]) (by omega) rfl rfl Tryd.underlying36 hi hz0 hz1 hz2 rfl (by decide) rfl rfl (ints_one _) (by decide) (by omega) hs2 ?_); intro v3 w3 hA3 hne3 hst3))
  clear ez
  go_ret
  rw [HG.out]
  exact RetRow.mk rfl (by simpa [ints] using hA3.own) (by rw [← HG.out, HLen.out]; omega) (hB12.trans hst3)

/-- 'append(s, x...)' at a step of a region that draws -/
theorem step_appL {P : Program} {ops : Array Oper} {o : Oper} {a : Act} {W : World} {K : Act → World → Prop} {Q : Exit → Act → World → Prop} {E : Prop} (s x : Operand) (t : TypeId)
    {w0 : World} {base : Nat} {e : TypeId} {size bytes : Nat} {v0 v : Value} {n : Nat} {xs : List Value} {i : TypeInfo} {z : Value} {ad : Option Addr} {m c : Nat} {news : List Value}
    (hA : AppTo w0 base e size v0 W v n xs) (hr : Rd W (.slice ad m c) m news) (hl : news.length = m * size)
    (hgd : o.guard = none) (ho : o.op = .call { callee := .builtin .append, args := #[s, x], argTypes := #[t, t] })
    (ht : P.underlying t = some (.slice e)) (hi : P.info? e = some i) (hz : i.zero = some z) (hsize : i.size = size) (hby : i.bytes = bytes) (hzs : z.cells.size = size) (hsz : 0 < size)
    (hs : a.eval s = v) (hx : a.eval x = .slice ad m c) (h1 : ∀ u ∈ news, u.oneCell' = true)
    (hby2 : bytes ≤ 1000) (h63 : n + m ≤ 100000000000) (hbase0 : base ≤ w0.heap.size)
    (h : ∀ v' w', AppTo w0 base e size v0 w' v' (n + m) (xs ++ news) → Below base W w' → K (a.put o.dst v') w') :
    if Region.wanted o (yielded ops a.tmps) = true then Oper.wp P o a W K Q else E := by
  have hw : Region.wanted o (yielded ops a.tmps) = true := by simp [Region.wanted, hgd]
  rw [if_pos hw]
  have hown := hA.own
  have hbase : base ≤ W.heap.size := Nat.le_trans hbase0 hA.grown.size
  rcases Nat.eq_zero_or_pos m with h0 | hm
  · subst h0
    obtain rfl : news = [] := List.eq_nil_of_length_eq_zero (by simpa using hl)
    have hrun : (Builtin.append_ #[t, t] o.type #[v, .slice ad 0 c]).run P W = .ok v W := by
      rcases hown.2 with ⟨rfl, rfl⟩ | ⟨g, cap, cur, rfl, hb, hg, hn, hcm, hs', ht'⟩
      · cases ad <;> simp [Builtin.append_, run_underlying ht, sizeOf, typeInfo, hi, Builtin.lenOf, Builtin.firstCells, loadCells, loadCellsFrom]
      · cases ad <;> simp [Builtin.append_, run_underlying ht, sizeOf, typeInfo, hi, Builtin.lenOf, Builtin.firstCells, loadCells, loadCellsFrom, hn, storeCells]
    unfold Oper.wp execOp
    simp only [ho, resolve, invoke, builtin, Sem.run_bind, Sem.run_pure, Result.andThen_ok, List.map_toArray, List.map_cons, List.map_nil, hs, hx, hrun]
    exact h _ _ (by simpa using hA) (Below.refl _ _)
  · obtain ⟨a1, c1, hv, _, _, _, hc⟩ := hr
    cases hv
    obtain ⟨b, off, rfl, _, hcell⟩ := hc hm
    have hbytes : (n + m) * bytes ≤ 140737488355328 := by
      have : (n + m) * bytes ≤ (n + m) * 1000 := Nat.mul_le_mul_left _ hby2
      omega
    have hnews : ∀ j u, news[j]? = some u → W.cell? ((⟨b, off, none⟩ : Addr).add j) = some u := by
      intro j u hu
      have hadd : (⟨b, off, none⟩ : Addr).add j = ⟨b, off + j, none⟩ := by unfold Addr.add; split <;> simp_all
      rw [hadd]; exact hcell j u hu
    obtain ⟨v', w', hr, h2, h3, h4, h5⟩ := run_append_own_at (P := P) W base t o.type e i z size bytes ht hi hz hsize hby hzs hsz v n xs hown ⟨b, off, none⟩ m c news hl hnews h1 (by unfold maxLen; omega) hbytes hbase
    unfold Oper.wp execOp
    simp only [ho, resolve, invoke, builtin, Sem.run_bind, Sem.run_pure, Result.andThen_ok, List.map_toArray, List.map_cons, List.map_nil, hs, hx, hr]
    have hst := AppTo.of_append0 h2 h3 h5
    exact h v' w' (hA.trans hst) (hst.below hown (Below.refl _ _) (Nat.le_refl _) hbase)

set_option maxRecDepth 100000 in
set_option maxHeartbeats 2000000 in
theorem refDelta_any (n : Nat) (w : World) (hm : n ≤ 1000000) : Calls Tryd.prog 23 #[.int .i64 n] w (RetRow w (El.delta n)) := by
  obtain ⟨i0, hi, hz0, hz1, hz2⟩ := info_parts info_int
  have hlog : n.log2 ≤ 29 := El.log2_le_of _ 29 (by omega)
  have hll := El.low_length n (n.log2 + 1)
  have hll2 := El.low_length n n.log2
  have HG : Hid (El.delta n = El.gamma (n.log2 + 1) ++ El.low n n.log2) := rfl
  have HLen := Lib.hid (El.delta_length n)
  have hgl := El.gamma_length (n.log2 + 1)
  have hgl2 : (n.log2 + 1).log2 ≤ 29 := El.log2_le_of _ 29 (by omega)
  have HD : Hid ((El.low n (n.log2 + 1)).drop 1 = El.low n n.log2) := by show _ = _; simp [El.low]
  go_enter Tryd.func23, Tryd.ntmps23
  go_wp2_with fail
  refine (refBinary_any n n _ (Nat.le_refl _) hm).mono ?_
  rintro e w1 ⟨a1, c1, rfl, ho1, hB1⟩
  have hrd1 := rd_of_owns ho1
  rw [hll] at ho1 hrd1 ⊢
  have hrd4 : RdB w1.heap.size w1 (.slice (if c1 = 1 then a1 else Option.map (fun x => { block := x.block, off := x.off + 1 }) a1) n.log2 (c1 - 1)) n.log2 (ints (El.low n n.log2)) := by
    obtain ⟨a4, hrun, hr4⟩ := slice_from (P := Tryd.prog) (B := w1.heap.size) 36 und_ints sized_ints hrd1 (by simp [ints, hll]) 1 (by omega)
    rw [ints_drop, HD.out] at hr4
    have h2 := hrun w1
    have hg1 : (1 : Int) ≤ (n.log2 : Int) + 1 := by omega
    rcases Nat.eq_zero_or_pos n.log2 with h0 | h0
    · rw [h0] at hr4 ⊢
      obtain ⟨_, _, e, x1, x2, x3, x4⟩ := hr4
      cases e
      exact ⟨_, _, rfl, by omega, by unfold maxLen at *; omega, fun _ => x3 (by simp), fun h => absurd h (by omega)⟩
    · obtain ⟨_, _, e, x1, x2, x3, x4⟩ := hrd1
      cases e
      obtain ⟨b, off, rfl, hb, hc⟩ := x4 (by omega)
      refine ⟨_, _, rfl, by omega, by unfold maxLen at *; omega, fun h => absurd h (by omega), fun _ => ⟨b, off + 1, by rw [if_neg (by omega)]; rfl, hb, fun j u hu => ?_⟩⟩
      have := hc (j + 1) u (by
        have e1 := congrArg (fun l => (ints l)[j]?) HD.out
        simp only [ints, List.map_drop] at e1
        rw [List.getElem?_drop] at e1
        rw [show j + 1 = 1 + j from by omega]
        exact e1.trans hu)
      rw [show off + 1 + j = off + (j + 1) from by omega]
      exact this
  have hg1 : (1 : Int) ≤ (n.log2 : Int) + 1 := by omega
  have hgp : 0 < (El.gamma (n.log2 + 1)).length := by omega
  have hwl : IntKind.i64.wrap ((n.log2 + 1 : Nat) : Int) = ((n.log2 + 1 : Nat) : Int) := IntWalk.i64_in _ (by omega)
  have K := refGamma_any (n.log2 + 1) w1.drew (by omega)
  go_wp2
  go_region_law (first
    | (go_simp; refine K.mono ?_; rintro e w2 ⟨a2, c2, rfl, ho2, hB2⟩; rw [hgl] at ho2)
    | (refine step_appL _ _ _ (AppTo.refl ho2) ((hrd4.rd (Nat.le_refl _)).later ((below_drewN' _ 1).trans hB2)) (by simp [ints, El.low_length]) rfl rfl Tryd.underlying36 hi hz0 hz1 hz2 rfl (by decide) rfl rfl (ints_one _) (by decide) (by omega) hB2.size ?_; intro v3 w3 hA3 hst3))
  all_goals
    have hw1 : Below w.heap.size w w1.drew := hB1.trans ((below_drewN' w1 1).mono hB1.size)
    have hw2 := below_c hw1 hB2
    try go_wp2
  all_goals
    go_ret
    rw [HG.out]
    exact RetRow.mk rfl (owns_mono (by simpa [ints] using hA3.own) hw1.size) (by rw [← HG.out, HLen.out]) (below_c hw1 (hB2.trans hst3))

end Go.Proofs.YtlfinlfmlnclhaaDoor
