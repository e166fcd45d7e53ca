/- DegreeSays returns true for every input: the walk. Conditions: the listed variable holds its handle. -/
import Derived.Test.YtgjkefniknbdeaaDoorRefHavel
import Derived.Test.YtgjkefniknbdeaaDoorMadeP
import Derived.Test.YtgjkefniknbdeaaDoorDegCan
namespace Go.Proofs.YtgjkefniknbdeaaDoor
open Go.RowKit Gr

/-- numbers with which nothing is wrong -/
theorem nat_of {xs : List Int} (h : degChk xs = 0) : ∃ (m : Nat) (N : List Nat), xs = N.map (fun (i : Nat) => (i : Int)) ∧ N.length = m + 1 ∧ m ≤ 7 ∧ ∀ x ∈ N, x ≤ 7 := by
  obtain ⟨h1, h2, h3⟩ := degChk_zero.1 h
  have e : (xs.map Int.toNat).map (fun (i : Nat) => (i : Int)) = xs := by
    rw [List.map_map]
    conv => rhs; rw [← List.map_id xs]
    exact List.map_congr_left fun x hx => by have := h3 x hx; show ((x.toNat : Nat) : Int) = x; omega
  refine ⟨xs.length - 1, xs.map Int.toNat, e.symm, by simp; omega, by omega, fun x hx => ?_⟩
  obtain ⟨y, hy, rfl⟩ := List.mem_map.1 hx
  have := h3 y hy
  omega
theorem ints_sameN (v1 v2 : Value) (n : Nat) (xs : List Int) (w : World) (hx : xs.length = n) (hr1 : Rd w v1 n (ints xs)) (hr2 : Rd w v2 n (ints xs)) :
    Calls Tryd.prog 15 #[v1, v2] w fun e w' => e = .returned (.bool true) ∧ Below w.heap.size w w' := by
  subst hx
  exact ints_same' v1 v2 xs w hr1 hr2

theorem sum_castS (l : List Nat) : (l.map fun (i : Nat) => (i : Int)).sum = ((l.sum : Nat) : Int) := by
  induction l with
  | nil => rfl
  | cons a l ih => rw [List.map_cons, List.sum_cons, List.sum_cons, ih]; omega
theorem rightI_castS (s : List Nat) (k : Nat) : rightI (s.map fun (i : Nat) => (i : Int)) k (s.length - (k + 1)) = ((k * (k + 1) + ((s.drop (k + 1)).map fun b => min b (k + 1)).sum : Nat) : Int) := by
  unfold rightI
  rw [List.take_of_length_le (by simp), ← List.map_drop, List.map_map]
  have e : ((s.drop (k + 1)).map ((fun b : Int => min b ((k : Int) + 1)) ∘ fun (i : Nat) => (i : Int))) = ((s.drop (k + 1)).map fun b => min b (k + 1)).map fun (i : Nat) => (i : Int) := by
    rw [List.map_map]
    refine List.map_congr_left fun b _ => ?_
    simp only [Function.comp_apply]
    omega
  rw [e, sum_castS]
  simp
theorem canI_castS (s : List Nat) : canI (s.map fun (i : Nat) => (i : Int)) = canN s := by
  unfold canI canN
  rw [sum_castS, List.length_map]
  congr 1
  · rw [decide_eq_decide]; omega
  · rw [decide_eq_decide]
    refine forall_congr' fun k => imp_congr_right fun hk => ?_
    unfold okI
    rw [List.length_map, rightI_castS, ← List.map_take, sum_castS]
    omega
/-- the sums say what is made -/
theorem can_hav_is {N : List Nat} (h0 : 0 < N.length) (h8 : N.length ≤ 8) (h7 : ∀ x ∈ N, x ≤ 7) : canI (dsort (N.map fun (i : Nat) => (i : Int))) = (hav (N.sum + 1) N).isSome := by
  obtain ⟨ys, h1, h2⟩ := perm_map (fun (i : Nat) => (i : Int)) (dsort_perm (N.map fun (i : Nat) => (i : Int))) N rfl
  have hs : (dsort (N.map fun (i : Nat) => (i : Int))).Pairwise fun x y => y ≤ x := by
    have := List.pairwise_mergeSort (le := fun x y : Int => decide (y ≤ x)) (fun a b c h1 h2 => by simp at *; omega) (fun a b => by simp; omega) (N.map fun (i : Nat) => (i : Int))
    exact this.imp fun h => by simpa using h
  rw [h2] at hs ⊢
  rw [canI_castS, hav_iff h0 h8 h7 (Nat.lt_succ_self _) h1 ((List.pairwise_map.1 hs).imp fun h => by omega)]

-- the second half: numbers with which something is wrong

-- the second half: numbers with which nothing is wrong

-- wrong lines: the first half behind the loop

set_option maxRecDepth 100000 in
set_option maxHeartbeats 4000000 in
theorem degreeSays_bad {w : World} (hh : Handle w) (n : Int) {v vd : Value} {ls : List Ln} {xs : List Int} (hr : LinesRd w v ls) (hd : Rd w vd xs.length (ints xs)) (hc : chk n ls ≠ 0) :
    Calls Tryd.prog 5 #[.int .i64 n, v, vd] w fun e w' => e = .returned (.bool true) ∧ Below w.heap.size w w' := by
  have K := fun w hr => degOf_bad n v ls w hr hc
  have KR := refLines_any n v ls w hr
  have HC := Lib.hid hc
  have hb : (((chk n ls : Nat) : Int) == 0) = false := by rw [beq_eq_false_iff_ne]; omega
  generalize chk n ls = q at *
  clear hc
  go_enter Tryd.func5, Tryd.ntmps5
  go_wp2_with fail
  refine KR.mono ?_
  rintro e w0 ⟨rfl, hB0⟩
  clear KR
  go_wp2_with fail
  refine wp_loop_rounds 1 ?_
  rw [rounds_succ]
  by_cases hn : (0 : Int) < n
  · go_wp2_with fail
    refine (K _ (hr.later hB0)).mono ?_
    rintro e w1 ⟨rfl, hB1⟩
    have hB01 := below_c hB0 hB1
    go_wp2_with fail
    refine (errorSame q _ HC.out (hh.later hB01)).mono ?_
    rintro e w2 ⟨rfl, hB2⟩
    have hB02 := below_c hB01 hB2
    go_wp2_with fail
    refine (ints_nil _).mono ?_
    rintro e w3 ⟨rfl, hB3⟩
    have hB03 := below_c hB02 hB3
    clear K hB0 hB1 hB01 hB2 hB02 hB3
    by_cases hcx : degChk xs = 0
    · have KD := refDegrees_any vd xs.length xs w3 (hd.later hB03) rfl
      have KC := degCheck_any vd xs.length xs w3 (hd.later hB03) rfl
      have he0 : errOf 0 = .nilIface := rfl
      rw [hcx] at KD KC
      rw [he0] at KC
      obtain ⟨h1, h2, h3⟩ := degChk_zero.1 hcx
      have KCA := fun w hr => can_ok vd xs.length xs w hr rfl (by omega) (by omega) h3
      obtain ⟨m, N, hxN, hN, hm, h7⟩ := nat_of hcx
      have hcan := can_hav_is (N := N) (by omega) (by omega) h7
      rw [← hxN] at hcan
      rw [hcan] at KCA
      have hxl : xs.length = m + 1 := by rw [hxN]; simp [hN]
      have hxi : ints xs = nats N := by rw [hxN, nats_intsH]
      have KH := fun w (hr : Rd w vd (m + 1) (nats N)) => refHavel_ok vd m N w hr hN hm h7
      generalize hav (N.sum + 1) N = rr at *
      clear hcan hxN h1 h2 h3 hcx he0
      go_wp2_with fail
      refine KD.mono ?_
      rintro e w' ⟨rfl, rfl⟩
      go_wp2_with fail
      refine KC.mono ?_
      rintro e w' ⟨rfl, rfl⟩
      go_wp2_with fail
      refine (errorNone _ (hh.later hB03)).mono ?_
      rintro e wq1 ⟨rfl, hBq1⟩
      have hBq01 := below_c hB03 hBq1
      have hd1 := hd.later hBq01
      rw [hxi, hxl] at hd1
      clear KD KC
      go_wp2_with fail
      refine (KH _ hd1).mono ?_
      rintro e wq2 (⟨rfl, rfl, hBq2⟩ | ⟨L, aL, cL, rfl, rfl, _, hBq2⟩)
      · have hBq02 := below_c hBq01 hBq2
        go_wp2_with fail
        refine (KCA _ (hd.later hBq02)).mono ?_
        rintro e wq3 ⟨rfl, hBq3⟩
        have hBq03 := below_c hBq02 hBq3
        go_wp2_with fail
        refine (errorNone _ (hh.later hBq03)).mono ?_
        rintro e wq4 ⟨rfl, hBq4⟩
        have hBq04 := below_c hBq03 hBq4
        go_wp2
        go_ret
        exact ⟨rfl, hBq04⟩
      · have hBq02 := below_c hBq01 hBq2
        go_wp2_with fail
        refine (KCA _ (hd.later hBq02)).mono ?_
        rintro e wq3 ⟨rfl, hBq3⟩
        have hBq03 := below_c hBq02 hBq3
        go_wp2_with fail
        refine (errorNone _ (hh.later hBq03)).mono ?_
        rintro e wq4 ⟨rfl, hBq4⟩
        have hBq04 := below_c hBq03 hBq4
        go_wp2
        go_ret
        exact ⟨rfl, hBq04⟩
    · have KD := refDegrees_any vd xs.length xs w3 (hd.later hB03) rfl
      have KC := degCheck_any vd xs.length xs w3 (hd.later hB03) rfl
      have KCA := fun w hr => can_bad vd xs.length xs w hr rfl hcx
      have hxb : (((degChk xs : Nat) : Int) == 0) = false := by rw [beq_eq_false_iff_ne]; omega
      have HCX := Lib.hid (errOf_pos hcx)
      generalize degChk xs = r at *
      clear hcx
      go_wp2_with fail
      refine KD.mono ?_
      rintro e w' ⟨rfl, rfl⟩
      go_wp2_with fail
      refine KC.mono ?_
      rintro e w' ⟨rfl, rfl⟩
      go_wp2_with fail
      refine (errorSome r _ (hh.later hB03)).mono ?_
      rintro e wq1 ⟨rfl, hBq1⟩
      have hBq01 := below_c hB03 hBq1
      clear KD KC
      go_wp2_with fail
      refine (KCA _ (hd.later hBq01)).mono ?_
      rintro e w' ⟨rfl, rfl⟩
      rw [← HCX.out]
      go_wp2_with fail
      refine (errorSome r _ (hh.later hBq01)).mono ?_
      rintro e wq2 ⟨rfl, hBq2⟩
      have hBq02 := below_c hBq01 hBq2
      go_wp2
      go_ret
      exact ⟨rfl, hBq02⟩
  · go_wp2_with fail
    refine (K _ (hr.later hB0)).mono ?_
    rintro e w1 ⟨rfl, hB1⟩
    have hB01 := below_c hB0 hB1
    go_wp2_with fail
    refine (errorSame q _ HC.out (hh.later hB01)).mono ?_
    rintro e w2 ⟨rfl, hB2⟩
    have hB02 := below_c hB01 hB2
    go_wp2_with fail
    refine (ints_nil _).mono ?_
    rintro e w3 ⟨rfl, hB3⟩
    have hB03 := below_c hB02 hB3
    clear K hB0 hB1 hB01 hB2 hB02 hB3
    by_cases hcx : degChk xs = 0
    · have KD := refDegrees_any vd xs.length xs w3 (hd.later hB03) rfl
      have KC := degCheck_any vd xs.length xs w3 (hd.later hB03) rfl
      have he0 : errOf 0 = .nilIface := rfl
      rw [hcx] at KD KC
      rw [he0] at KC
      obtain ⟨h1, h2, h3⟩ := degChk_zero.1 hcx
      have KCA := fun w hr => can_ok vd xs.length xs w hr rfl (by omega) (by omega) h3
      obtain ⟨m, N, hxN, hN, hm, h7⟩ := nat_of hcx
      have hcan := can_hav_is (N := N) (by omega) (by omega) h7
      rw [← hxN] at hcan
      rw [hcan] at KCA
      have hxl : xs.length = m + 1 := by rw [hxN]; simp [hN]
      have hxi : ints xs = nats N := by rw [hxN, nats_intsH]
      have KH := fun w (hr : Rd w vd (m + 1) (nats N)) => refHavel_ok vd m N w hr hN hm h7
      generalize hav (N.sum + 1) N = rr at *
      clear hcan hxN h1 h2 h3 hcx he0
      go_wp2_with fail
      refine KD.mono ?_
      rintro e w' ⟨rfl, rfl⟩
      go_wp2_with fail
      refine KC.mono ?_
      rintro e w' ⟨rfl, rfl⟩
      go_wp2_with fail
      refine (errorNone _ (hh.later hB03)).mono ?_
      rintro e wq1 ⟨rfl, hBq1⟩
      have hBq01 := below_c hB03 hBq1
      have hd1 := hd.later hBq01
      rw [hxi, hxl] at hd1
      clear KD KC
      go_wp2_with fail
      refine (KH _ hd1).mono ?_
      rintro e wq2 (⟨rfl, rfl, hBq2⟩ | ⟨L, aL, cL, rfl, rfl, _, hBq2⟩)
      · have hBq02 := below_c hBq01 hBq2
        go_wp2_with fail
        refine (KCA _ (hd.later hBq02)).mono ?_
        rintro e wq3 ⟨rfl, hBq3⟩
        have hBq03 := below_c hBq02 hBq3
        go_wp2_with fail
        refine (errorNone _ (hh.later hBq03)).mono ?_
        rintro e wq4 ⟨rfl, hBq4⟩
        have hBq04 := below_c hBq03 hBq4
        go_wp2
        go_ret
        exact ⟨rfl, hBq04⟩
      · have hBq02 := below_c hBq01 hBq2
        go_wp2_with fail
        refine (KCA _ (hd.later hBq02)).mono ?_
        rintro e wq3 ⟨rfl, hBq3⟩
        have hBq03 := below_c hBq02 hBq3
        go_wp2_with fail
        refine (errorNone _ (hh.later hBq03)).mono ?_
        rintro e wq4 ⟨rfl, hBq4⟩
        have hBq04 := below_c hBq03 hBq4
        go_wp2
        go_ret
        exact ⟨rfl, hBq04⟩
    · have KD := refDegrees_any vd xs.length xs w3 (hd.later hB03) rfl
      have KC := degCheck_any vd xs.length xs w3 (hd.later hB03) rfl
      have KCA := fun w hr => can_bad vd xs.length xs w hr rfl hcx
      have hxb : (((degChk xs : Nat) : Int) == 0) = false := by rw [beq_eq_false_iff_ne]; omega
      have HCX := Lib.hid (errOf_pos hcx)
      generalize degChk xs = r at *
      clear hcx
      go_wp2_with fail
      refine KD.mono ?_
      rintro e w' ⟨rfl, rfl⟩
      go_wp2_with fail
      refine KC.mono ?_
      rintro e w' ⟨rfl, rfl⟩
      go_wp2_with fail
      refine (errorSome r _ (hh.later hB03)).mono ?_
      rintro e wq1 ⟨rfl, hBq1⟩
      have hBq01 := below_c hB03 hBq1
      clear KD KC
      go_wp2_with fail
      refine (KCA _ (hd.later hBq01)).mono ?_
      rintro e w' ⟨rfl, rfl⟩
      rw [← HCX.out]
      go_wp2_with fail
      refine (errorSome r _ (hh.later hBq01)).mono ?_
      rintro e wq2 ⟨rfl, hBq2⟩
      have hBq02 := below_c hBq01 hBq2
      go_wp2
      go_ret
      exact ⟨rfl, hBq02⟩

set_option maxRecDepth 100000 in
set_option maxHeartbeats 4000000 in
theorem degreeSays_ok {w : World} (hh : Handle w) (n : Nat) {v vd : Value} {ls : List Ln} {xs : List Int} (hr : LinesRd w v ls) (hd : Rd w vd xs.length (ints xs)) (hg : GoodG n ls) (hc : chk n ls = 0) :
    Calls Tryd.prog 5 #[.int .i64 (n : Int), v, vd] w fun e w' => e = .returned (.bool true) ∧ Below w.heap.size w w' := by
  obtain ⟨i0, hi, hz0, hz1, hz2⟩ := info_parts info_int
  have K := fun w hr => degOf_ok n v ls w hr hg hc
  have KR := refLines_any n v ls w hr
  rw [hc] at KR
  have hn8 := hg.2.1
  have hDl := degI_length n ls
  clear hc hg
  go_enter Tryd.func5, Tryd.ntmps5
  go_wp2_with fail
  refine KR.mono ?_
  rintro e w0 ⟨rfl, hB0⟩
  clear KR
  go_wp2_with fail
  go_loopw [8, 9] (fun oo ii wr => ∃ k : Nat, k ≤ n ∧ ii = .int .i64 k ∧ wr.ownsRow w0.heap.size 3 1 oo k (ints ((degI n ls).take k)) ∧ Below w0.heap.size w0 wr) (fun _ ii _ => n - (intOf ii).toNat)
  case atStart => exact ⟨0, by omega, rfl, World.ownsRow_nil _ _ _ _, Below.refl _ _⟩
  case round =>
    obtain ⟨k, hk, rfl, ho, hB⟩ := hrel
    obtain ⟨ao, co, rfl⟩ := owns_slice ho
    by_cases hlt : k < n
    · have hki : (k : Int) < (n : Int) := by omega
      have hB0k := below_c hB0 hB
      have hkl : k < (degI n ls).length := by omega
      have HT : Hid ((degI n ls).take (k + 1) = (degI n ls).take k ++ [((nearU ls k n).length : Int)]) := by
        show _ = _
        rw [List.take_succ_eq_append_getElem hkl, degI_at, near_dg]
      have KN := refNear_any n v ls (k : Int) wr (hr.later hB0k) hn8
      have hnl := nearU_length ls k n
      generalize hNe : (nearU ls k n).length = x at *
      go_wp2_with fail
      refine KN.mono ?_
      rintro e w6 ⟨a6, c6, rfl, _, hB6⟩
      have ho6 := owns_later ho hB6
      have hB06 := below_c hB hB6
      have hs6 : w0.heap.size ≤ w6.heap.size := hB06.size
      clear KN
      go_wp2_with (at_builtin; go_must (refine wpl_app _ _ _ (AppTo.refl ho6) rfl rfl Tryd.underlying22 hi hz0 hz1 hz2 rfl (by decide) rfl rfl rfl (by simp [Value.oneCell']) (by decide) (by omega) hs6 ?_); intro v8 w8 hA8 hne8 hst8)
      go_roundw
      case rel =>
        refine ⟨k + 1, by omega, by go_num, ?_, hA8.below ho6 hB06 (Nat.le_refl _) hs6⟩
        rw [HT.out]
        simpa [ints] using hA8.own
      case measure => simp [intOf]; omega
    · obtain rfl : k = n := by omega
      have e : (degI k ls).take k = degI k ls := List.take_of_length_le (by omega)
      rw [e] at ho
      have ro := rd_of_owns ho
      have hB0k := below_c hB0 hB
      clear e ho
      generalize degI k ls = D at *
      go_wp2_with fail
      refine (K _ (hr.later hB0k)).mono ?_
      rintro e w1 ⟨ad, cd, rfl, od, hB1⟩
      have hB01 := below_c hB0k hB1
      have rd1 := rd_of_owns od
      rw [hDl] at rd1
      rw [hDl]
      have ro1 := ro.later hB1
      clear od
      go_wp2_with fail
      refine (errorNone _ (hh.later hB01)).mono ?_
      rintro e w2 ⟨rfl, hB2⟩
      have hB02 := below_c hB01 hB2
      go_wp2_with fail
      refine (ints_sameN _ _ k D _ hDl (rd1.later hB2) (ro1.later hB2)).mono ?_
      rintro e w3 ⟨rfl, hB3⟩
      have hB03 := below_c hB02 hB3
      clear K hB0 hB hB0k hB1 hB01 hB2 hB02 hB3 rd1 ro1 ro hi
      by_cases hcx : degChk xs = 0
      · have KD := refDegrees_any vd xs.length xs w3 (hd.later hB03) rfl
        have KC := degCheck_any vd xs.length xs w3 (hd.later hB03) rfl
        have he0 : errOf 0 = .nilIface := rfl
        rw [hcx] at KD KC
        rw [he0] at KC
        obtain ⟨h1, h2, h3⟩ := degChk_zero.1 hcx
        have KCA := fun w hr => can_ok vd xs.length xs w hr rfl (by omega) (by omega) h3
        obtain ⟨m, N, hxN, hN, hm, h7⟩ := nat_of hcx
        have hcan := can_hav_is (N := N) (by omega) (by omega) h7
        rw [← hxN] at hcan
        rw [hcan] at KCA
        have hxl : xs.length = m + 1 := by rw [hxN]; simp [hN]
        have hxi : ints xs = nats N := by rw [hxN, nats_intsH]
        have KH := fun w (hr : Rd w vd (m + 1) (nats N)) => refHavel_ok vd m N w hr hN hm h7
        generalize hav (N.sum + 1) N = rr at *
        clear hcan hxN h1 h2 h3 hcx he0
        go_wp2_with fail
        refine KD.mono ?_
        rintro e w' ⟨rfl, rfl⟩
        go_wp2_with fail
        refine KC.mono ?_
        rintro e w' ⟨rfl, rfl⟩
        go_wp2_with fail
        refine (errorNone _ (hh.later hB03)).mono ?_
        rintro e wq1 ⟨rfl, hBq1⟩
        have hBq01 := below_c hB03 hBq1
        have hd1 := hd.later hBq01
        rw [hxi, hxl] at hd1
        clear KD KC
        go_wp2_with fail
        refine (KH _ hd1).mono ?_
        rintro e wq2 (⟨rfl, rfl, hBq2⟩ | ⟨L, aL, cL, rfl, rfl, _, hBq2⟩)
        · have hBq02 := below_c hBq01 hBq2
          go_wp2_with fail
          refine (KCA _ (hd.later hBq02)).mono ?_
          rintro e wq3 ⟨rfl, hBq3⟩
          have hBq03 := below_c hBq02 hBq3
          go_wp2_with fail
          refine (errorNone _ (hh.later hBq03)).mono ?_
          rintro e wq4 ⟨rfl, hBq4⟩
          have hBq04 := below_c hBq03 hBq4
          go_wp2
          go_ret
          exact ⟨rfl, hBq04⟩
        · have hBq02 := below_c hBq01 hBq2
          go_wp2_with fail
          refine (KCA _ (hd.later hBq02)).mono ?_
          rintro e wq3 ⟨rfl, hBq3⟩
          have hBq03 := below_c hBq02 hBq3
          go_wp2_with fail
          refine (errorNone _ (hh.later hBq03)).mono ?_
          rintro e wq4 ⟨rfl, hBq4⟩
          have hBq04 := below_c hBq03 hBq4
          go_wp2
          go_ret
          exact ⟨rfl, hBq04⟩
      · have KD := refDegrees_any vd xs.length xs w3 (hd.later hB03) rfl
        have KC := degCheck_any vd xs.length xs w3 (hd.later hB03) rfl
        have KCA := fun w hr => can_bad vd xs.length xs w hr rfl hcx
        have hxb : (((degChk xs : Nat) : Int) == 0) = false := by rw [beq_eq_false_iff_ne]; omega
        have HCX := Lib.hid (errOf_pos hcx)
        generalize degChk xs = r at *
        clear hcx
        go_wp2_with fail
        refine KD.mono ?_
        rintro e w' ⟨rfl, rfl⟩
        go_wp2_with fail
        refine KC.mono ?_
        rintro e w' ⟨rfl, rfl⟩
        go_wp2_with fail
        refine (errorSome r _ (hh.later hB03)).mono ?_
        rintro e wq1 ⟨rfl, hBq1⟩
        have hBq01 := below_c hB03 hBq1
        clear KD KC
        go_wp2_with fail
        refine (KCA _ (hd.later hBq01)).mono ?_
        rintro e w' ⟨rfl, rfl⟩
        rw [← HCX.out]
        go_wp2_with fail
        refine (errorSome r _ (hh.later hBq01)).mono ?_
        rintro e wq2 ⟨rfl, hBq2⟩
        have hBq02 := below_c hBq01 hBq2
        go_wp2
        go_ret
        exact ⟨rfl, hBq02⟩

theorem degreeSays_any {w : World} (hh : Handle w) (n : Int) {v : Value} {ls : List Ln} (hr : LinesRd w v ls) {vd : Value} {xs : List Int} (hd : Rd w vd xs.length (ints xs)) :
    Calls Tryd.prog 5 #[.int .i64 n, v, vd] w fun e w' => e = .returned (.bool true) ∧ Below w.heap.size w w' := by
  by_cases hc : chk n ls = 0
  · obtain ⟨k, rfl, hg⟩ := good_of hc
    exact degreeSays_ok hh k hr hd hg hc
  · exact degreeSays_bad hh n hr hd hc
end Go.Proofs.YtgjkefniknbdeaaDoor
