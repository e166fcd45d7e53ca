/- GapsNear returns true for every input: the walk. Conditions: none. -/
import Derived.Test.YtnnhidbnjlpjiaaGapsFact
import Derived.Test.YtnnhidbnjlpjiaaGapsArith
namespace Go.Proofs.Ytnnhidbnjlpjiaa
open Go.RowKit
open El (at0 gAt gapsErr GapsOk lastOf arith)

set_option maxRecDepth 100000 in
set_option maxHeartbeats 4000000 in
theorem gapsNear_out (f m s : Int) (w : World) (h : ¬ ((0 ≤ f ∧ f ≤ 900000) ∧ (1 ≤ m ∧ m ≤ 30) ∧ (1 ≤ s ∧ s ≤ 3000))) :
    Calls Try.prog 5 #[.int .i64 f, .int .i64 m, .int .i64 s] w fun e w' => e = .returned (.bool true) ∧ Below w.heap.size w w' := by
  by_cases h1 : 0 ≤ f ∧ f ≤ 900000
  · have H1 := Lib.hid (decide_eq_true h1)
    by_cases h2 : 1 ≤ m ∧ m ≤ 30
    · have H2 := Lib.hid (decide_eq_true h2)
      have H3 := Lib.hid (decide_eq_false (show ¬ (1 ≤ s ∧ s ≤ 3000) from fun h3 => h ⟨h1, h2, h3⟩))
      clear h h1 h2
      go_enter Try.func5, Try.ntmps5
      go_wp2_with fail
      refine (gapsFact_any _).mono ?_
      rintro e w1 ⟨rfl, hB1⟩
      go_wp2_with fail
      refine (in_any _ _ _ _).mono ?_
      rintro e w2 ⟨rfl, rfl⟩
      rw [H1.out]
      go_wp2_with fail
      refine (in_any _ _ _ _).mono ?_
      rintro e w2 ⟨rfl, rfl⟩
      rw [H2.out]
      go_wp2_with fail
      refine (in_any _ _ _ _).mono ?_
      rintro e w2 ⟨rfl, rfl⟩
      rw [H3.out]
      go_wp2
      go_ret
      exact ⟨rfl, hB1⟩
    · have H2 := Lib.hid (decide_eq_false h2)
      clear h h1 h2
      go_enter Try.func5, Try.ntmps5
      go_wp2_with fail
      refine (gapsFact_any _).mono ?_
      rintro e w1 ⟨rfl, hB1⟩
      go_wp2_with fail
      refine (in_any _ _ _ _).mono ?_
      rintro e w2 ⟨rfl, rfl⟩
      rw [H1.out]
      go_wp2_with fail
      refine (in_any _ _ _ _).mono ?_
      rintro e w2 ⟨rfl, rfl⟩
      rw [H2.out]
      go_wp2
      go_ret
      exact ⟨rfl, hB1⟩
  · have H1 := Lib.hid (decide_eq_false h1)
    clear h h1
    go_enter Try.func5, Try.ntmps5
    go_wp2_with fail
    refine (gapsFact_any _).mono ?_
    rintro e w1 ⟨rfl, hB1⟩
    go_wp2_with fail
    refine (in_any _ _ _ _).mono ?_
    rintro e w2 ⟨rfl, rfl⟩
    rw [H1.out]
    go_wp2
    go_ret
    exact ⟨rfl, hB1⟩

set_option maxRecDepth 100000 in
set_option maxHeartbeats 8000000 in
theorem gapsNear_any (f m s : Int) (w : World) :
    Calls Try.prog 5 #[.int .i64 f, .int .i64 m, .int .i64 s] w fun e w' => e = .returned (.bool true) ∧ Below w.heap.size w w' := by
  by_cases h : (0 ≤ f ∧ f ≤ 900000) ∧ (1 ≤ m ∧ m ≤ 30) ∧ (1 ≤ s ∧ s ≤ 3000)
  · obtain ⟨h1, h2, h3⟩ := h
    have H1 := Lib.hid (decide_eq_true h1)
    have H2 := Lib.hid (decide_eq_true h2)
    have H3 := Lib.hid (decide_eq_true h3)
    obtain ⟨k, rfl⟩ : ∃ k : Nat, m = (k : Int) + 1 := ⟨(m - 1).toNat, by omega⟩
    have hk : k ≤ 29 := by omega
    obtain ⟨i0, hi, hz0, hz1, hz2⟩ := info_parts info_int
    have HA := Lib.hid (El.arith_ok (f := f) (s := 1) (k := k + 1) (by omega) h1 (by omega))
    have HB := Lib.hid (El.arith_ok (f := f) (s := s) (k := k + 1) (by omega) h1 h3)
    have HC := Lib.hid (El.arith_ok (f := f) (s := 1) (k := 0 + 1) (by omega) h1 (by omega))
    have ef : arith f 1 (0 + 1) = [f] := by simp [arith]
    rw [ef] at HC
    have la := El.write_arith f 1 k
    have lb := El.write_arith f 1 0
    have lc := El.write_arith f s k
    rw [ef] at lb
    rw [show (1 : Int).toNat = 1 from rfl, El.delta_one] at la lb
    have d1 := El.delta_some s.toNat
    have hkd : k ≤ k * (El.delta s.toNat).length := Nat.le_mul_of_pos_right _ d1
    have b1 := El.delta_short (show k + 2 ≤ 1000000 by omega)
    have b2 := El.delta_short (show (f + 1).toNat ≤ 1000000 by omega)
    have b3 := El.delta_short (show 0 + 2 ≤ 1000000 by omega)
    have b4 : k * (El.delta s.toNat).length ≤ 29 * 100 := Nat.mul_le_mul hk (El.delta_short (show s.toNat ≤ 1000000 by omega))
    have wm : IntKind.i64.wrap ((k : Int) + 1 + 1) = (k : Int) + 1 + 1 := IntWalk.i64_in _ (by omega)
    have em : ((k : Int) + 1 + 1).toNat = k + 2 := by omega
    go_enter Try.func5, Try.ntmps5
    go_wp2_with fail
    refine (gapsFact_any _).mono ?_
    rintro e w1 ⟨rfl, hB1⟩
    go_wp2_with fail
    refine (in_any _ _ _ _).mono ?_
    rintro e w2 ⟨rfl, rfl⟩
    rw [H1.out]
    go_wp2_with fail
    refine (in_any _ _ _ _).mono ?_
    rintro e w2 ⟨rfl, rfl⟩
    rw [H2.out]
    go_wp2_with fail
    refine (in_any _ _ _ _).mono ?_
    rintro e w2 ⟨rfl, rfl⟩
    rw [H3.out]
    go_wp2_with fail
    go_loopw [8, 9, 10] (fun g d i wr => ∃ j : Nat, j ≤ k + 1 ∧ i = .int .i64 j ∧ wr.ownsRow w1.heap.size 3 1 g j (ints (arith f 1 j)) ∧ wr.ownsRow w1.heap.size 3 1 d j (ints (arith f s j)) ∧ (g.ownBlock = none ∨ g.ownBlock ≠ d.ownBlock) ∧ Below w1.heap.size w1 wr) (fun _ _ i _ => k + 1 - (intOf i).toNat)
    case atStart => exact ⟨0, by omega, rfl, World.ownsRow_nil _ _ _ _, World.ownsRow_nil _ _ _ _, .inl rfl, Below.refl _ _⟩
    case round =>
      obtain ⟨j, hj, rfl, hog, hod, hne, hbr⟩ := hrel
      by_cases hlt : j < k + 1
      · have hji : (j : Int) < (k : Int) + 1 := by omega
        have hjs : 0 ≤ (j : Int) * s := Int.mul_nonneg (by omega) (by omega)
        have hjs2 : (j : Int) * s ≤ 29 * 3000 := Int.le_trans (Int.mul_le_mul_of_nonneg_right (show (j : Int) ≤ 29 by omega) (by omega)) (by omega)
        have wa : IntKind.i64.wrap (f + (j : Int)) = f + (j : Int) := IntWalk.i64_in _ (by omega)
        have wb : IntKind.i64.wrap ((j : Int) * s) = (j : Int) * s := IntWalk.i64_in _ (by omega)
        have wc : IntKind.i64.wrap (f + (j : Int) * s) = f + (j : Int) * s := IntWalk.i64_in _ (by omega)
        have hbs := hbr.size
        have tok : True := trivial
        go_wp2_with (first
          | (at_builtin; have _t := tok; go_must (refine wpl_app _ _ _ (AppTo.refl hog) rfl rfl Try.underlying26 hi hz0 hz1 hz2 rfl (by decide) rfl rfl rfl (by simp [Value.oneCell']) (by decide) (by omega) hbs ?_); intro g' w4 hA4 hne4 hst4; clear tok; obtain ⟨hod4, hne5⟩ := owns_beside hA4 hod hne; have hog4 := hA4.own; have hbr4 := hbr.trans hst4)
          | (at_builtin; go_must (refine wpl_app _ _ _ (AppTo.refl hod4) rfl rfl Try.underlying26 hi hz0 hz1 hz2 rfl (by decide) rfl rfl rfl (by simp [Value.oneCell']) (by decide) (by omega) hbr4.size ?_); intro d' w5 hA5 hne6 hst5))
        obtain ⟨hog5, hne7⟩ := owns_beside hA5 hog4 (apart_symm hne5)
        have hod5 := hA5.own
        go_roundw
        case rel =>
          refine ⟨j + 1, by omega, by go_num, ?_, ?_, apart_symm hne7, hbr4.trans hst5⟩
          · rw [El.arith_succ, Int.mul_one]; simpa using hog5
          · rw [El.arith_succ]; simpa using hod5
        case measure => simp [intOf]; omega
      · have hje : j = k + 1 := by omega
        subst hje
        have hji : ¬ ((k + 1 : Nat) : Int) < (k : Int) + 1 := by omega
        have hrg := rd_of_owns hog
        have hrd := rd_of_owns hod
        have hBr := below_c hB1 hbr
        have e1 := El.arith_length f 1 (k + 1)
        have e2 := El.arith_length f s (k + 1)
        obtain ⟨ag, cg, rfl⟩ := owns_slice hog
        obtain ⟨ad, cd, rfl⟩ := owns_slice hod
        have hrg' : Rd wr (.slice ag (k + 1) cg) (arith f 1 (k + 1)).length (ints (arith f 1 (k + 1))) := by rw [e1]; exact hrg
        have hrd' : Rd wr (.slice ad (k + 1) cd) (arith f s (k + 1)).length (ints (arith f s (k + 1))) := by rw [e2]; exact hrd
        clear hog hod hne hbr hB1 hrg hrd e1 e2
        go_wp2_with fail
        refine (gapsWrite_ok _ (arith f 1 (k + 1)) _ hrg' HA.out).mono ?_
        rintro e w2 ⟨a2, c2, rfl, ho2, hB2⟩
        have hrd2 := hrd'.later hB2
        have hBr2 := below_c hBr hB2
        clear hB2 ho2 hrd' hBr hrg'
        rw [la]
        go_wp2_with fail
        refine (gapsWrite_ok _ [f] _ (ints_lit [f] rfl rfl rfl (show (1 : Nat) ≤ maxLen by decide)) HC.out).mono ?_
        rintro e w3 ⟨a3, c3, rfl, ho3, hB3⟩
        have hB3' := below_c (below_alloc' _ _) hB3
        have hrd3 := hrd2.later hB3'
        have hBr3 := below_c hBr2 hB3'
        clear hB3 ho3 hB3' hrd2 hBr2
        rw [lb]
        go_wp2_with fail
        refine (gapsWrite_ok _ (arith f s (k + 1)) _ hrd3 HB.out).mono ?_
        rintro e w4 ⟨a4, c4, rfl, ho4, hB4⟩
        have hBr4 := below_c hBr3 hB4
        clear hB4 ho4 hrd3 hBr3
        rw [lc]
        go_wp2_with fail
        first | rw [wm] | skip
        refine (Delta_in _ _ (by omega) (by omega)).mono ?_
        rintro e w5 ⟨a5, c5, rfl, ho5, hB5⟩
        have hBr5 := below_c hBr4 hB5
        clear hB5 ho5 hBr4
        rw [em]
        go_wp2_with fail
        refine (Delta_in _ _ (by omega) (by omega)).mono ?_
        rintro e w6 ⟨a6, c6, rfl, ho6, hB6⟩
        have hBr6 := below_c hBr5 hB6
        clear hB6 ho6 hBr5
        rw [show (2 : Int).toNat = 0 + 2 from rfl]
        generalize (El.delta (k + 2)).length = D at *
        generalize (El.delta (f + 1).toNat).length = F at *
        generalize (El.delta (0 + 2)).length = T at *
        generalize k * (El.delta s.toNat).length = M at *
        clear la lb lc HA HB HC
        have q1 : IntKind.i64.wrap (((D + F + k * 1 : Nat) : Int) - (D : Int)) = ((D + F + k * 1 : Nat) : Int) - (D : Int) := IntWalk.i64_in _ (by omega)
        have q2 : IntKind.i64.wrap (((T + F + 0 * 1 : Nat) : Int) - (T : Int)) = ((T + F + 0 * 1 : Nat) : Int) - (T : Int) := IntWalk.i64_in _ (by omega)
        have q3 : IntKind.i64.wrap (((T + F + 0 * 1 : Nat) : Int) - (T : Int) + ((k : Int) + 1)) = ((T + F + 0 * 1 : Nat) : Int) - (T : Int) + ((k : Int) + 1) := IntWalk.i64_in _ (by omega)
        have q4 : IntKind.i64.wrap (((T + F + 0 * 1 : Nat) : Int) - (T : Int) + ((k : Int) + 1) - 1) = ((T + F + 0 * 1 : Nat) : Int) - (T : Int) + ((k : Int) + 1) - 1 := IntWalk.i64_in _ (by omega)
        have e1 : (((D + F + k * 1 : Nat) : Int) - (D : Int) == ((T + F + 0 * 1 : Nat) : Int) - (T : Int) + ((k : Int) + 1) - 1) = true := by simp; omega
        have e2 : decide (((D + F + k * 1 : Nat) : Int) ≤ ((D + F + M : Nat) : Int)) = true := by simp; omega
        generalize ((D + F + k * 1 : Nat) : Int) = LA at *
        generalize ((T + F + 0 * 1 : Nat) : Int) = LB at *
        generalize ((D + F + M : Nat) : Int) = LC at *
        go_wp2
        go_ret
        exact ⟨rfl, hBr6⟩
  · exact gapsNear_out f m s w h

end Go.Proofs.Ytnnhidbnjlpjiaa
