/- What the functions of package elias return: the walks. Conditions: in each statement. -/
import Derived.Test.YtlfinlfmlnclhaaDoorEliasP
import Derived.Test.YtlfinlfmlnclhaaDoorBase
namespace Go.Proofs.YtlfinlfmlnclhaaDoor
open Go.RowKit

set_option maxHeartbeats 400000 in
theorem high_any (n : Nat) (w : World) (hn : n < 9223372036854775807) :
    Calls Tryd.prog 59 #[.int .i64 n] w fun e w' => e = .returned (.int .i64 n.log2) ∧ w = w' := by
  go_enter Tryd.func59, Tryd.ntmps59
  go_wp2
  go_loop [0, 3] (fun v k => ∃ m j : Nat, m ≤ n ∧ v = .int .i64 m ∧ k = .int .i64 j ∧ j + m.log2 = n.log2) (fun v _ => (intOf v).toNat)
  case atStart => exact ⟨n, 0, Nat.le_refl _, rfl, rfl, by simp⟩
  case round =>
    obtain ⟨m, j, hm, rfl, rfl, hj⟩ := hrel
    have hjj : j < 9223372036854775807 := by have := Nat.log2_le_self n; omega
    have HJ := Lib.hid hj
    clear hj
    by_cases h2 : 2 ≤ m
    · go_wp2
      go_round
      case rel => exact ⟨m / 2, j + 1, by omega, by go_num, by go_num, by have := HJ.out; rw [El.log2_half m h2] at this; omega⟩
      case measure => simp [intOf]; omega
    · go_wp2
      go_ret
      have := HJ.out
      have h1 : m.log2 = 0 := by
        have : m = 0 ∨ m = 1 := by omega
        rcases this with rfl | rfl <;> decide
      exact ⟨ret_int (by omega), rfl⟩

set_option maxHeartbeats 400000 in
theorem low_any (v : Value) (base k : Nat) (xs : List Int) (n many : Nat) (w : World) (hn : n < 9223372036854775807) (hm : many < 63)
    (hown : w.ownsRow base 3 1 v k (ints xs)) (hb : base ≤ w.heap.size) (hk : k ≤ 1000000) :
    Calls Tryd.prog 60 #[v, .int .i64 n, .int .i64 many] w fun e w' => ∃ v', e = .returned v' ∧ AppTo w base 3 1 v w' v' (k + many) (ints (xs ++ El.low n many)) := by
  obtain ⟨i0, hi, hz0, hz1, hz2⟩ := info_parts info_int
  go_enter Tryd.func60, Tryd.ntmps60
  go_wp2
  go_loopw [0, 7] (fun u i wr => ∃ (m : Nat) (P : List Int), m ≤ many ∧ P ++ El.low n m = El.low n many ∧ P.length + m = many ∧ i = .int .i64 ((m : Int) - 1) ∧ AppTo w base 3 1 v wr u (k + P.length) (ints (xs ++ P))) (fun _ i _ => (intOf i + 1).toNat)
  case atStart => exact ⟨many, [], Nat.le_refl _, by simp, by simp, rfl, by simpa using AppTo.refl hown⟩
  case round =>
    obtain ⟨m, P, hm1, hP, hl, rfl, hA⟩ := hrel
    have HP := Lib.hid hP
    have HL := Lib.hid hl
    have hPk : k + P.length ≤ 1000063 := by omega
    clear hP hl
    rcases m with _ | m
    · go_wp2
      go_ret
      have h1 := HL.out
      have h2 := HP.out
      simp [El.low] at h1 h2
      exact ⟨_, rfl, by rw [← h2, ← h1]; exact hA⟩
    · have e1 : ((m + 1 : Nat) : Int) - 1 = (m : Int) := by omega
      rw [e1]
      have hbit := and_one_i64 (n / 2 ^ m) (Nat.lt_of_le_of_lt (Nat.div_le_self _ _) (by omega))
      have hdiv : ((n / 2 ^ m : Nat) : Int) = (n : Int) / 2 ^ m := by simp
      rw [hdiv] at hbit
      go_wp2_with (at_builtin; go_must (refine wpl_app _ _ _ hA rfl rfl Tryd.underlying36 hi hz0 hz1 hz2 rfl (by decide) rfl rfl rfl (by simp [Value.oneCell']) (by decide) (by omega) (by omega) ?_); intro v' w' hA' hne hst)
      go_roundw
      case rel => exact ⟨m, P ++ [((n / 2 ^ m % 2 : Nat) : Int)], by omega, by have := HP.out; simpa [El.low] using this, by have := HL.out; simp; omega, by go_num, by simpa [Nat.add_assoc] using hA'⟩
      case measure => simp [intOf]


set_option maxHeartbeats 400000 in
theorem gamma_any (v : Value) (base k : Nat) (xs : List Int) (n : Nat) (w : World) (hn : n < 1000000000)
    (hown : w.ownsRow base 3 1 v k (ints xs)) (hb : base ≤ w.heap.size) (hk : k ≤ 100000) :
    Calls Tryd.prog 58 #[v, .int .i64 n] w fun e w' => ∃ v', e = .returned v' ∧ AppTo w base 3 1 v w' v' (k + (2 * n.log2 + 1)) (ints (xs ++ El.gamma n)) := by
  obtain ⟨i0, hi, hz0, hz1, hz2⟩ := info_parts info_int
  have hlog : n.log2 ≤ 29 := El.log2_le_of n 29 (by omega)
  have hlog2 : (n.log2 : Int) + 1 = ((n.log2 + 1 : Nat) : Int) := by omega
  go_enter Tryd.func58, Tryd.ntmps58
  go_wp2_with (go_at_call 59; refine (high_any _ _ (by omega)).mono ?_; rintro e w' ⟨rfl, rfl⟩)
  go_loopw [0, 9] (fun u i wr => ∃ (m : Nat), m ≤ n.log2 ∧ i = .int .i64 m ∧ AppTo w base 3 1 v wr u (k + m) (ints (xs ++ List.replicate m 0))) (fun _ i _ => n.log2 - (intOf i).toNat)
  case atStart => exact ⟨0, by omega, rfl, by simpa using AppTo.refl hown⟩
  case round =>
    obtain ⟨m, hm, rfl, hA⟩ := hrel
    by_cases hlt : m < n.log2
    · go_wp2_with (at_builtin; go_must (refine wpl_app _ _ _ hA rfl rfl Tryd.underlying36 hi hz0 hz1 hz2 rfl (by decide) rfl rfl rfl (by simp [Value.oneCell']) (by decide) (by omega) (by omega) ?_); intro v' w' hA' hne hst)
      go_roundw
      case rel => exact ⟨m + 1, by omega, by go_num, by rw [List.replicate_succ']; simpa [Nat.add_assoc] using hA'⟩
      case measure => simp [intOf]; omega
    · have hB := hA
      have hsz := hA.grown.size
      have HE : Hid (m = n.log2) := by show m = n.log2; omega
      have H2 := Lib.hid hlog2
      clear hlog2
      go_wp2_with fail
      rw [H2.out]
      refine (low_any _ base (k + m) (xs ++ List.replicate m 0) n (n.log2 + 1) _ (by omega) (by omega) hB.own (by omega) (by omega)).mono ?_
      rintro e w' ⟨v', rfl, hA'⟩
      go_wp2
      go_ret
      refine ⟨_, rfl, ?_⟩
      have := hA.trans hA'
      have e1 := HE.out
      have e2 : k + m + (n.log2 + 1) = k + (2 * n.log2 + 1) := by omega
      rw [e2, e1, List.append_assoc] at this
      exact this


set_option maxHeartbeats 400000 in
theorem gammaE_yes (n : Nat) (w : World) (h1 : 1 ≤ n) (h2 : n ≤ 1000000) :
    Calls Tryd.prog 24 #[.int .i64 n] w (RetInts w (El.gamma n) .nilIface) := by
  go_enter Tryd.func24, Tryd.ntmps24
  go_wp2_with fail
  refine (within_any _ _ _ _).mono ?_
  rintro e w' ⟨rfl, rfl⟩
  rw [decide_eq_true (by omega)]
  go_wp2_with fail
  refine (gamma_any _ w.heap.size 0 [] n _ (by omega) (World.ownsRow_nil _ _ _ _) (Nat.le_refl _) (by omega)).mono ?_
  rintro e w' ⟨v', rfl, hA⟩
  go_wp2
  go_ret2
  exact RetInts.mk rfl hA.own (by rw [El.gamma_length]; omega) hA.of_nil

set_option maxHeartbeats 400000 in
theorem gammaE_no (n : Int) (w : World) (h : ¬ (1 ≤ n ∧ n ≤ 1000000)) :
    Calls Tryd.prog 24 #[.int .i64 n] w fun e w' => e = .returned (.tuple #[.slice none 0 0, errV 1]) ∧ w = w' := by
  have hd := decide_eq_false h
  go_enter Tryd.func24, Tryd.ntmps24
  go_wp2_with fail
  refine (within_any _ _ _ _).mono ?_
  rintro e w' ⟨rfl, rfl⟩
  rw [hd]
  clear hd h
  go_wp2
  go_ret2
  exact ⟨rfl, rfl⟩

set_option maxHeartbeats 400000 in
theorem deltaE_yes (n : Nat) (w : World) (h1 : 1 ≤ n) (h2 : n ≤ 1000000) :
    Calls Tryd.prog 25 #[.int .i64 n] w (RetInts w (El.delta n) .nilIface) := by
  have hlog : n.log2 ≤ 29 := El.log2_le_of n 29 (by omega)
  have hlog2 := Lib.hid (show (n.log2 : Int) + 1 = ((n.log2 + 1 : Nat) : Int) by omega)
  go_enter Tryd.func25, Tryd.ntmps25
  go_wp2_with fail
  refine (within_any _ _ _ _).mono ?_
  rintro e w' ⟨rfl, rfl⟩
  rw [decide_eq_true (by omega)]
  go_wp2_with fail
  refine (high_any _ _ (by omega)).mono ?_
  rintro e w' ⟨rfl, rfl⟩
  go_wp2_with fail
  rw [hlog2.out]
  refine (gamma_any _ w.heap.size 0 [] (n.log2 + 1) _ (by omega) (World.ownsRow_nil _ _ _ _) (Nat.le_refl _) (by omega)).mono ?_
  rintro e w' ⟨v', rfl, hA⟩
  have hsz := hA.grown.size
  have hll : (n.log2 + 1).log2 ≤ 29 := El.log2_le_of _ 29 (by omega)
  go_wp2_with fail
  refine (low_any _ w.heap.size _ _ n n.log2 _ (by omega) (by omega) hA.own (by omega) (by omega)).mono ?_
  rintro e w' ⟨v'', rfl, hA2⟩
  have hA3 := hA.trans hA2
  go_wp2
  go_ret2
  exact RetInts.mk rfl (by have := hA3.own; simpa [El.delta] using this) (by rw [El.delta_length]) hA3.of_nil

set_option maxHeartbeats 400000 in
theorem deltaE_no (n : Int) (w : World) (h : ¬ (1 ≤ n ∧ n ≤ 1000000)) :
    Calls Tryd.prog 25 #[.int .i64 n] w fun e w' => e = .returned (.tuple #[.slice none 0 0, errV 1]) ∧ w = w' := by
  have hd := decide_eq_false h
  go_enter Tryd.func25, Tryd.ntmps25
  go_wp2_with fail
  refine (within_any _ _ _ _).mono ?_
  rintro e w' ⟨rfl, rfl⟩
  rw [hd]
  clear hd h
  go_wp2
  go_ret2
  exact ⟨rfl, rfl⟩

end Go.Proofs.YtlfinlfmlnclhaaDoor
