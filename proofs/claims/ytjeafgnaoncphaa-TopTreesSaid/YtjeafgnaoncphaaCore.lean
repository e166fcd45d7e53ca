/- What the functions of package core on sets and the check of lines return: the walks. Conditions: in each statement. -/
import Derived.Test.YtjeafgnaoncphaaPlainB
import Derived.Test.YtjeafgnaoncphaaBase
namespace Go.Proofs.Ytjeafgnaoncphaa
open Go.RowKit Gr

theorem bit_has (s n : Nat) (hs : s < 18446744073709551616) : (bits .and .u64 ((s / 2 ^ n : Nat) : Int) 1 == 1) = s.testBit n := by
  have h := bits_and_u64_nat (s / 2 ^ n) 1 (Nat.lt_of_le_of_lt (Nat.div_le_self _ _) hs) (by omega)
  rw [Nat.and_one_is_mod] at h
  have e : bits .and .u64 ((s / 2 ^ n : Nat) : Int) 1 = ((s / 2 ^ n % 2 : Nat) : Int) := h
  rw [e, Nat.testBit_eq_decide_div_mod_eq]
  have h2 : s / 2 ^ n % 2 = 0 ∨ s / 2 ^ n % 2 = 1 := by omega
  rcases h2 with h2 | h2 <;> simp [h2]

theorem wrap_pow (n : Nat) (hn : n < 64) : IntKind.u64.wrap (2 ^ n) = ((2 ^ n : Nat) : Int) := by
  have h : 2 ^ n ≤ 2 ^ 63 := Nat.pow_le_pow_right (by omega) (by omega)
  have e : ((2 : Int) ^ n) = ((2 ^ n : Nat) : Int) := by simp
  rw [IntKind.wrap_u64, e]
  have : (2 : Nat) ^ 63 = 9223372036854775808 := by decide
  have hp : 0 < 2 ^ n := Nat.two_pow_pos n
  generalize 2 ^ n = y at *
  omega

set_option maxHeartbeats 400000 in
theorem has_any (s n : Nat) (w : World) (hs : s < 18446744073709551616) (hn : n < 64) :
    Calls Try.prog 45 #[.int .u64 s, .int .i64 n] w fun e w' => e = .returned (.bool (s.testBit n)) ∧ w = w' := by
  have hd : ((s / 2 ^ n : Nat) : Int) = (s : Int) / 2 ^ n := by simp
  have hb := bit_has s n hs
  rw [hd] at hb
  have HB := Lib.hid hb
  clear hb hd
  go_enter Try.func45, Try.ntmps45
  go_wp2
  go_ret
  exact ⟨ret_bool HB.out, rfl⟩

set_option maxHeartbeats 400000 in
theorem with_any (s n : Nat) (w : World) (hs : s < 18446744073709551616) (hn : n < 64) :
    Calls Try.prog 53 #[.int .u64 s, .int .i64 n] w fun e w' => e = .returned (.int .u64 ((s ||| 2 ^ n : Nat) : Int)) ∧ w = w' := by
  have h : 2 ^ n ≤ 2 ^ 63 := Nat.pow_le_pow_right (by omega) (by omega)
  have hb := bits_or_u64_nat s (2 ^ n) hs (Nat.lt_of_le_of_lt h (by decide))
  rw [← wrap_pow n hn] at hb
  have HB := Lib.hid hb
  clear hb h
  go_enter Try.func53, Try.ntmps53
  go_wp2
  go_ret
  exact ⟨ret_int HB.out, rfl⟩

theorem bits_andNot_u64_nat (a b : Nat) (ha : a < 18446744073709551616) (hb : b < 18446744073709551616) :
    bits .andNot .u64 (a : Int) (b : Int) = ((Gr.diff a b : Nat) : Int) := by
  have h1 : (BitVec.ofInt 64 (a : Int)).toNat = a := by
    rw [BitVec.ofInt_natCast, BitVec.toNat_ofNat]; exact Nat.mod_eq_of_lt (by omega)
  have h2 : (BitVec.ofInt 64 (b : Int)).toNat = b := by
    rw [BitVec.ofInt_natCast, BitVec.toNat_ofNat]; exact Nat.mod_eq_of_lt (by omega)
  have h3 : (BitVec.ofInt 64 (a : Int) &&& ~~~(BitVec.ofInt 64 (b : Int))).toNat = Gr.diff a b := by
    apply Nat.eq_of_testBit_eq
    intro i
    rw [Gr.diff_bit, BitVec.testBit_toNat, BitVec.getLsbD_and, BitVec.getLsbD_not, ← BitVec.testBit_toNat, ← BitVec.testBit_toNat, h1, h2]
    by_cases hi : i < 64
    · simp [hi]
    · have : a.testBit i = false := Nat.testBit_lt_two_pow (Nat.lt_of_lt_of_le ha (by rw [show (18446744073709551616 : Nat) = 2 ^ 64 from rfl]; exact Nat.pow_le_pow_right (by omega) (by omega)))
      simp [this]
  show IntKind.u64.wrap ((BitVec.ofInt 64 (a : Int) &&& ~~~(BitVec.ofInt 64 (b : Int))).toNat : Int) = _
  have hle := (BitVec.ofInt 64 (a : Int) &&& ~~~(BitVec.ofInt 64 (b : Int))).isLt
  rw [h3] at hle ⊢
  rw [IntKind.wrap_u64]
  have : (2 : Nat) ^ 64 = 18446744073709551616 := by decide
  omega

set_option maxHeartbeats 400000 in
theorem without_any (s n : Nat) (w : World) (hs : s < 18446744073709551616) (hn : n < 64) :
    Calls Try.prog 40 #[.int .u64 s, .int .i64 n] w fun e w' => e = .returned (.int .u64 ((Gr.diff s (2 ^ n) : Nat) : Int)) ∧ w = w' := by
  have h : 2 ^ n ≤ 2 ^ 63 := Nat.pow_le_pow_right (by omega) (by omega)
  have hb := bits_andNot_u64_nat s (2 ^ n) hs (Nat.lt_of_le_of_lt h (by decide))
  rw [← wrap_pow n hn] at hb
  have HB := Lib.hid hb
  clear hb h
  go_enter Try.func40, Try.ntmps40
  go_wp2
  go_ret
  exact ⟨ret_int HB.out, rfl⟩

set_option maxHeartbeats 400000 in
theorem below_any (n : Nat) (w : World) (hn : n < 64) :
    Calls Try.prog 39 #[.int .i64 n] w fun e w' => e = .returned (.int .u64 ((2 ^ n - 1 : Nat) : Int)) ∧ w = w' := by
  have h : 2 ^ n ≤ 2 ^ 63 := Nat.pow_le_pow_right (by omega) (by omega)
  have hp : 0 < 2 ^ n := Nat.two_pow_pos n
  have HB : Hid (IntKind.u64.wrap (IntKind.u64.wrap (2 ^ n) - 1) = ((2 ^ n - 1 : Nat) : Int)) := by
    show _ = _
    rw [wrap_pow n hn, IntKind.wrap_u64]
    have : (2 : Nat) ^ 63 = 9223372036854775808 := by decide
    omega
  clear h hp
  go_enter Try.func39, Try.ntmps39
  go_wp2
  go_ret
  exact ⟨ret_int HB.out, rfl⟩

end Go.Proofs.Ytjeafgnaoncphaa
