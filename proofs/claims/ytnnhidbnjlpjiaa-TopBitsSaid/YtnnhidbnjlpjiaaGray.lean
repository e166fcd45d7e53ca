/- What gray.At and gray.Place return: the walks. Conditions: in each statement. -/
import Derived.Test.YtnnhidbnjlpjiaaBruijn
namespace Go.Proofs.Ytnnhidbnjlpjiaa
open Go.RowKit Bt
open El (at0)

theorem bits_xor_i64_nat (a b : Nat) (ha : a < 9223372036854775808) (hb : b < 9223372036854775808) :
    bits .xor .i64 (a : Int) (b : Int) = ((a ^^^ b : Nat) : Int) := by
  have hx : a ^^^ b < 2 ^ 63 := Nat.xor_lt_two_pow (by omega) (by omega)
  have h1 : (BitVec.ofInt 64 (a : Int)).toNat = a := by
    rw [BitVec.ofInt_natCast, BitVec.toNat_ofNat]; exact Nat.mod_eq_of_lt (by omega)
  have h2 : (BitVec.ofInt 64 (b : Int)).toNat = b := by
    rw [BitVec.ofInt_natCast, BitVec.toNat_ofNat]; exact Nat.mod_eq_of_lt (by omega)
  show IntKind.i64.wrap ((BitVec.ofInt 64 (a : Int) ^^^ BitVec.ofInt 64 (b : Int)).toNat : Int) = _
  rw [BitVec.toNat_xor, h1, h2]
  exact IntWalk.i64_in _ (by omega)

/-- what gray.At hands back -/
def GrayRet (b pl : Int) (e : Ending) : Prop :=
  (∃ m k : Nat, b = m ∧ m ≤ 8 ∧ pl = k ∧ k < 2 ^ m ∧ e = .returned (.tuple #[.int .i64 ((gray k : Nat) : Int), .nilIface])) ∨ ((¬ (0 ≤ b ∧ b ≤ 8) ∨ ¬ (0 ≤ pl ∧ pl < 2 ^ b.toNat)) ∧ e = .returned (.tuple #[.int .i64 0, errV 1]))

set_option maxHeartbeats 1000000 in
theorem grayAt_any (b pl : Int) (w : World) : Calls Try.prog 8 #[.int .i64 b, .int .i64 pl] w fun e w' => GrayRet b pl e ∧ w = w' := by
  by_cases hb : 0 ≤ b ∧ b ≤ 8
  · obtain ⟨m, rfl⟩ := Int.eq_ofNat_of_zero_le hb.1
    have HB := Lib.hid (decide_eq_true hb)
    have hm8 : m ≤ 8 := by omega
    have hz8 : 2 ^ m ≤ 2 ^ 8 := Nat.pow_le_pow_right (by decide) hm8
    obtain ⟨z, hz⟩ : ∃ z : Nat, z = 2 ^ m := ⟨_, rfl⟩
    have hz256 : z ≤ 256 := by rw [hz]; exact hz8
    have hzi : (2 : Int) ^ m = (z : Int) := by rw [hz]; simp
    have wz : IntKind.i64.wrap ((2 : Int) ^ m) = (z : Int) := by rw [hzi]; exact IntWalk.i64_in _ (by omega)
    have wz1 : IntKind.i64.wrap ((z : Int) - 1) = (z : Int) - 1 := IntWalk.i64_in _ (by omega)
    have hm64 : (m : Int) ≤ 64 := by omega
    have hm0 : (0 : Int) ≤ (m : Int) := by omega
    have HZ := Lib.hid hz
    clear hb hz8 hz hzi
    by_cases hp : 0 ≤ pl ∧ pl ≤ (z : Int) - 1
    · obtain ⟨k, rfl⟩ := Int.eq_ofNat_of_zero_le hp.1
      have HP := Lib.hid (decide_eq_true hp)
      have hk : k < 256 := by omega
      have HK : Hid (k < 2 ^ m) := by show _ < _; rw [← HZ.out]; omega
      have hx := bits_xor_i64_nat k (k / 2) (by omega) (by omega)
      rw [show ((k / 2 : Nat) : Int) = (k : Int) / 2 from by simp] at hx
      clear hp
      go_enter Try.func8, Try.ntmps8
      go_wp2_with fail
      refine (within_any _ _ _ _).mono ?_
      rintro e w' ⟨rfl, rfl⟩
      rw [HB.out]
      go_wp2_with fail
      refine (within_any _ _ _ _).mono ?_
      rintro e w' ⟨rfl, rfl⟩
      rw [HP.out]
      go_wp2
      go_ret2
      exact ⟨.inl ⟨m, k, rfl, hm8, rfl, HK.out, rfl⟩, rfl⟩
    · have HP := Lib.hid (decide_eq_false hp)
      have HN : Hid (¬ (0 ≤ pl ∧ pl < 2 ^ ((m : Int)).toNat)) := by
        show ¬ _
        rw [Int.toNat_natCast, show (2 : Int) ^ m = (z : Int) by rw [HZ.out]; simp]; omega
      clear hp
      go_enter Try.func8, Try.ntmps8
      go_wp2_with fail
      refine (within_any _ _ _ _).mono ?_
      rintro e w' ⟨rfl, rfl⟩
      rw [HB.out]
      go_wp2_with fail
      refine (within_any _ _ _ _).mono ?_
      rintro e w' ⟨rfl, rfl⟩
      rw [HP.out]
      go_wp2
      go_ret2
      exact ⟨.inr ⟨.inr HN.out, rfl⟩, rfl⟩
  · have HB := Lib.hid (decide_eq_false hb)
    have HN := Lib.hid hb
    clear hb
    go_enter Try.func8, Try.ntmps8
    go_wp2_with fail
    refine (within_any _ _ _ _).mono ?_
    rintro e w' ⟨rfl, rfl⟩
    rw [HB.out]
    go_wp2
    go_ret2
    exact ⟨.inr ⟨.inl HN.out, rfl⟩, rfl⟩

end Go.Proofs.Ytnnhidbnjlpjiaa
