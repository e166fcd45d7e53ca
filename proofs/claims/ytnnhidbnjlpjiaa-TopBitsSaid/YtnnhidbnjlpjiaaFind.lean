/- What gray.Place and bruijn.Find return: the walks. Conditions: in each statement. -/
import Derived.Test.YtnnhidbnjlpjiaaGray
namespace Go.Proofs.Ytnnhidbnjlpjiaa
open Go.RowKit Bt
open El (at0)

set_option maxHeartbeats 1000000 in
theorem place_ok (m n : Nat) (w : World) (hm8 : m ≤ 8) (hn : n < 2 ^ m) : Calls Try.prog 15 #[.int .i64 m, .int .i64 n] w fun e w' => e = .returned (.tuple #[.int .i64 ((unGray 64 n 0 : Nat) : Int), .nilIface]) ∧ w = w' := by
  have HB := Lib.hid (decide_eq_true (show (0 : Int) ≤ (m : Int) ∧ (m : Int) ≤ 8 by omega))
  have hz8 : 2 ^ m ≤ 2 ^ 8 := Nat.pow_le_pow_right (by decide) hm8
  obtain ⟨z, hz⟩ : ∃ z : Nat, z = 2 ^ m := ⟨_, rfl⟩
  rw [← hz] at hn
  have hz256 : z ≤ 256 := by rw [hz]; exact hz8
  have hzi : (2 : Int) ^ m = (z : Int) := by rw [hz]; simp
  have wz : IntKind.i64.wrap ((2 : Int) ^ m) = (z : Int) := by rw [hzi]; exact IntWalk.i64_in _ (by omega)
  have wz1 : IntKind.i64.wrap ((z : Int) - 1) = (z : Int) - 1 := IntWalk.i64_in _ (by omega)
  have hm64 : (m : Int) ≤ 64 := by omega
  have hm0 : (0 : Int) ≤ (m : Int) := by omega
  have HP := Lib.hid (decide_eq_true (show (0 : Int) ≤ (n : Int) ∧ (n : Int) ≤ (z : Int) - 1 by omega))
  clear hz8 hz hzi
  go_enter Try.func15, Try.ntmps15
  go_wp2_with fail
  refine (within_any _ _ _ _).mono ?_
  rintro e w' ⟨rfl, rfl⟩
  rw [HB.out]
  go_wp2_with fail
  refine (within_any _ _ _ _).mono ?_
  rintro e w' ⟨rfl, rfl⟩
  rw [HP.out]
  go_wp2
  go_loop [1, 6] (fun k o => ∃ j x f : Nat, k = .int .i64 j ∧ o = .int .i64 x ∧ j < 2 ^ f ∧ f ≤ 8 ∧ x < 2 ^ 8 ∧ unGray 64 n 0 = unGray (f + 56) j x) (fun k _ => (intOf k).toNat)
  case atStart => exact ⟨n, 0, 8, rfl, rfl, by omega, by omega, by omega, rfl⟩
  case round =>
    obtain ⟨j, x, f, rfl, rfl, hj, hf, hx, hu⟩ := hrel
    have HU := Lib.hid hu
    clear hu
    have hj8 : j < 256 := Nat.lt_of_lt_of_le hj (Nat.le_trans (Nat.pow_le_pow_right (by decide) hf) (by decide))
    by_cases h0 : j = 0
    · subst h0
      have HV : Hid (unGray 64 n 0 = x) := by show _ = _; rw [HU.out, show f + 56 = (f + 55) + 1 from rfl, unGray, if_pos rfl]
      go_wp2
      go_ret2
      exact ⟨by rw [HV.out]; rfl, rfl⟩
    · have hj0 : (0 : Int) < (j : Int) := by omega
      have hxx := bits_xor_i64_nat x j (by omega) (by omega)
      have hxl : x ^^^ j < 2 ^ 8 := Nat.xor_lt_two_pow hx hj8
      obtain ⟨f', rfl⟩ : ∃ f', f = f' + 1 := ⟨f - 1, by rcases f with _ | f; · simp at hj; omega
                                                        · rfl⟩
      have HV : Hid (unGray 64 n 0 = unGray (f' + 56) (j / 2) (x ^^^ j)) := by show _ = _; rw [HU.out, show f' + 1 + 56 = (f' + 56) + 1 by omega, unGray, if_neg h0]
      have hj2 : j / 2 < 2 ^ f' := by rw [Nat.pow_succ] at hj; omega
      go_wp2
      go_round
      case rel => exact ⟨j / 2, x ^^^ j, f', by go_num, by go_num, hj2, by omega, hxl, HV.out⟩
      case measure => simp [intOf]; omega

namespace Bt
theorem find_spec {r w : List Int} {k : Nat} (h : find r w = some k) : k < r.length ∧ same r w k = true ∧ ∀ j, j < k → same r w j = false := by
  unfold find at h
  rw [List.find?_range_eq_some] at h
  obtain ⟨h1, h2, h3⟩ := h
  exact ⟨by simpa using h2, h1, fun j hj => by simpa using h3 j hj⟩
def sameTo (r w : List Int) (i j : Nat) : Bool := (List.range j).all fun k => at0 r ((i + k) % r.length) == at0 w k
theorem sameTo_succ (r w : List Int) (i j : Nat) : sameTo r w i (j + 1) = (sameTo r w i j && (at0 r ((i + j) % r.length) == at0 w j)) := by
  unfold sameTo; rw [List.range_succ, List.all_append]; simp
end Bt

set_option maxRecDepth 100000 in
set_option maxHeartbeats 2000000 in
theorem find_ok (v : Value) (xs : List Int) (w : World) (hr : Rd w v xs.length (ints xs)) (h1 : 1 ≤ xs.length) (h6 : xs.length ≤ 6) (hin : El.allIn xs 0 1 = true) {k0 : Nat} (hk0 : find (ringS xs.length) xs = some k0) (hl : (ringS xs.length).length ≤ 100) :
    Calls Try.prog 13 #[.int .i64 2, v] w fun e w' => e = .returned (.tuple #[.int .i64 (k0 : Nat), .nilIface]) ∧ Below w.heap.size w w' := by
  obtain ⟨hk1, hk2, hk3⟩ := find_spec hk0
  have K := ring_ok xs.length w h1 h6
  generalize ringS xs.length = r at *
  have HIN := Lib.hid hin
  have HK2 := Lib.hid hk2
  have HK3 := Lib.hid hk3
  clear hin hk2 hk3 hk0
  obtain ⟨av, cv, rfl, hc1, hc2⟩ := rd_form hr
  go_enter Try.func13, Try.ntmps13
  go_wp2_with fail
  refine K.mono ?_
  rintro e w1 ⟨a1, c1, rfl, ho1, hB1⟩
  have hr1 := rd_of_owns ho1
  have hrx := hr.later hB1
  obtain ⟨b1, off1, rfl, _, _, hb1, hx1⟩ := rd_cells0 hr1 rfl (by omega)
  obtain ⟨b2, off2, rfl, _, _, hb2, hx2⟩ := rd_cells0 hrx rfl (by omega)
  go_wp2_with fail
  refine (all_any _ _ xs 0 1 _ hrx rfl).mono ?_
  rintro e w' ⟨rfl, rfl⟩
  rw [HIN.out]
  go_wp2
  go_loop [30] (fun i => ∃ k : Nat, k ≤ k0 ∧ i = .int .i64 k) (fun i => r.length - (intOf i).toNat)
  case atStart => exact ⟨0, by omega, rfl⟩
  case round =>
    obtain ⟨k, hk, rfl⟩ := hrel
    have hki : (k : Int) < (r.length : Int) := by omega
    go_wp2
    go_loop [9, 35] (fun s i => ∃ j : Nat, j ≤ xs.length ∧ i = .int .i64 j ∧ s = .bool (sameTo r xs k j)) (fun _ i => xs.length - (intOf i).toNat)
    case atStart => exact ⟨0, by omega, rfl, rfl⟩
    case round =>
      obtain ⟨j, hj, rfl, rfl⟩ := hrel
      by_cases hlt : j < xs.length
      · have hji : (j : Int) < (xs.length : Int) := by omega
        have HS := Lib.hid (sameTo_succ r xs k j)
        have hcj := hx2 j hlt
        have hrl : 0 < r.length := by omega
        have hmod : (k + j) % r.length < r.length := Nat.mod_lt _ hrl
        have hcr := hx1 _ hmod
        have wm : ((k : Int) + (j : Int)) % (r.length : Int) = (((k + j) % r.length : Nat) : Int) := by simp
        have wkj : IntKind.i64.wrap ((k : Int) + (j : Int)) = (k : Int) + (j : Int) := IntWalk.i64_in _ (by omega)
        generalize (k + j) % r.length = q at *
        have wq : IntKind.i64.wrap (q : Int) = (q : Int) := IntWalk.i64_in _ (by omega)
        have hq0 : (0 : Int) ≤ (q : Int) := by omega
        have hql : (q : Int) < (r.length : Int) := by omega
        have hrl0 : ((r.length : Int) == 0) = false := by rw [beq_eq_false_iff_ne]; omega
        generalize hye : at0 xs j = y at *
        generalize hxe : at0 r q = x at *
        cases hsm : sameTo r xs k j with
        | false =>
          have HS2 : Hid (sameTo r xs k (j + 1) = false) := by show _ = _; rw [HS.out, hsm]; rfl
          rw [hsm] at *
          go_wp2
          go_round
          case rel => exact ⟨j + 1, by omega, by go_num, by rw [HS2.out]⟩
          case measure => simp [intOf]; omega
        | true =>
          have HS2 : Hid (sameTo r xs k (j + 1) = (x == y)) := by show _ = _; rw [HS.out, hsm]; rfl
          rw [hsm] at *
          go_wp2
          go_round
          case rel => exact ⟨j + 1, by omega, by go_num, by rw [HS2.out]⟩
          case measure => simp [intOf]; omega
      · have hje : j = xs.length := by omega
        subst hje
        have hse : sameTo r xs k xs.length = same r xs k := rfl
        rw [hse]
        by_cases hkk : k = k0
        · subst hkk
          rw [HK2.out]
          go_wp2
          go_ret2
          exact ⟨rfl, hB1⟩
        · have hf := HK3.out k (by omega)
          rw [hf]
          go_wp2
          go_round
          case rel => exact ⟨k + 1, by omega, by go_num⟩
          case measure => simp [intOf]; omega

end Go.Proofs.Ytnnhidbnjlpjiaa
