/- What the functions of packages gray and bruijn return: the walks. Conditions: in each statement. -/
import Derived.Test.YtnnhidbnjlpjiaaPut
namespace Go.Proofs.Ytnnhidbnjlpjiaa
open Go.RowKit Bt
open El (at0)

set_option maxHeartbeats 400000 in
theorem bruijnSize_any (n : Nat) (w : World) (hn : n ≤ 6) :
    Calls Try.prog 38 #[.int .i64 2, .int .i64 n] w fun e w' => e = .returned (.int .i64 (2 ^ n : Nat)) ∧ w = w' := by
  go_enter Try.func38, Try.ntmps38
  go_wp2
  go_loop [5, 7] (fun p i => ∃ k m : Nat, k ≤ n ∧ i = .int .i64 k ∧ p = .int .i64 m ∧ m = 2 ^ k ∧ m ≤ 64) (fun _ i => n - (intOf i).toNat)
  case atStart => exact ⟨0, 1, by omega, rfl, rfl, rfl, by omega⟩
  case round =>
    obtain ⟨k, m, hk, rfl, rfl, hm, hm64⟩ := hrel
    have HM := Lib.hid hm
    clear hm
    by_cases hlt : k < n
    · have hki : (k : Int) < (n : Int) := by omega
      have h2 : 2 ^ (k + 1) ≤ 2 ^ 6 := Nat.pow_le_pow_right (by decide) (by omega)
      have HS : Hid (m * 2 = 2 ^ (k + 1) ∧ m * 2 ≤ 64) := by show _ ∧ _; rw [HM.out, Nat.pow_succ] at *; exact ⟨rfl, h2⟩
      have wm : IntKind.i64.wrap ((m : Int) * 2) = (m : Int) * 2 := IntWalk.i64_in _ (by omega)
      clear h2
      go_wp2
      go_round
      case rel => exact ⟨k + 1, m * 2, by omega, by go_num, by go_num, HS.out.1, HS.out.2⟩
      case measure => simp [intOf]; omega
    · have e : k = n := by omega
      go_wp2
      go_ret
      exact ⟨ret_int (by rw [HM.out, e]; simp), rfl⟩

theorem power_any (n : Nat) (w : World) (hn : n ≤ 6) :
    Calls Try.prog 14 #[.int .i64 n] w fun e w' => e = .returned (.int .i64 (2 ^ n : Nat)) ∧ w = w' := by
  go_enter Try.func14, Try.ntmps14
  go_wp2
  go_loop [3, 4] (fun p i => ∃ k m : Nat, k ≤ n ∧ i = .int .i64 k ∧ p = .int .i64 m ∧ m = 2 ^ k ∧ m ≤ 64) (fun _ i => n - (intOf i).toNat)
  case atStart => exact ⟨0, 1, by omega, rfl, rfl, rfl, by omega⟩
  case round =>
    obtain ⟨k, m, hk, rfl, rfl, hm, hm64⟩ := hrel
    have HM := Lib.hid hm
    clear hm
    by_cases hlt : k < n
    · have hki : (k : Int) < (n : Int) := by omega
      have h2 : 2 ^ (k + 1) ≤ 2 ^ 6 := Nat.pow_le_pow_right (by decide) (by omega)
      have HS : Hid (2 * m = 2 ^ (k + 1) ∧ 2 * m ≤ 64) := by
        show _ ∧ _
        have e : 2 * m = 2 ^ (k + 1) := by rw [HM.out, Nat.pow_succ, Nat.mul_comm]
        exact ⟨e, by rw [e]; exact h2⟩
      have wm : IntKind.i64.wrap (2 * (m : Int)) = 2 * (m : Int) := IntWalk.i64_in _ (by omega)
      clear h2
      go_wp2
      go_round
      case rel => exact ⟨k + 1, 2 * m, by omega, by go_num, by go_num, HS.out.1, HS.out.2⟩
      case measure => simp [intOf]; omega
    · have e : k = n := by omega
      go_wp2
      go_ret
      exact ⟨ret_int (by rw [HM.out, e]; simp), rfl⟩

set_option maxHeartbeats 400000 in
theorem bruijnCheck_ok (n : Nat) (w : World) (h1 : 1 ≤ n) (h6 : n ≤ 6) :
    Calls Try.prog 25 #[.int .i64 2, .int .i64 n] w fun e w' => e = .returned .nilIface ∧ w = w' := by
  have hp : 2 ^ n ≤ 2 ^ 6 := Nat.pow_le_pow_right (by decide) h6
  have hs : ((2 ^ n : Nat) : Int) ≤ 100 := by omega
  have HD : Hid (decide ((1 : Int) ≤ 2 ∧ (2 : Int) ≤ 3) = true) := by show _ = _; decide
  have HE : Hid (decide ((1 : Int) ≤ (n : Int) ∧ (n : Int) ≤ 6) = true) := by show _ = _; simp; omega
  have K := bruijnSize_any n w h6
  generalize 2 ^ n = z at *
  go_enter Try.func25, Try.ntmps25
  go_wp2_with fail
  refine (within_any _ _ _ _).mono ?_
  rintro e w' ⟨rfl, rfl⟩
  rw [HD.out]
  go_wp2_with fail
  refine (within_any _ _ _ _).mono ?_
  rintro e w' ⟨rfl, rfl⟩
  rw [HE.out]
  go_wp2_with fail
  refine K.mono ?_
  rintro e w' ⟨rfl, rfl⟩
  go_wp2
  go_ret
  exact ⟨rfl, rfl⟩

theorem member_any (n i : Nat) (w : World) (hn : n ≤ 63) (hi : i ≤ 5) :
    Calls Try.prog 12 #[.int .i64 n, .int .i64 i] w fun e w' => e = .returned (.bool (n.testBit i)) ∧ w = w' := by
  go_enter Try.func12, Try.ntmps12
  go_wp2
  go_loop [0, 5] (fun s j => ∃ k m : Nat, k ≤ i ∧ j = .int .i64 k ∧ s = .int .i64 m ∧ m = n / 2 ^ k ∧ m ≤ 63) (fun _ j => i - (intOf j).toNat)
  case atStart => exact ⟨0, n, by omega, rfl, rfl, by simp, hn⟩
  case round =>
    obtain ⟨k, m, hk, rfl, rfl, hm, hm63⟩ := hrel
    have HM := Lib.hid hm
    clear hm
    by_cases hlt : k < i
    · have hki : (k : Int) < (i : Int) := by omega
      have HS : Hid (m / 2 = n / 2 ^ (k + 1)) := by show _ = _; rw [HM.out, Nat.div_div_eq_div_mul, Nat.pow_succ]
      go_wp2
      go_round
      case rel => exact ⟨k + 1, m / 2, by omega, by go_num, by go_num, HS.out, by omega⟩
      case measure => simp [intOf]; omega
    · have e : k = i := by omega
      subst e
      go_wp2
      go_ret
      refine ⟨ret_bool ?_, rfl⟩
      have h1 : n.testBit k = decide (m % 2 = 1) := by rw [HM.out, Nat.testBit_eq_decide_div_mod_eq]
      rw [h1, Bool.eq_iff_iff]; simp; omega

set_option maxRecDepth 100000 in
set_option maxHeartbeats 2000000 in
theorem ring_ok (n : Nat) (w : World) (h1 : 1 ≤ n) (h6 : n ≤ 6) :
    Calls Try.prog 9 #[.int .i64 2, .int .i64 n] w (RetInts w (ringS n) .nilIface) := by
  obtain ⟨i0, hi, hz0, hz1, hz2⟩ := info_parts info_int
  have hb1 := Boxed.new w 3 (.int .i64 2)
  have hb1' := hb1.alloc (.cells #[.int .i64 (n : Int)] 3)
  have hb2 := Boxed.new (w.alloc (.cells #[.int .i64 2] 3)) 3 (.int .i64 (n : Int))
  have hBw : Below w.heap.size w ((w.alloc (.cells #[.int .i64 2] 3)).alloc (.cells #[.int .i64 (n : Int)] 3)) := ((Below.refl _ _).alloc (Nat.le_refl _) _).alloc (by simp) _
  have c1 := hb1'.cell
  have c2 := hb2.cell
  have hsz : (w.alloc (.cells #[.int .i64 2] 3)).heap.size = w.heap.size + 1 := by simp
  rw [hsz] at hb2 c2
  generalize hW2 : (w.alloc (.cells #[.int .i64 2] 3)).alloc (.cells #[.int .i64 (n : Int)] 3) = W2 at *
  go_enter Try.func9, Try.ntmps9
  go_wp2_with fail
  refine (bruijnCheck_ok n _ h1 h6).mono ?_
  rintro e w' ⟨rfl, rfl⟩
  have hlt2 := hb2.lt
  have wn : IntKind.i64.wrap ((n : Int) + 1) = (n : Int) + 1 := IntWalk.i64_in _ (by omega)
  have ez : (madeCells (Value.int .i64 0).cells ((n + 1) * 1)).toList = ints (List.replicate (n + 1) 0) := by
    rw [Nat.mul_one]; show (madeCells #[Value.int .i64 0] (n + 1)).toList = _; rw [toList_madeCells_one]; simp
  have hsf := fun (a : Addr) (c : Array Value) (w : World) => run_store Try.prog w a (.func (.func 26) #[] c) .plain rfl
  go_wp2_with (at_make; go_must (refine wpList_make_full _ rfl _ _ _ rfl W2.heap.size 3 i0 (.int .i64 0) 1 Try.underlying26 hi hz0 hz1 .i64 .i64 _ _ (n + 1) rfl rfl (by simp) (by simp) (by rw [hz2]; omega) (by unfold maxLen; omega) (Nat.le_refl _) ?_); intro w3 hown hgr; rw [ez] at hown)
  clear hsf
  have hbw := below_iff_grown.2 hgr
  have hG := hown.lt W2.heap.size rfl
  have hBw3 : Below w.heap.size w w3 := hBw.trans (hbw.mono hBw.size)
  have hpow : (n + 1) * 2 ^ (n + 1) ≤ 7 * 2 ^ 7 := Nat.mul_le_mul (by omega) (Nat.pow_le_pow_right (by decide) (by omega))
  have hm : ∀ o1 o2 o3, o1 = Obj.cells #[.slice (some ⟨W2.heap.size, 0, none⟩) (n + 1) (n + 1)] 26 (0, 0) → o2 = Obj.cells #[.slice none 0 0] 26 (0, 0) → o3 = Obj.cells #[.func (.func 26) #[] #[.pointer (some ⟨w.heap.size + 1, 0, none⟩), .pointer (some ⟨w3.heap.size + 1, 0, none⟩), .pointer (some ⟨w3.heap.size, 0, none⟩), .pointer (some ⟨w3.heap.size + 2, 0, none⟩), .pointer (some ⟨w.heap.size, 0, none⟩)]] 50 (0, 0) →
      RMem w.heap.size W2.heap.size w3.heap.size n (List.replicate (n + 1) 0, []) (((w3.alloc o1).alloc o2).alloc o3) := by
    rintro o1 o2 o3 rfl rfl rfl
    refine ⟨⟨hlt2, hG.2⟩, (((boxed_later hb1' hbw).alloc _).alloc _).alloc _, (((boxed_later hb2 hbw).alloc _).alloc _).alloc _, ((hown.alloc _).alloc _).alloc _, ((Boxed.new w3 _ _).alloc _).alloc _, ⟨_, ?_, World.ownsRow_nil _ _ _ _⟩, ?_⟩
    · have h := Boxed.new (w3.alloc (.cells #[.slice (some ⟨W2.heap.size, 0, none⟩) (n + 1) (n + 1)] 26)) 26 (.slice none 0 0)
      rw [show (w3.alloc (.cells #[.slice (some ⟨W2.heap.size, 0, none⟩) (n + 1) (n + 1)] 26)).heap.size = w3.heap.size + 1 by simp] at h
      exact h.alloc _
    · have h := Boxed.new ((w3.alloc (.cells #[.slice (some ⟨W2.heap.size, 0, none⟩) (n + 1) (n + 1)] 26)).alloc (.cells #[.slice none 0 0] 26)) 50 (.func (.func 26) #[] #[.pointer (some ⟨w.heap.size + 1, 0, none⟩), .pointer (some ⟨w3.heap.size + 1, 0, none⟩), .pointer (some ⟨w3.heap.size, 0, none⟩), .pointer (some ⟨w3.heap.size + 2, 0, none⟩), .pointer (some ⟨w.heap.size, 0, none⟩)])
      rw [show ((w3.alloc (.cells #[.slice (some ⟨W2.heap.size, 0, none⟩) (n + 1) (n + 1)] 26)).alloc (.cells #[.slice none 0 0] 26)).heap.size = w3.heap.size + 2 by simp] at h
      exact h
  have hB3 : ∀ o1 o2 o3 : Obj, Below w.heap.size w (((w3.alloc o1).alloc o2).alloc o3) := fun o1 o2 o3 => ((hBw3.alloc hBw3.size o1).alloc (by simp; have := hBw3.size; omega) o2).alloc (by simp; have := hBw3.size; omega) o3
  refine (put_any w.heap.size W2.heap.size w3.heap.size n h1 h6 (n + 1) 1 1 _ _ (hm _ _ _ rfl rfl rfl) ⟨by simp, fun i => ?_⟩ (by omega) (by omega) (by omega) (by omega) (by simp only [List.length_nil]; omega)).mono ?_
  · unfold at0
    rw [List.getElem?_replicate]
    split <;> simp
  rintro e w5 ⟨⟨rv, rfl⟩, hm5, hB5⟩
  have hB6 := (hB3 _ _ _).trans hB5
  obtain ⟨ov, ho1, ho2⟩ := hm5.out
  have hrs : (putS n (n + 1) 1 1 (List.replicate (n + 1) 0, [])).2 = ringS n := rfl
  rw [hrs] at ho2
  obtain ⟨a5, c5, rfl⟩ := owns_slice ho2
  have cO := ho1.cell
  have HO := Lib.hid ho2
  have HB := Lib.hid hB6
  clear hm5 hB5 ho2 hrs hB6 hm hB3
  go_wp2
  go_ret2
  exact RetInts.mk rfl (owns_mono HO.out (by have := hBw3.size; omega)) rfl HB.out

end Go.Proofs.Ytnnhidbnjlpjiaa
