/- TopBits returns true for every input: the walk. Conditions: none. -/
import Derived.Test.YtnnhidbnjlpjiaaFind
import Derived.Test.YtnnhidbnjlpjiaaLit
import Derived.Test.YtnnhidbnjlpjiaaSame
namespace Go.Proofs.Ytnnhidbnjlpjiaa
open Go.RowKit Bt
open El (at0)

namespace Bt
theorem okBits_get {bits place : Nat} (h1 : 1 ≤ bits) (h6 : bits ≤ 6) (hp : place < 2 ^ bits) : okBits bits place = true := by
  have h := okBits_all
  rw [List.all_eq_true] at h
  have h2 := h bits (List.mem_range.2 (by omega))
  rw [Bool.or_eq_true] at h2
  rcases h2 with h2 | h2
  · simp at h2; omega
  · rw [List.all_eq_true] at h2
    exact h2 place (List.mem_range.2 hp)

structure OkB (bits place k : Nat) : Prop where
  n63 : gray place ≤ 63
  len : (ringS bits).length = 2 ^ bits
  bit : ∀ i, i < (ringS bits).length → 0 ≤ at0 (ringS bits) i ∧ at0 (ringS bits) i ≤ 1
  fnd : find (ringS bits) (bitsOf (gray place) bits) = some k
  klt : k < (ringS bits).length
  red : readAt (ringS bits) k bits = gray place
  ung : unGray 64 (gray place) 0 = place

theorem okB_of {bits place : Nat} (h1 : 1 ≤ bits) (h6 : bits ≤ 6) (hp : place < 2 ^ bits) : ∃ k, OkB bits place k := by
  have h := okBits_get h1 h6 hp
  unfold okBits at h
  simp only [Bool.and_eq_true, decide_eq_true_eq] at h
  obtain ⟨⟨⟨a, b⟩, c⟩, d⟩ := h
  cases hf : find (ringS bits) (bitsOf (gray place) bits) with
  | none => rw [hf] at d; simp at d
  | some k =>
    rw [hf] at d
    simp only [Bool.and_eq_true, decide_eq_true_eq] at d
    obtain ⟨⟨d1, d2⟩, d3⟩ := d
    refine ⟨k, a, b, fun i hi => ?_, hf, d1, d2, d3⟩
    rw [List.all_eq_true] at c
    have := c _ (List.getElem_mem hi)
    rw [El.at0_lt hi]
    simp at this
    rcases this with e | e <;> rw [e] <;> decide

theorem bitsOf_length (n bits : Nat) : (bitsOf n bits).length = bits := by simp [bitsOf]
theorem bitsOf_in (n bits : Nat) : El.allIn (bitsOf n bits) 0 1 = true := by
  unfold El.allIn bitsOf
  rw [List.all_eq_true]
  intro x hx
  obtain ⟨i, _, rfl⟩ := List.mem_map.1 hx
  by_cases h : n.testBit (bits - 1 - i) <;> simp [h]
theorem bitsOf_take (n bits i : Nat) (h : i < bits) : (bitsOf n bits).take (i + 1) = (bitsOf n bits).take i ++ [if n.testBit (bits - 1 - i) then 1 else 0] := by
  rw [List.take_succ_eq_append_getElem (by rw [bitsOf_length]; exact h)]
  simp [bitsOf]
/-- the number read so far -/
def readTo (r : List Int) (k j : Nat) : Nat := (List.range j).foldl (fun x i => 2 * x + (at0 r ((k + i) % r.length)).toNat) 0
theorem readTo_succ (r : List Int) (k j : Nat) : readTo r k (j + 1) = 2 * readTo r k j + (at0 r ((k + j) % r.length)).toNat := by
  unfold readTo; rw [List.range_succ, List.foldl_append]; rfl
theorem readTo_lt {r : List Int} (hb : ∀ i, i < r.length → 0 ≤ at0 r i ∧ at0 r i ≤ 1) (h0 : 0 < r.length) (k : Nat) : ∀ j, readTo r k j < 2 ^ j := by
  intro j
  induction j with
  | zero => simp [readTo]
  | succ j ih =>
    have := hb ((k + j) % r.length) (Nat.mod_lt _ h0)
    rw [readTo_succ, Nat.pow_succ]; omega
end Bt

set_option maxHeartbeats 400000 in
theorem topInB_any (n lo hi : Int) (w : World) :
    Calls Try.prog 11 #[.int .i64 n, .int .i64 lo, .int .i64 hi] w fun e w' => e = .returned (.bool (decide (lo ≤ n ∧ n ≤ hi))) ∧ w = w' := by
  by_cases h1 : lo ≤ n
  · by_cases h2 : n ≤ hi
    · go_enter Try.func11, Try.ntmps11
      go_wp2
      go_ret
      exact ⟨by simp; omega, rfl⟩
    · go_enter Try.func11, Try.ntmps11
      go_wp2
      go_ret
      exact ⟨by simp; omega, rfl⟩
  · go_enter Try.func11, Try.ntmps11
    go_wp2
    go_ret
    exact ⟨by simp; omega, rfl⟩

-- what stands ahead of every case

set_option maxRecDepth 100000 in
set_option maxHeartbeats 4000000 in
theorem topBits_any (b pl : Int) (w : World) : Calls Try.prog 3 #[.int .i64 b, .int .i64 pl] w fun e w' => e = .returned (.bool true) ∧ Below w.heap.size w w' := by
  obtain ⟨i0, hi, hz0, hz1, hz2⟩ := info_parts info_int
  go_enter Try.func3, Try.ntmps3
  go_wp2_with fail
  refine (grayAt_any b pl _).mono ?_
  rintro e w' ⟨⟨m, p, rfl, hm8, rfl, hp, rfl⟩ | ⟨_, rfl⟩, rfl⟩
  · by_cases h16 : 1 ≤ m ∧ m ≤ 6
    · obtain ⟨kf, hok⟩ := okB_of h16.1 h16.2 hp
      have HOK := Lib.hid hok
      have hg63 := hok.n63
      have hm6 := h16.2
      have hm1 := h16.1
      have HD := Lib.hid (decide_eq_true (show (1 : Int) ≤ (m : Int) ∧ (m : Int) ≤ 6 by omega))
      have HG := Lib.hid (decide_eq_true (show (0 : Int) ≤ ((gray p : Nat) : Int) ∧ ((gray p : Nat) : Int) ≤ 63 by omega))
      have HU : Hid (unGray 64 (gray p) 0 = p) := hok.ung
      have HPW : Hid (gray p < 2 ^ m) := by
        show _ < _
        have h := hok.red
        rw [← h]
        exact readTo_lt hok.bit (by have := hok.klt; omega) kf m
      have HF : Hid (find (ringS m) (bitsOf (gray p) m) = some kf) := hok.fnd
      have HRED0 : Hid (readTo (ringS m) kf m = gray p) := hok.red
      have HLEN : Hid ((ringS m).length = 2 ^ m) := hok.len
      have HKLT : Hid (kf < (ringS m).length) := hok.klt
      have HBIT0 : Hid (∀ i, i < (ringS m).length → 0 ≤ at0 (ringS m) i ∧ at0 (ringS m) i ≤ 1) := hok.bit
      clear hok h16 hp HOK
      generalize gray p = n at *
      go_wp2_with fail
      refine (ring_ok 1 _ (by omega) (by omega)).mono ?_
      rintro e w1 ⟨a1, c1, rfl, ho1, hB1⟩
      have hr1 := rd_of_owns ho1
      have hBl := below_c hB1 (below_alloc' w1 (.cells #[.int .i64 0, .int .i64 1] 3))
      have hr1l := hr1.later (below_alloc' w1 (.cells #[.int .i64 0, .int .i64 1] 3))
      have hlit : Rd (w1.alloc (.cells #[.int .i64 0, .int .i64 1] 3)) (.slice (some ⟨w1.heap.size, 0, none⟩) 2 2) ([0, 1] : List Int).length (ints [0, 1]) := ints_lit [0, 1] rfl rfl rfl (by decide)
      have HR1 : Hid (decide (ringS 1 = [0, 1]) = true) := by show _ = _; rw [ring1]; rfl
      go_wp2_with fail
      refine (ints_b _ _ _ _ _ hr1l hlit).mono ?_
      rintro e w2 ⟨rfl, hB2⟩
      rw [HR1.out]
      have hB := below_c hBl hB2
      clear hB1 hB2 hBl hlit hr1 hr1l ho1 HR1
      go_wp2_with fail
      refine (topInB_any _ _ _ _).mono ?_
      rintro e w' ⟨rfl, rfl⟩
      rw [HD.out]
      go_wp2_with fail
      refine (topInB_any _ _ _ _).mono ?_
      rintro e w' ⟨rfl, rfl⟩
      rw [HG.out]
      go_wp2_with fail
      go_loopw [9, 10] (fun o i wr => ∃ j : Nat, j ≤ m ∧ i = .int .i64 ((m : Int) - 1 - j) ∧ wr.ownsRow w.heap.size 3 1 o j (ints ((bitsOf n m).take j)) ∧ Below w.heap.size w wr) (fun _ i _ => (intOf i + 1).toNat)
      case atStart => exact ⟨0, by omega, by go_num, World.ownsRow_nil _ _ _ _, hB⟩
      case round =>
        obtain ⟨j, hj, rfl, ho, hbr⟩ := hrel
        have hbs := hbr.size
        by_cases hlt : j < m
        · obtain ⟨i, hii⟩ : ∃ i : Nat, i = m - 1 - j := ⟨_, rfl⟩
          have hiv : (m : Int) - 1 - (j : Int) = (i : Int) := by omega
          rw [hiv]
          have hi5 : i ≤ 5 := by omega
          have HT := Lib.hid (bitsOf_take n m j hlt)
          rw [← hii] at HT
          have HII := Lib.hid hii
          clear hii hiv
          cases hbt : n.testBit i with
          | true =>
            have HBT := Lib.hid hbt
            rw [hbt] at HT
            clear hbt
            go_wp2_with (first
              | (go_at_call 12; refine (member_any n i _ hg63 hi5).mono ?_; rintro e w' ⟨rfl, rfl⟩; rw [HBT.out])
              | (at_builtin; go_must (refine wpl_app _ _ _ (AppTo.refl ho) rfl rfl Try.underlying26 hi hz0 hz1 hz2 rfl (by decide) rfl rfl rfl (by simp [Value.oneCell']) (by decide) (by omega) hbs ?_); intro v3 w3 hA3 hne3 hst3))
            go_roundw
            case rel => exact ⟨j + 1, by omega, by have := HII.out; go_num, by rw [HT.out]; simpa [ints] using hA3.own, hbr.trans hst3⟩
            case measure => simp [intOf]
          | false =>
            have HBT := Lib.hid hbt
            rw [hbt] at HT
            clear hbt
            go_wp2_with (first
              | (go_at_call 12; refine (member_any n i _ hg63 hi5).mono ?_; rintro e w' ⟨rfl, rfl⟩; rw [HBT.out])
              | (at_builtin; go_must (refine wpl_app _ _ _ (AppTo.refl ho) rfl rfl Try.underlying26 hi hz0 hz1 hz2 rfl (by decide) rfl rfl rfl (by simp [Value.oneCell']) (by decide) (by omega) hbs ?_); intro v3 w3 hA3 hne3 hst3))
            go_roundw
            case rel => exact ⟨j + 1, by omega, by have := HII.out; go_num, by rw [HT.out]; simpa [ints] using hA3.own, hbr.trans hst3⟩
            case measure => simp [intOf]
        · have hje : j = m := by omega
          subst hje
          have hm1i : (j : Int) - 1 - (j : Int) = -1 := by omega
          rw [hm1i]
          have htk : (bitsOf n j).take j = bitsOf n j := List.take_of_length_le (by rw [bitsOf_length]; omega)
          rw [htk] at ho
          have hbl := bitsOf_length n j
          obtain ⟨aw, cw, rfl⟩ := owns_slice ho
          have hrw : Rd wr (.slice aw j cw) (bitsOf n j).length (ints (bitsOf n j)) := by rw [hbl]; exact rd_of_owns ho
          clear ho htk
          have K := find_ok _ (bitsOf n j) wr hrw (by omega) (by omega) (bitsOf_in n j) (k0 := kf) (by rw [hbl]; exact HF.out) (by rw [hbl, HLEN.out]; exact Nat.le_trans (Nat.pow_le_pow_right (by decide) hm6) (by decide))
          go_wp2_with fail
          refine K.mono ?_
          rintro e w3 ⟨rfl, hB3⟩
          have hB13 := below_c hbr hB3
          clear hB3 hbr hrw K
          have hlenm := HLEN.out
          have hk63 : kf < (ringS j).length := HKLT.out
          have hpw := power_any j
          have HBIT : Hid (∀ i, i < (ringS j).length → 0 ≤ at0 (ringS j) i ∧ at0 (ringS j) i ≤ 1) := HBIT0.out
          have HRED : Hid (readTo (ringS j) kf j = n) := HRED0.out
          have hl64 : (ringS j).length ≤ 64 := by rw [hlenm]; exact Nat.le_trans (Nat.pow_le_pow_right (by decide) hm6) (by decide)
          have K2 := ring_ok j w3 hm1 hm6
          have HRT : Hid (∀ t, readTo (ringS j) kf t < 2 ^ t) := readTo_lt HBIT0.out (by omega) kf
          rw [← hlenm] at hpw
          generalize ringS j = r at *
          have HKL := Lib.hid (decide_eq_true (show (0 : Int) ≤ (kf : Int) ∧ (kf : Int) ≤ (r.length : Int) - 1 by omega))
          have hlb : ((r.length : Int) != (r.length : Int)) = false := by simp
          have wl1 : IntKind.i64.wrap ((r.length : Int) - 1) = (r.length : Int) - 1 := IntWalk.i64_in _ (by omega)
          clear hlenm
          go_wp2_with fail
          refine K2.mono ?_
          rintro e w4 ⟨a4, c4, rfl, ho4, hB4⟩
          have hB14 := below_c hB13 hB4
          have hr4 := rd_of_owns ho4
          obtain ⟨b4, off4, rfl, _, _, hb4, hx4⟩ := rd_cells0 hr4 rfl (by omega)
          clear hB13 hB4 ho4 K2
          go_wp2_with fail
          refine (hpw _ hm6).mono ?_
          rintro e w' ⟨rfl, rfl⟩
          go_wp2_with fail
          refine (topInB_any _ _ _ _).mono ?_
          rintro e w' ⟨rfl, rfl⟩
          rw [HKL.out]
          go_wp2
          go_loop [13, 14] (fun x i => ∃ t : Nat, t ≤ j ∧ i = .int .i64 t ∧ x = .int .i64 (readTo r kf t : Nat)) (fun _ i => j - (intOf i).toNat)
          case atStart => exact ⟨0, by omega, rfl, by simp [readTo]⟩
          case round =>
            obtain ⟨t, ht, rfl, rfl⟩ := hrel
            by_cases hlt2 : t < j
            · have hti : (t : Int) < (j : Int) := by omega
              have HS := Lib.hid (readTo_succ r kf t)
              have hrl : 0 < r.length := by omega
              have hmod : (kf + t) % r.length < r.length := Nat.mod_lt _ hrl
              have hcr := hx4 _ hmod
              have hbt := HBIT.out _ hmod
              have hlt3 := HRT.out t
              have hp6 : 2 ^ t ≤ 2 ^ 6 := Nat.pow_le_pow_right (by decide) (by omega)
              have wm : ((kf : Int) + (t : Int)) % (r.length : Int) = (((kf + t) % r.length : Nat) : Int) := by simp
              have wkj : IntKind.i64.wrap ((kf : Int) + (t : Int)) = (kf : Int) + (t : Int) := IntWalk.i64_in _ (by omega)
              generalize (kf + t) % r.length = q at *
              have wq : IntKind.i64.wrap (q : Int) = (q : Int) := IntWalk.i64_in _ (by omega)
              have hq0 : (0 : Int) ≤ (q : Int) := by omega
              have hql : (q : Int) < (r.length : Int) := by omega
              have hrl0 : ((r.length : Int) == 0) = false := by rw [beq_eq_false_iff_ne]; omega
              generalize readTo r kf t = z at *
              have hz64 : z < 64 := by omega
              obtain ⟨y, hy⟩ : ∃ y : Nat, at0 r q = (y : Int) := ⟨(at0 r q).toNat, by omega⟩
              rw [hy] at hcr hbt HS
              have HS2 : Hid (readTo r kf (t + 1) = 2 * z + y) := by show _ = _; rw [HS.out]; simp
              have hy1 : y ≤ 1 := by omega
              clear hp6 hlt3 hy hbt hx4
              go_wp2
              go_round
              case rel => exact ⟨t + 1, by omega, by go_num, by rw [HS2.out]; go_num⟩
              case measure => simp [intOf]; omega
            · have hte : t = j := by omega
              subst hte
              rw [HRED.out]
              have K3 := place_ok t n w4 hm8 HPW.out
              rw [HU.out] at K3
              go_wp2_with fail
              refine K3.mono ?_
              rintro e w' ⟨rfl, rfl⟩
              go_wp2
              go_ret
              exact ⟨rfl, hB14⟩
    · have HD := Lib.hid (decide_eq_false (show ¬ ((1 : Int) ≤ (m : Int) ∧ (m : Int) ≤ 6) by omega))
      clear h16 hp
      generalize gray p = n at *
      go_wp2_with fail
      refine (ring_ok 1 _ (by omega) (by omega)).mono ?_
      rintro e w1 ⟨a1, c1, rfl, ho1, hB1⟩
      have hr1 := rd_of_owns ho1
      have hBl := below_c hB1 (below_alloc' w1 (.cells #[.int .i64 0, .int .i64 1] 3))
      have hr1l := hr1.later (below_alloc' w1 (.cells #[.int .i64 0, .int .i64 1] 3))
      have hlit : Rd (w1.alloc (.cells #[.int .i64 0, .int .i64 1] 3)) (.slice (some ⟨w1.heap.size, 0, none⟩) 2 2) ([0, 1] : List Int).length (ints [0, 1]) := ints_lit [0, 1] rfl rfl rfl (by decide)
      have HR1 : Hid (decide (ringS 1 = [0, 1]) = true) := by show _ = _; rw [ring1]; rfl
      go_wp2_with fail
      refine (ints_b _ _ _ _ _ hr1l hlit).mono ?_
      rintro e w2 ⟨rfl, hB2⟩
      rw [HR1.out]
      have hB := below_c hBl hB2
      clear hB1 hB2 hBl hlit hr1 hr1l ho1 HR1
      go_wp2_with fail
      refine (topInB_any _ _ _ _).mono ?_
      rintro e w' ⟨rfl, rfl⟩
      rw [HD.out]
      go_wp2
      go_ret
      exact ⟨rfl, hB⟩
  · go_wp2_with fail
    refine (ring_ok 1 _ (by omega) (by omega)).mono ?_
    rintro e w1 ⟨a1, c1, rfl, ho1, hB1⟩
    have hr1 := rd_of_owns ho1
    have hBl := below_c hB1 (below_alloc' w1 (.cells #[.int .i64 0, .int .i64 1] 3))
    have hr1l := hr1.later (below_alloc' w1 (.cells #[.int .i64 0, .int .i64 1] 3))
    have hlit : Rd (w1.alloc (.cells #[.int .i64 0, .int .i64 1] 3)) (.slice (some ⟨w1.heap.size, 0, none⟩) 2 2) ([0, 1] : List Int).length (ints [0, 1]) := ints_lit [0, 1] rfl rfl rfl (by decide)
    have HR1 : Hid (decide (ringS 1 = [0, 1]) = true) := by show _ = _; rw [ring1]; rfl
    go_wp2_with fail
    refine (ints_b _ _ _ _ _ hr1l hlit).mono ?_
    rintro e w2 ⟨rfl, hB2⟩
    rw [HR1.out]
    have hB := below_c hBl hB2
    clear hB1 hB2 hBl hlit hr1 hr1l ho1 HR1
    go_wp2
    go_ret
    exact ⟨rfl, hB⟩

end Go.Proofs.Ytnnhidbnjlpjiaa
