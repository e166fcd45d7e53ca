/- WalkRing returns true for every input: the walk. Conditions: none. -/
import Derived.Test.YthlnejfojaldnaaDeepBack
import Derived.Test.YthlnejfojaldnaaForestP
namespace Go.Proofs.Ythlnejfojaldnaa
open Go.RowKit Gr

namespace Gr
open Classical
noncomputable def partsU (O : List Nat) (k : Nat) : Nat := (List.range k).countP fun i => decide (RootC O i)
theorem partsU_succ (O : List Nat) (k : Nat) : partsU O (k + 1) = partsU O k + if RootC O k then 1 else 0 := by
  unfold partsU; rw [List.range_succ, List.countP_append]; by_cases h : RootC O k <;> simp [h]
def pairsU (O : List Nat) (a b : Nat) : Nat := (List.range b).countP fun j => (O[a]?.getD 0).testBit j
theorem pairsU_succ (O : List Nat) (a b : Nat) : pairsU O a (b + 1) = pairsU O a b + if (O[a]?.getD 0).testBit b = true then 1 else 0 := by
  unfold pairsU; rw [List.range_succ, List.countP_append]; cases h : (O[a]?.getD 0).testBit b <;> simp [h]
theorem pairsN_succ (O : List Nat) (a : Nat) : pairsN O (a + 1) = pairsN O a + pairsU O a a := by
  unfold pairsN pairsU; rw [pairsL_succ, List.countP_append, List.countP_map]; rfl
theorem partsU_le (O : List Nat) (k : Nat) : partsU O k ≤ k := by
  unfold partsU; refine Nat.le_trans List.countP_le_length ?_; simp
theorem pairsU_le (O : List Nat) (a k : Nat) : pairsU O a k ≤ k := by
  unfold pairsU; refine Nat.le_trans List.countP_le_length ?_; simp
theorem pairsN_le (O : List Nat) (k : Nat) : pairsN O k ≤ k * k := by
  induction k with
  | zero => simp [pairsN, pairsL]
  | succ k ih => rw [pairsN_succ]; have := pairsU_le O k k; have : (k + 1) * (k + 1) = k * k + 2 * k + 1 := by rw [Nat.add_mul, Nat.mul_add]; omega
                 omega
theorem near_bit {n : Nat} {ls : List Ln} (hg : GoodG n ls) (a b : Nat) : near ls a b = ((beside n ls)[a]?.getD 0).testBit b := by
  rw [Bool.eq_iff_iff]; exact (adj_near hg a b).symm
end Gr

set_option maxRecDepth 100000 in
set_option maxHeartbeats 4000000 in
theorem walkRing_any (n : Int) {v : Value} {ls : List Ln} {w : World} (hr : LinesRd w v ls) :
    Calls Try.prog 10 #[.int .i64 n, v] w fun e w' => e = .returned (.bool true) ∧ Below w.heap.size w w' := by
  by_cases hc : chk n ls = 0
  · obtain ⟨m, rfl, hg⟩ := good_of hc
    have HG := Lib.hid hg
    have hm8 := hg.2.1
    have hm1 := hg.1
    have hO := adj_bounded hg
    have hS := beside_symm hg
    have hI : ∀ i, ¬ adjS (beside m ls) i i := fun i h => adj_ne hg h rfl
    have hlen := beside_length m ls
    have HB := Lib.hid (near_bit hg)
    have HF := Lib.hid (forest m _ (beside m ls) hlen hO hS hI rfl)
    have hmm : ((m : Int) != (m : Int)) = false := by simp
    generalize hOe : beside m ls = O at *
    have HO := Lib.hid hO
    have HI := Lib.hid hI
    clear hc hg hO hS hI
    go_enter Try.func10, Try.ntmps10
    go_wp2_with fail
    refine (walkFact_any _).mono ?_
    rintro e w1 ⟨rfl, hB1⟩
    go_wp2_with fail
    refine (ring_ok m _ ls _ (hr.later hB1) HG.out).mono ?_
    rintro e w2 ⟨k, rfl, hk, hB2⟩
    have hB12 := below_c hB1 hB2
    rw [hOe] at hk
    have hk0 := ring_zero hm8 hlen HO.out HI.out hk
    have hk3 := ring_three hlen HO.out HI.out hk
    have HK0 := Lib.hid hk0
    have hkp := hk.pos
    have hks := hk.small
    clear hk0 hk
    go_wp2_with fail
    refine (parts_ok m _ ls _ (hr.later hB12) HG.out).mono ?_
    rintro e w3 ⟨p, ap, cp, rfl, hp, hrp, hB3⟩
    have hB13 := below_c hB12 hB3
    rw [hOe] at hp
    have HP : Hid (∀ i, i < m → (at1 p i = (i : Int) ↔ RootC O i)) := fun i hi => parts_root HO.out hp hi
    have hpl := hp.len
    have hr3 := hr.later hB13
    obtain ⟨bp, op, rfl, hcp1, hcp2, _⟩ := rd_cells hrp hp.len hm1
    unfold maxLen at hcp2
    clear hB1 hB2 hB3 hB12 hp hr
    have HFE : Hid (m ≤ pairsN O m + partsU O m ∧ (m = pairsN O m + partsU O m ↔ k = 0)) := ⟨HF.out.1, HF.out.2.trans HK0.out.symm⟩
    have hb : ∃ kz : Bool, (k == 0) = kz ∧ ((kz = true ∧ (k != 0) = false) ∨ (kz = false ∧ (k != 0) = true ∧ Hid (decide ((3 : Int) ≤ k ∧ k ≤ (m : Int)) = true))) := by
      by_cases hkz : k = 0
      · exact ⟨true, by simp [hkz], .inl ⟨rfl, by simp [hkz]⟩⟩
      · exact ⟨false, by simp [hkz], .inr ⟨rfl, by simp [hkz], decide_eq_true (hk3 hkz)⟩⟩
    clear hk3
    obtain ⟨kz, hkb, ⟨rfl, hkn⟩ | ⟨rfl, hkn, HIN⟩⟩ := hb
    · go_wp2_with fail
      go_loopw [9, 10, 11] (fun x y i wr => ∃ a : Nat, a ≤ m ∧ i = .int .i64 a ∧ x = .int .i64 (partsU O a : Nat) ∧ y = .int .i64 (pairsN O a : Nat) ∧ Below w3.heap.size w3 wr) (fun _ _ i _ => m - (intOf i).toNat)
      case atStart => exact ⟨0, by omega, rfl, rfl, rfl, Below.refl _ _⟩
      case round =>
        obtain ⟨a, ha, rfl, rfl, rfl, hbr⟩ := hrel
        have hpa := partsU_le O a
        have hqa := pairsN_le O a
        have haa : a * a ≤ 64 := Nat.mul_le_mul (show a ≤ 8 by omega) (show a ≤ 8 by omega)
        by_cases hlt : a < m
        · have hai : (a : Int) < (m : Int) := by omega
          have cpa := rdAt (hrp.later hbr) hpl hlt
          have hpr := HP.out a hlt
          have hps := partsU_succ O a
          have hqs := pairsN_succ O a
          have HQS := Lib.hid hqs
          have hpz : ∃ b : Bool, (at1 p a == (a : Int)) = b ∧ Hid (partsU O (a + 1) = partsU O a + if b = true then 1 else 0) := by
            refine ⟨_, rfl, ?_⟩
            show _ = _
            rw [hps]
            by_cases h : RootC O a
            · rw [if_pos h, if_pos (by simp; exact hpr.2 h)]
            · rw [if_neg h, if_neg (by simp; exact fun e => h (hpr.1 e))]
          obtain ⟨b, hpb, HPS⟩ := hpz
          generalize at1 p a = pa at *
          clear hpr hps hqs
          have wp1 : IntKind.i64.wrap ((partsU O a : Int) + 1) = (partsU O a : Int) + 1 := IntWalk.i64_in _ (by omega)
          cases b with
          | true =>
            go_wp2_with fail
            go_loopw [10, 12] (fun y i wr => ∃ b : Nat, b ≤ a ∧ i = .int .i64 b ∧ y = .int .i64 ((pairsN O a : Int) + (pairsU O a b : Int)) ∧ Below w3.heap.size w3 wr) (fun _ i _ => a - (intOf i).toNat)
            case atStart => exact ⟨0, by omega, rfl, by simp [pairsU], hbr⟩
            case round =>
              obtain ⟨b, hb, rfl, rfl, hbr⟩ := hrel
              have hqb := pairsU_le O a b
              by_cases hlb : b < a
              · have hbi : (b : Int) < (a : Int) := by omega
                have hrb := hr3.later hbr
                have HQU := Lib.hid (pairsU_succ O a b)
                have hnb := HB.out a b
                have wq : IntKind.i64.wrap ((pairsN O a : Int) + (pairsU O a b : Int) + 1) = (pairsN O a : Int) + (pairsU O a b : Int) + 1 := IntWalk.i64_in _ (by omega)
                cases hnr : near ls a b with
                | true =>
                  rw [hnr] at hnb
                  have HN := Lib.hid hnr
                  have HNB := Lib.hid hnb
                  clear hnr hnb
                  go_wp2_with fail
                  refine (refBeside_any _ ls a b _ hrb).mono ?_
                  rintro e w4 ⟨rfl, rfl⟩
                  rw [HN.out]
                  go_wp2
                  go_roundw
                  case rel => exact ⟨b + 1, by omega, by go_num, by rw [HQU.out, if_pos HNB.out.symm]; congr 1, hbr⟩
                  case measure => simp [intOf]; omega
                | false =>
                  rw [hnr] at hnb
                  have HN := Lib.hid hnr
                  have HNB := Lib.hid hnb
                  clear hnr hnb wq
                  go_wp2_with fail
                  refine (refBeside_any _ ls a b _ hrb).mono ?_
                  rintro e w4 ⟨rfl, rfl⟩
                  rw [HN.out]
                  go_wp2
                  go_roundw
                  case rel => exact ⟨b + 1, by omega, by go_num, by rw [HQU.out, if_neg (by rw [← HNB.out]; simp)]; simp, hbr⟩
                  case measure => simp [intOf]; omega
              · have hbe : b = a := by omega
                subst hbe
                go_wp2
                go_roundw
                case rel => exact ⟨b + 1, by omega, by go_num, by rw [HPS.out]; simp, by rw [HQS.out]; simp, hbr⟩
                case measure => simp [intOf]; omega
          | false =>
            go_wp2_with fail
            go_loopw [10, 12] (fun y i wr => ∃ b : Nat, b ≤ a ∧ i = .int .i64 b ∧ y = .int .i64 ((pairsN O a : Int) + (pairsU O a b : Int)) ∧ Below w3.heap.size w3 wr) (fun _ i _ => a - (intOf i).toNat)
            case atStart => exact ⟨0, by omega, rfl, by simp [pairsU], hbr⟩
            case round =>
              obtain ⟨b, hb, rfl, rfl, hbr⟩ := hrel
              have hqb := pairsU_le O a b
              by_cases hlb : b < a
              · have hbi : (b : Int) < (a : Int) := by omega
                have hrb := hr3.later hbr
                have HQU := Lib.hid (pairsU_succ O a b)
                have hnb := HB.out a b
                have wq : IntKind.i64.wrap ((pairsN O a : Int) + (pairsU O a b : Int) + 1) = (pairsN O a : Int) + (pairsU O a b : Int) + 1 := IntWalk.i64_in _ (by omega)
                cases hnr : near ls a b with
                | true =>
                  rw [hnr] at hnb
                  have HN := Lib.hid hnr
                  have HNB := Lib.hid hnb
                  clear hnr hnb
                  go_wp2_with fail
                  refine (refBeside_any _ ls a b _ hrb).mono ?_
                  rintro e w4 ⟨rfl, rfl⟩
                  rw [HN.out]
                  go_wp2
                  go_roundw
                  case rel => exact ⟨b + 1, by omega, by go_num, by rw [HQU.out, if_pos HNB.out.symm]; congr 1, hbr⟩
                  case measure => simp [intOf]; omega
                | false =>
                  rw [hnr] at hnb
                  have HN := Lib.hid hnr
                  have HNB := Lib.hid hnb
                  clear hnr hnb wq
                  go_wp2_with fail
                  refine (refBeside_any _ ls a b _ hrb).mono ?_
                  rintro e w4 ⟨rfl, rfl⟩
                  rw [HN.out]
                  go_wp2
                  go_roundw
                  case rel => exact ⟨b + 1, by omega, by go_num, by rw [HQU.out, if_neg (by rw [← HNB.out]; simp)]; simp, hbr⟩
                  case measure => simp [intOf]; omega
              · have hbe : b = a := by omega
                subst hbe
                go_wp2
                go_roundw
                case rel => exact ⟨b + 1, by omega, by go_num, by rw [HPS.out]; simp, by rw [HQS.out]; simp, hbr⟩
                case measure => simp [intOf]; omega
        · have hae : a = m := by omega
          subst hae
          obtain ⟨h1, h2⟩ := HFE.out
          have e1 : decide ((pairsN O a : Int) ≥ (a : Int) - (partsU O a : Int)) = true := by simp; omega
          have e2 : ((pairsN O a : Int) == (a : Int) - (partsU O a : Int)) = true := by
            have : ((pairsN O a : Int) == (a : Int) - (partsU O a : Int)) = (k == 0) := by
              rw [Bool.eq_iff_iff]; simp only [beq_iff_eq]
              rw [← h2]; omega
            rw [this, hkb]
          have wp2 : IntKind.i64.wrap ((a : Int) - (partsU O a : Int)) = (a : Int) - (partsU O a : Int) := IntWalk.i64_in _ (by omega)
          clear h1 h2 HFE HF
          go_wp2
          go_ret
          exact ⟨rfl, below_c hB13 hbr⟩
    · go_wp2_with fail
      refine (in_any _ _ _ _).mono ?_
      rintro e w4 ⟨rfl, rfl⟩
      rw [HIN.out]
      go_wp2_with fail
      go_loopw [9, 10, 11] (fun x y i wr => ∃ a : Nat, a ≤ m ∧ i = .int .i64 a ∧ x = .int .i64 (partsU O a : Nat) ∧ y = .int .i64 (pairsN O a : Nat) ∧ Below w3.heap.size w3 wr) (fun _ _ i _ => m - (intOf i).toNat)
      case atStart => exact ⟨0, by omega, rfl, rfl, rfl, Below.refl _ _⟩
      case round =>
        obtain ⟨a, ha, rfl, rfl, rfl, hbr⟩ := hrel
        have hpa := partsU_le O a
        have hqa := pairsN_le O a
        have haa : a * a ≤ 64 := Nat.mul_le_mul (show a ≤ 8 by omega) (show a ≤ 8 by omega)
        by_cases hlt : a < m
        · have hai : (a : Int) < (m : Int) := by omega
          have cpa := rdAt (hrp.later hbr) hpl hlt
          have hpr := HP.out a hlt
          have hps := partsU_succ O a
          have hqs := pairsN_succ O a
          have HQS := Lib.hid hqs
          have hpz : ∃ b : Bool, (at1 p a == (a : Int)) = b ∧ Hid (partsU O (a + 1) = partsU O a + if b = true then 1 else 0) := by
            refine ⟨_, rfl, ?_⟩
            show _ = _
            rw [hps]
            by_cases h : RootC O a
            · rw [if_pos h, if_pos (by simp; exact hpr.2 h)]
            · rw [if_neg h, if_neg (by simp; exact fun e => h (hpr.1 e))]
          obtain ⟨b, hpb, HPS⟩ := hpz
          generalize at1 p a = pa at *
          clear hpr hps hqs
          have wp1 : IntKind.i64.wrap ((partsU O a : Int) + 1) = (partsU O a : Int) + 1 := IntWalk.i64_in _ (by omega)
          cases b with
          | true =>
            go_wp2_with fail
            go_loopw [10, 12] (fun y i wr => ∃ b : Nat, b ≤ a ∧ i = .int .i64 b ∧ y = .int .i64 ((pairsN O a : Int) + (pairsU O a b : Int)) ∧ Below w3.heap.size w3 wr) (fun _ i _ => a - (intOf i).toNat)
            case atStart => exact ⟨0, by omega, rfl, by simp [pairsU], hbr⟩
            case round =>
              obtain ⟨b, hb, rfl, rfl, hbr⟩ := hrel
              have hqb := pairsU_le O a b
              by_cases hlb : b < a
              · have hbi : (b : Int) < (a : Int) := by omega
                have hrb := hr3.later hbr
                have HQU := Lib.hid (pairsU_succ O a b)
                have hnb := HB.out a b
                have wq : IntKind.i64.wrap ((pairsN O a : Int) + (pairsU O a b : Int) + 1) = (pairsN O a : Int) + (pairsU O a b : Int) + 1 := IntWalk.i64_in _ (by omega)
                cases hnr : near ls a b with
                | true =>
                  rw [hnr] at hnb
                  have HN := Lib.hid hnr
                  have HNB := Lib.hid hnb
                  clear hnr hnb
                  go_wp2_with fail
                  refine (refBeside_any _ ls a b _ hrb).mono ?_
                  rintro e w4 ⟨rfl, rfl⟩
                  rw [HN.out]
                  go_wp2
                  go_roundw
                  case rel => exact ⟨b + 1, by omega, by go_num, by rw [HQU.out, if_pos HNB.out.symm]; congr 1, hbr⟩
                  case measure => simp [intOf]; omega
                | false =>
                  rw [hnr] at hnb
                  have HN := Lib.hid hnr
                  have HNB := Lib.hid hnb
                  clear hnr hnb wq
                  go_wp2_with fail
                  refine (refBeside_any _ ls a b _ hrb).mono ?_
                  rintro e w4 ⟨rfl, rfl⟩
                  rw [HN.out]
                  go_wp2
                  go_roundw
                  case rel => exact ⟨b + 1, by omega, by go_num, by rw [HQU.out, if_neg (by rw [← HNB.out]; simp)]; simp, hbr⟩
                  case measure => simp [intOf]; omega
              · have hbe : b = a := by omega
                subst hbe
                go_wp2
                go_roundw
                case rel => exact ⟨b + 1, by omega, by go_num, by rw [HPS.out]; simp, by rw [HQS.out]; simp, hbr⟩
                case measure => simp [intOf]; omega
          | false =>
            go_wp2_with fail
            go_loopw [10, 12] (fun y i wr => ∃ b : Nat, b ≤ a ∧ i = .int .i64 b ∧ y = .int .i64 ((pairsN O a : Int) + (pairsU O a b : Int)) ∧ Below w3.heap.size w3 wr) (fun _ i _ => a - (intOf i).toNat)
            case atStart => exact ⟨0, by omega, rfl, by simp [pairsU], hbr⟩
            case round =>
              obtain ⟨b, hb, rfl, rfl, hbr⟩ := hrel
              have hqb := pairsU_le O a b
              by_cases hlb : b < a
              · have hbi : (b : Int) < (a : Int) := by omega
                have hrb := hr3.later hbr
                have HQU := Lib.hid (pairsU_succ O a b)
                have hnb := HB.out a b
                have wq : IntKind.i64.wrap ((pairsN O a : Int) + (pairsU O a b : Int) + 1) = (pairsN O a : Int) + (pairsU O a b : Int) + 1 := IntWalk.i64_in _ (by omega)
                cases hnr : near ls a b with
                | true =>
                  rw [hnr] at hnb
                  have HN := Lib.hid hnr
                  have HNB := Lib.hid hnb
                  clear hnr hnb
                  go_wp2_with fail
                  refine (refBeside_any _ ls a b _ hrb).mono ?_
                  rintro e w4 ⟨rfl, rfl⟩
                  rw [HN.out]
                  go_wp2
                  go_roundw
                  case rel => exact ⟨b + 1, by omega, by go_num, by rw [HQU.out, if_pos HNB.out.symm]; congr 1, hbr⟩
                  case measure => simp [intOf]; omega
                | false =>
                  rw [hnr] at hnb
                  have HN := Lib.hid hnr
                  have HNB := Lib.hid hnb
                  clear hnr hnb wq
                  go_wp2_with fail
                  refine (refBeside_any _ ls a b _ hrb).mono ?_
                  rintro e w4 ⟨rfl, rfl⟩
                  rw [HN.out]
                  go_wp2
                  go_roundw
                  case rel => exact ⟨b + 1, by omega, by go_num, by rw [HQU.out, if_neg (by rw [← HNB.out]; simp)]; simp, hbr⟩
                  case measure => simp [intOf]; omega
              · have hbe : b = a := by omega
                subst hbe
                go_wp2
                go_roundw
                case rel => exact ⟨b + 1, by omega, by go_num, by rw [HPS.out]; simp, by rw [HQS.out]; simp, hbr⟩
                case measure => simp [intOf]; omega
        · have hae : a = m := by omega
          subst hae
          obtain ⟨h1, h2⟩ := HFE.out
          have e1 : decide ((pairsN O a : Int) ≥ (a : Int) - (partsU O a : Int)) = true := by simp; omega
          have e2 : ((pairsN O a : Int) == (a : Int) - (partsU O a : Int)) = false := by
            have : ((pairsN O a : Int) == (a : Int) - (partsU O a : Int)) = (k == 0) := by
              rw [Bool.eq_iff_iff]; simp only [beq_iff_eq]
              rw [← h2]; omega
            rw [this, hkb]
          have wp2 : IntKind.i64.wrap ((a : Int) - (partsU O a : Int)) = (a : Int) - (partsU O a : Int) := IntWalk.i64_in _ (by omega)
          clear h1 h2 HFE HF
          go_wp2
          go_ret
          exact ⟨rfl, below_c hB13 hbr⟩
  · go_enter Try.func10, Try.ntmps10
    go_wp2_with fail
    refine (walkFact_any _).mono ?_
    rintro e w1 ⟨rfl, hB1⟩
    go_wp2_with fail
    refine (ring_bad n _ ls _ (hr.later hB1) hc).mono ?_
    rintro e w2 ⟨rfl, hB2⟩
    go_wp2
    go_ret
    exact ⟨rfl, below_c hB1 hB2⟩

end Go.Proofs.Ythlnejfojaldnaa
