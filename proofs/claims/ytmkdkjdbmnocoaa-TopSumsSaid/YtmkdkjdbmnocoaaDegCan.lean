/- What degree.Can returns: the walk. Conditions: in each statement. -/
import Derived.Test.YtmkdkjdbmnocoaaDegSort
namespace Go.Proofs.Ytmkdkjdbmnocoaa
open Go.RowKit Gr
open El (allIn)

namespace Gr
/-- the sum on the right at k, over the first m behind -/
def rightI (s : List Int) (k m : Nat) : Int := (k : Int) * ((k : Int) + 1) + (((s.drop (k + 1)).take m).map fun b => min b ((k : Int) + 1)).sum
def okI (s : List Int) (k : Nat) : Prop := (s.take (k + 1)).sum ≤ rightI s k (s.length - (k + 1))
instance (s : List Int) (k : Nat) : Decidable (okI s k) := inferInstanceAs (Decidable (_ ≤ _))
/-- what the sums say of a list that falls -/
def canI (s : List Int) : Bool := decide (s.sum % 2 = 0) && decide (∀ k, k < s.length → okI s k)
theorem rightI_succ (s : List Int) {k m : Nat} (h : k + 1 + m < s.length) : rightI s k (m + 1) = rightI s k m + min s[k + 1 + m] ((k : Int) + 1) := by
  unfold rightI
  rw [List.take_succ_eq_append_getElem (by simp; omega), List.map_append, List.sum_append]
  simp
  omega
theorem rightI_in {s : List Int} (h : ∀ x ∈ s, 0 ≤ x ∧ x ≤ 7) (hl : s.length ≤ 8) {k : Nat} (hk : k < s.length) (m : Nat) : 0 ≤ rightI s k m ∧ rightI s k m ≤ 20000 := by
  have h1 := sum_take_in (xs := ((s.drop (k + 1)).take m).map fun b => min b ((k : Int) + 1)) (fun x hx => by
    obtain ⟨y, hy, rfl⟩ := List.mem_map.1 hx
    have := h y (List.mem_of_mem_drop (List.mem_of_mem_take hy))
    omega) 100 (by simp; omega)
  rw [List.take_of_length_le (by simp; omega)] at h1
  unfold rightI
  have : (k : Int) * ((k : Int) + 1) ≤ 8 * 9 := Int.mul_le_mul (by omega) (by omega) (by omega) (by omega)
  have : 0 ≤ (k : Int) * ((k : Int) + 1) := Int.mul_nonneg (by omega) (by omega)
  omega
end Gr

set_option maxRecDepth 100000 in
set_option maxHeartbeats 1000000 in
theorem can_bad (v : Value) (n : Nat) (xs : List Int) (w : World) (hr : Rd w v n (ints xs)) (hx : xs.length = n) (hc : degChk xs ≠ 0) :
    Calls Try.prog 12 #[v] w fun e w' => e = .returned (.tuple #[.bool false, errV (degChk xs)]) ∧ w = w' := by
  have KC := degCheck_any v n xs w hr hx
  have HC := Lib.hid (errOf_pos hc)
  clear hc
  go_enter Try.func12, Try.ntmps12
  go_wp2_with fail
  refine KC.mono ?_
  rintro e w' ⟨rfl, rfl⟩
  rw [HC.out]
  go_wp2
  go_ret2
  exact ⟨rfl, rfl⟩

-- the end of the round for k

set_option maxRecDepth 100000 in
set_option maxHeartbeats 4000000 in
theorem can_ok (v : Value) (n : Nat) (xs : List Int) (w : World) (hr : Rd w v n (ints xs)) (hx : xs.length = n) (h0 : 0 < n) (hn : n ≤ 8) (h : ∀ x ∈ xs, 0 ≤ x ∧ x ≤ 7) :
    Calls Try.prog 12 #[v] w fun e w' => e = .returned (.tuple #[.bool (canI (dsort xs)), .nilIface]) ∧ Below w.heap.size w w' := by
  have KC := degCheck_any v n xs w hr hx
  have hc : degChk xs = 0 := degChk_zero.2 ⟨by omega, by omega, h⟩
  have he : errOf 0 = .nilIface := rfl
  rw [hc, he] at KC
  have KL := clone_ok w v n xs hr hx h0 (by omega)
  obtain ⟨av, cv, rfl, _⟩ := id hr
  have KS := fun w1 g c1 (o1 : w1.ownsRow w.heap.size 3 1 (.slice (some ⟨g, 0, none⟩) n c1) n (ints xs)) => sort_ok w1 w.heap.size g n c1 xs o1 h (by omega)
  have HIN : Hid (∀ x ∈ dsort xs, 0 ≤ x ∧ x ≤ 7) := fun x hx => h x ((dsort_perm xs).mem_iff.1 hx)
  have HL : Hid ((dsort xs).length = n) := (dsort_length xs).trans hx
  generalize dsort xs = S at *
  clear hc he h hx
  go_enter Try.func12, Try.ntmps12
  go_wp2_with fail
  refine KC.mono ?_
  rintro e w' ⟨rfl, rfl⟩
  go_wp2_with fail
  refine KL.mono ?_
  rintro e w1 ⟨v1, rfl, o1, hB1⟩
  obtain ⟨g, c1, rfl⟩ := owns_pos o1 h0
  go_wp2_with fail
  refine (KS w1 g c1 o1).mono ?_
  rintro e w2 ⟨rfl, o2, hg2⟩
  have hB2 : Below w.heap.size w w2 := hB1.grown hg2 hB1.size (fun k hk => by cases hk; exact (o1.lt g rfl).1)
  have hck : ∀ (k : Nat) (hk : k < n) (h' : k < S.length), w2.cell? ⟨g, k, none⟩ = some (.int .i64 S[k]) := fun k hk h' => owns_at o2 (ints_get h')
  have hcb := (rd_of_owns o2).bounds.2
  unfold maxLen at hcb
  have HCK := Lib.hid hck
  clear KC KL KS o1 o2 hg2 hB1 hck hr
  go_wp2_with fail
  go_loop [5, 25] (fun z i => ∃ k : Nat, k ≤ n ∧ i = .int .i64 k ∧ z = .int .i64 (S.take k).sum) (fun _ i => n - (intOf i).toNat)
  case atStart => exact ⟨0, by omega, rfl, rfl⟩
  case round =>
    obtain ⟨k, hk, rfl, rfl⟩ := hrel
    have hs := sum_take_in (xs := S) (fun x hx => by have := HIN.out x hx; omega) k (by rw [HL.out]; omega)
    by_cases hlt : k < n
    · have hki : (k : Int) < (n : Int) := by omega
      have hkx : k < S.length := by rw [HL.out]; exact hlt
      have ck := HCK.out k hlt hkx
      have hxk := HIN.out _ (List.getElem_mem hkx)
      have HS := Lib.hid (sum_take_succ hkx)
      generalize S[k] = x at *
      generalize (S.take k).sum = s at *
      have ws : IntKind.i64.wrap (s + x) = s + x := IntWalk.i64_in _ (by omega)
      go_wp2
      go_round
      case rel => exact ⟨k + 1, by omega, by go_num, by rw [HS.out]⟩
      case measure => simp [intOf]; omega
    · have e : S.take k = S := List.take_of_length_le (by rw [HL.out]; omega)
      rw [e] at hs ⊢
      clear e
      have HCA : Hid (canI S = (decide (S.sum % 2 = 0) && decide (∀ k, k < n → okI S k))) := by show _ = _; unfold canI; rw [HL.out]
      generalize S.sum = s at *
      have ht : Int.tmod s 2 = s % 2 := Int.tmod_eq_emod_of_nonneg (by omega)
      by_cases hodd : s % 2 = 1
      · have hb : (s % 2 == 1) = true := by simp [hodd]
        have HF : Hid (canI S = false) := by show _ = _; rw [HCA.out, decide_eq_false (by omega)]; rfl
        clear hodd
        go_wp2
        go_ret2
        rw [HF.out]
        exact ⟨rfl, hB2⟩
      · have hb : (s % 2 == 1) = false := by rw [beq_eq_false_iff_ne]; exact hodd
        have HF : Hid (canI S = decide (∀ k, k < n → okI S k)) := by show _ = _; rw [HCA.out, decide_eq_true (by omega)]; rfl
        clear hodd
        go_wp2_with fail
        go_loopw [8, 38] (fun z i wr => ∃ k : Nat, k ≤ n ∧ i = .int .i64 k ∧ z = .int .i64 (S.take k).sum ∧ Hid (∀ j, j < k → okI S j) ∧ wr = w2) (fun _ i _ => n - (intOf i).toNat)
        case atStart => exact ⟨0, by omega, rfl, rfl, fun j hj => absurd hj (Nat.not_lt_zero _), rfl⟩
        case round =>
          obtain ⟨k, hk, rfl, rfl, HO, rfl⟩ := hrel
          have hs := sum_take_in (xs := S) (fun x hx => by have := HIN.out x hx; omega) k (by rw [HL.out]; omega)
          by_cases hlt : k < n
          · have hki : (k : Int) < (n : Int) := by omega
            have hkx : k < S.length := by rw [HL.out]; exact hlt
            have ck := HCK.out k hlt hkx
            have hxk := HIN.out _ (List.getElem_mem hkx)
            have HS := Lib.hid (sum_take_succ hkx)
            have HK : Hid (okI S k ↔ (S.take (k + 1)).sum ≤ rightI S k (n - (k + 1))) := by show _ ↔ _; unfold okI; rw [HL.out]
            generalize S[k] = x at *
            generalize (S.take k).sum = s at *
            have ws : IntKind.i64.wrap (s + x) = s + x := IntWalk.i64_in _ (by omega)
            have wk : IntKind.i64.wrap ((k : Int) + 1) = (k : Int) + 1 := IntWalk.i64_in _ (by omega)
            have hkk : 0 ≤ (k : Int) * ((k : Int) + 1) ∧ (k : Int) * ((k : Int) + 1) ≤ 8 * 9 := ⟨Int.mul_nonneg (by omega) (by omega), Int.mul_le_mul (by omega) (by omega) (by omega) (by omega)⟩
            have HRS : Hid (rightI S k 0 = (k : Int) * ((k : Int) + 1)) := by show _ = _; simp [rightI]
            have wkk : wrap64 ((k : Int) * ((k : Int) + 1)) = (k : Int) * ((k : Int) + 1) := by
              generalize (k : Int) * ((k : Int) + 1) = kk at hkk ⊢
              exact IntWalk.wrap64_in kk (by omega)
            go_wp2_with fail
            · rename_i h
              have hnk : n ≤ k + 1 := by omega
              subst h
              go_loopw [11, 55] (fun z i wx => ∃ m : Nat, m ≤ n - (k + 1) ∧ i = .int .i64 m ∧ z = .int .i64 (rightI S k m) ∧ wx = wr) (fun _ i _ => n - (k + 1) - (intOf i).toNat)
              case atStart => exact ⟨0, by omega, rfl, by rw [HRS.out], rfl⟩
              case round =>
                obtain ⟨m, hm, rfl, rfl, rfl⟩ := hrel
                have hri := rightI_in (fun x hx => HIN.out x hx) (by rw [HL.out]; exact hn) hkx m
                by_cases hlm : m < n - (k + 1)
                · exact absurd hlm (by omega)
                · obtain rfl : m = n - (k + 1) := by omega
                  by_cases hok : okI S k
                  · have hok2 := HK.out.1 hok
                    rw [HS.out] at hok2
                    have HO2 : Hid (∀ j, j < k + 1 → okI S j) := fun j hj => by
                      by_cases e : j = k
                      · rw [e]; exact hok
                      · exact HO.out j (by omega)
                    clear HK hok
                    generalize rightI S k (n - (k + 1)) = r at *
                    have hgt : decide (s + x > r) = false := by simp; exact hok2
                    go_wp2
                    go_roundw
                    case rel => exact ⟨k + 1, by omega, by go_num, by rw [HS.out], HO2, by first | rfl | trivial⟩
                    case measure => simp [intOf]; omega
                  · have hok2 : ¬ (S.take (k + 1)).sum ≤ rightI S k (n - (k + 1)) := fun h => hok (HK.out.2 h)
                    rw [HS.out] at hok2
                    have HF2 : Hid (canI S = false) := by
                      show _ = _
                      rw [HF.out]
                      exact decide_eq_false fun h => hok (h k (by omega))
                    clear HK hok
                    generalize rightI S k (n - (k + 1)) = r at *
                    have hgt : decide (s + x > r) = true := by simp; omega
                    go_wp2
                    go_ret2
                    rw [HF2.out]
                    exact ⟨rfl, hB2⟩
            · go_loopw [11, 55] (fun z i wx => ∃ m : Nat, m ≤ n - (k + 1) ∧ i = .int .i64 m ∧ z = .int .i64 (rightI S k m) ∧ wx = wr) (fun _ i _ => n - (k + 1) - (intOf i).toNat)
              case atStart => exact ⟨0, by omega, rfl, by rw [HRS.out], rfl⟩
              case round =>
                obtain ⟨m, hm, rfl, rfl, rfl⟩ := hrel
                have hri := rightI_in (fun x hx => HIN.out x hx) (by rw [HL.out]; exact hn) hkx m
                by_cases hlm : m < n - (k + 1)
                · have hkm : k + 1 + m < S.length := by rw [HL.out]; omega
                  have ckm := HCK.out (k + 1 + m) (by omega) hkm
                  have hym := HIN.out _ (List.getElem_mem hkm)
                  have HRM := Lib.hid (rightI_succ S hkm)
                  generalize S[k + 1 + m] = y at *
                  generalize rightI S k m = r at *
                  have hmin : 0 ≤ min y ((k : Int) + 1) ∧ min y ((k : Int) + 1) ≤ 9 := by omega
                  go_wp2
                  go_roundw
                  case rel => exact ⟨m + 1, by omega, by go_num, by rw [HRM.out], by first | rfl | trivial⟩
                  case measure => simp [intOf]; omega
                · obtain rfl : m = n - (k + 1) := by omega
                  by_cases hok : okI S k
                  · have hok2 := HK.out.1 hok
                    rw [HS.out] at hok2
                    have HO2 : Hid (∀ j, j < k + 1 → okI S j) := fun j hj => by
                      by_cases e : j = k
                      · rw [e]; exact hok
                      · exact HO.out j (by omega)
                    clear HK hok
                    generalize rightI S k (n - (k + 1)) = r at *
                    have hgt : decide (s + x > r) = false := by simp; exact hok2
                    go_wp2
                    go_roundw
                    case rel => exact ⟨k + 1, by omega, by go_num, by rw [HS.out], HO2, by first | rfl | trivial⟩
                    case measure => simp [intOf]; omega
                  · have hok2 : ¬ (S.take (k + 1)).sum ≤ rightI S k (n - (k + 1)) := fun h => hok (HK.out.2 h)
                    rw [HS.out] at hok2
                    have HF2 : Hid (canI S = false) := by
                      show _ = _
                      rw [HF.out]
                      exact decide_eq_false fun h => hok (h k (by omega))
                    clear HK hok
                    generalize rightI S k (n - (k + 1)) = r at *
                    have hgt : decide (s + x > r) = true := by simp; omega
                    go_wp2
                    go_ret2
                    rw [HF2.out]
                    exact ⟨rfl, hB2⟩
          · obtain rfl : k = n := by omega
            have HT : Hid (canI S = true) := by
              show _ = _
              rw [HF.out]
              exact decide_eq_true fun j hj => HO.out j hj
            clear hs
            go_wp2
            go_ret2
            rw [HT.out]
            exact ⟨rfl, hB2⟩
end Go.Proofs.Ytmkdkjdbmnocoaa
