/- DegreeHands returns true for every input: the walk. Conditions: none. -/
import Derived.Test.YtmkdkjdbmnocoaaDegFact
namespace Go.Proofs.Ytmkdkjdbmnocoaa
open Go.RowKit Gr

theorem sum_cast (l : List Nat) : (l.map fun (i : Nat) => (i : Int)).sum = ((l.sum : Nat) : Int) := by
  induction l with
  | nil => rfl
  | cons a l ih => rw [List.map_cons, List.sum_cons, List.sum_cons, ih]; omega
/-- how many of the first k have an odd number -/
def oddS (l : List Nat) (k : Nat) : Nat := ((l.take k).map (· % 2)).sum
theorem oddS_succ {l : List Nat} {k : Nat} (h : k < l.length) : oddS l (k + 1) = oddS l k + l[k] % 2 := by
  unfold oddS
  rw [List.take_succ_eq_append_getElem h, List.map_append, List.sum_append]
  simp
theorem oddS_le (l : List Nat) (k : Nat) : oddS l k ≤ k := by
  have key : ∀ m : List Nat, (m.map (· % 2)).sum ≤ m.length := by
    intro m
    induction m with
    | nil => exact Nat.le_refl _
    | cons a m ih => rw [List.map_cons, List.sum_cons, List.length_cons]; omega
  have := key (l.take k)
  have h2 : (l.take k).length ≤ k := by simp; omega
  unfold oddS
  omega
theorem oddS_all (l : List Nat) : oddS l l.length % 2 = l.sum % 2 := by
  unfold oddS
  rw [List.take_of_length_le (Nat.le_refl _)]
  induction l with
  | nil => rfl
  | cons a l ih => rw [List.map_cons, List.sum_cons, List.sum_cons]; omega

set_option maxRecDepth 100000 in
set_option maxHeartbeats 1000000 in
theorem degreeHands_bad (n : Int) {v : Value} {ls : List Ln} {w : World} (hr : LinesRd w v ls) (hc : chk n ls ≠ 0) :
    Calls Try.prog 3 #[.int .i64 n, v] w fun e w' => e = .returned (.bool true) ∧ Below w.heap.size w w' := by
  have K := fun w hr => degOf_bad n v ls w hr hc
  clear hc
  go_enter Try.func3, Try.ntmps3
  go_wp2_with fail
  refine (degreeFact_any _).mono ?_
  rintro e w1 ⟨rfl, hB1⟩
  go_wp2_with fail
  refine (K _ (hr.later hB1)).mono ?_
  rintro e w2 ⟨rfl, hB2⟩
  have hB := below_c hB1 hB2
  clear K
  go_wp2
  go_ret
  exact ⟨rfl, hB⟩

set_option maxRecDepth 100000 in
set_option maxHeartbeats 4000000 in
theorem degreeHands_ok (n : Nat) {v : Value} {ls : List Ln} {w : World} (hr : LinesRd w v ls) (hg : GoodG n ls) (hc : chk n ls = 0) :
    Calls Try.prog 3 #[.int .i64 (n : Int), v] w fun e w' => e = .returned (.bool true) ∧ Below w.heap.size w w' := by
  have K := fun w hr => degOf_ok n v ls w hr hg hc
  have HH := Lib.hid (hands (rN_symm ls) (rN_irr hg) n)
  have HIN := Lib.hid (degI_in hg)
  have hn8 := hg.2.1
  have hn1 := hg.1
  have hl24 := hg.2.2.1
  have hpl : ∀ k, k ≤ 8 → pairsN (rN ls) k ≤ 64 := fun k hk => pairsN_le (rN ls) k hk
  have HPL := Lib.hid hpl
  have hDl := degI_length n ls
  have HDN : Hid (degI n ls = (degN n ls).map fun (i : Nat) => (i : Int)) := rfl
  have HNS : Hid ((degN n ls).sum = 2 * pairsN (rN ls) n) := HH
  have hNl := degN_length n ls
  clear hc hg hpl
  go_enter Try.func3, Try.ntmps3
  go_wp2_with fail
  refine (degreeFact_any _).mono ?_
  rintro e w1 ⟨rfl, hB1⟩
  go_wp2_with fail
  refine (K _ (hr.later hB1)).mono ?_
  rintro e w2 ⟨ad, cd, rfl, od, hB2⟩
  have hB02 := below_c hB1 hB2
  have rd2 := rd_of_owns od
  rw [hDl] at rd2 ⊢
  have hnn : ((n : Int) != (n : Int)) = false := by simp
  clear od K
  go_wp2_with fail
  go_loopw [8, 10] (fun pp aa wr => ∃ a : Nat, a ≤ n ∧ aa = .int .i64 a ∧ pp = .int .i64 ((pairsN (rN ls) a : Nat) : Int) ∧ wr = w2) (fun _ aa _ => n - (intOf aa).toNat)
  case atStart => exact ⟨0, by omega, rfl, rfl, rfl⟩
  case round =>
    obtain ⟨a, ha, rfl, rfl, rfl⟩ := hrel
    have hpa := HPL.out a (by omega)
    by_cases hlt : a < n
    · have hai : (a : Int) < (n : Int) := by omega
      have HPS := Lib.hid (pairsN_succ (rN ls) a)
      obtain ⟨wa, hwa⟩ : ∃ wa, wa = wr := ⟨wr, rfl⟩
      subst hwa
      generalize pairsN (rN ls) a = p at *
      go_wp2_with fail
      go_loopw [8, 11] (fun pp bb wr => ∃ b : Nat, b ≤ a ∧ bb = .int .i64 b ∧ pp = .int .i64 ((p + dg (rN ls) b a : Nat) : Int) ∧ wr = wa) (fun _ bb _ => a - (intOf bb).toNat)
      case atStart => exact ⟨0, by omega, rfl, rfl, rfl⟩
      case round =>
        obtain ⟨b, hb, rfl, rfl, rfl⟩ := hrel
        have hdb := dg_le (rN ls) b a
        by_cases hlb : b < a
        · have hbi : (b : Int) < (a : Int) := by omega
          have HDS : Hid (dg (rN ls) (b + 1) a = dg (rN ls) b a + (if near ls a b then 1 else 0)) := dg_succ (rN ls) b a
          generalize dg (rN ls) b a = z at *
          go_wp2_with fail
          refine (refBeside_any v ls (a : Int) (b : Int) _ (hr.later hB02)).mono ?_
          rintro e w' ⟨rfl, rfl⟩
          cases hnear : near ls (a : Int) (b : Int) with
          | true =>
            rw [hnear] at HDS
            have HD2 : Hid (dg (rN ls) (b + 1) a = z + 1) := HDS
            clear HDS hnear
            have hcz : ((p + z : Nat) : Int) = (p : Int) + (z : Int) := by omega
            go_wp2
            go_roundw
            case rel => exact ⟨b + 1, by omega, by go_num, by rw [HD2.out]; go_num, by first | rfl | trivial⟩
            case measure => simp [intOf]; omega
          | false =>
            rw [hnear] at HDS
            have HD2 : Hid (dg (rN ls) (b + 1) a = z) := HDS
            clear HDS hnear
            go_wp2
            go_roundw
            case rel => exact ⟨b + 1, by omega, by go_num, by rw [HD2.out]; first | rfl | go_num, by first | rfl | trivial⟩
            case measure => simp [intOf]; omega
        · obtain rfl : b = a := by omega
          go_wp2
          go_roundw
          case rel => exact ⟨b + 1, by omega, by go_num, by rw [HPS.out], by first | rfl | trivial⟩
          case measure => simp [intOf]; omega
    · obtain rfl : a = n := by omega
      obtain ⟨wa, hwa⟩ : ∃ wa, wa = wr := ⟨wr, rfl⟩
      subst hwa
      go_wp2_with fail
      go_loopw [9, 12] (fun oo ii wr => ∃ k : Nat, k ≤ a ∧ ii = .int .i64 k ∧ oo = .int .i64 ((oddS (degN a ls) k : Nat) : Int) ∧ wr = wa) (fun _ ii _ => a - (intOf ii).toNat)
      case atStart => exact ⟨0, by omega, rfl, rfl, rfl⟩
      case round =>
        obtain ⟨k, hk, rfl, rfl, rfl⟩ := hrel
        have hol := oddS_le (degN a ls) k
        by_cases hlt2 : k < a
        · have hki : (k : Int) < (a : Int) := by omega
          have hkl : k < (degI a ls).length := by omega
          have hkn : k < (degN a ls).length := by omega
          have HOS := Lib.hid (oddS_succ hkn)
          obtain ⟨_, _, e, _, _, _, hcx⟩ := id rd2
          cases e
          obtain ⟨bd, off, rfl, hbd, hcc⟩ := hcx (by omega)
          have ck := hcc k _ (ints_get hkl)
          have hxk := HIN.out _ (List.getElem_mem hkl)
          have hxe : (degI a ls)[k] = (((degN a ls)[k] : Nat) : Int) := by simp [degI]
          rw [hxe] at ck hxk
          clear hcc hcx hxe
          generalize (degN a ls)[k] = x at *
          generalize oddS (degN a ls) k = z at *
          have wn1 : IntKind.i64.wrap ((a : Int) - 1) = (a : Int) - 1 := IntWalk.i64_in _ (by omega)
          have KI := in_any (x : Int) 0 ((a : Int) - 1) wr
          rw [decide_eq_true (by omega)] at KI
          go_wp2_with fail
          refine KI.mono ?_
          rintro e w' ⟨rfl, rfl⟩
          have ht : Int.tmod (x : Int) 2 = (x : Int) % 2 := Int.tmod_eq_emod_of_nonneg (by omega)
          clear KI
          go_wp2
          go_roundw
          case rel => exact ⟨k + 1, by omega, by go_num, by rw [HOS.out]; first | rfl | go_num, by first | rfl | trivial⟩
          case measure => simp [intOf]; omega
        · obtain rfl : k = a := by omega
          have KS := sum_ok (.slice ad k cd) k (degI k ls) wr rd2 hDl (by omega) (fun x hx => by have := HIN.out x hx; omega)
          have hoa := oddS_all (degN k ls)
          rw [hNl, HNS.out] at hoa
          have hso : oddS (degN k ls) k % 2 = 0 := by omega
          have hsi : ((oddS (degN k ls) k : Nat) : Int) % 2 = 0 := by omega
          have hsum : (degI k ls).sum = 2 * ((pairsN (rN ls) k : Nat) : Int) := by rw [HDN.out, sum_cast, HNS.out]; omega
          rw [hsum] at KS
          generalize oddS (degN k ls) k = z at *
          generalize pairsN (rN ls) k = p at *
          clear hoa hso hsum
          have hkk : ((k : Int) == (k : Int)) = true := by simp
          have ht : Int.tmod (z : Int) 2 = (z : Int) % 2 := Int.tmod_eq_emod_of_nonneg (by omega)
          have wp2 : IntKind.i64.wrap (2 * (p : Int)) = 2 * (p : Int) := IntWalk.i64_in _ (by omega)
          go_wp2_with fail
          refine KS.mono ?_
          rintro e w' ⟨rfl, rfl⟩
          go_wp2
          go_ret
          exact ⟨by simp, hB02⟩

theorem degreeHands_any (n : Int) {v : Value} {ls : List Ln} {w : World} (hr : LinesRd w v ls) :
    Calls Try.prog 3 #[.int .i64 n, v] w fun e w' => e = .returned (.bool true) ∧ Below w.heap.size w w' := by
  by_cases hc : chk n ls = 0
  · obtain ⟨m, rfl, hg⟩ := good_of hc
    exact degreeHands_ok m hr hg hc
  · exact degreeHands_bad n hr hc
end Go.Proofs.Ytmkdkjdbmnocoaa
