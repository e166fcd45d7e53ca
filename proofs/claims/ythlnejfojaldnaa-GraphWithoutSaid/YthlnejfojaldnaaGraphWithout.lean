/- GraphWithout returns true for every input: the walk. Conditions: none. -/
import Derived.Test.YthlnejfojaldnaaGraphFact
import Derived.Test.YthlnejfojaldnaaWithout
namespace Go.Proofs.Ythlnejfojaldnaa
namespace Gr
theorem keeps_iff {i : Int} {l : Ln} : keeps i l = true ↔ l.1 ≠ i ∧ l.2 ≠ i := by simp [keeps]
theorem withoutL_cons (i : Int) (l : Ln) (r : List Ln) : withoutL i (l :: r) = if keeps i l then (less i l.1, less i l.2) :: withoutL i r else withoutL i r := by
  unfold withoutL
  rw [List.filter_cons]
  split <;> rfl

theorem good_without {n : Nat} {ls : List Ln} (hg : GoodG n ls) {i : Nat} (h2 : 2 ≤ n) (hi : i < n) : GoodG (n - 1) (withoutL i ls) := by
  obtain ⟨h1, h8, h24, h⟩ := hg
  refine ⟨by omega, by omega, Nat.le_trans (withoutL_length i ls) h24, fun l hl => ?_⟩
  unfold withoutL at hl
  obtain ⟨m, hm, rfl⟩ := List.mem_map.1 hl
  obtain ⟨hm1, hm2⟩ := List.mem_filter.1 hm
  obtain ⟨k1, k2⟩ := keeps_iff.1 hm2
  have hh := h m hm1
  simp only [less]
  split <;> split <;> omega

theorem less_swap {i j p : Int} (hij : i < j) (h1 : p ≠ i) (h2 : p ≠ j) : less (j - 1) (less i p) = less i (less j p) := by
  simp only [less]
  split <;> split <;> split <;> (try split) <;> omega
theorem less_ne1 {i j p : Int} (hij : i < j) (h1 : p ≠ i) : less i p ≠ j - 1 ↔ p ≠ j := by
  simp only [less]
  split <;> omega
theorem less_ne2 {i j p : Int} (hij : i < j) (h1 : p ≠ j) : less j p ≠ i ↔ p ≠ i := by
  simp only [less]
  split <;> omega

theorem without_swap {i j : Int} (hij : i < j) (ls : List Ln) : withoutL (j - 1) (withoutL i ls) = withoutL i (withoutL j ls) := by
  induction ls with
  | nil => rfl
  | cons l r ih =>
    rw [withoutL_cons i l r, withoutL_cons j l r]
    by_cases hi : keeps i l = true
    · by_cases hj : keeps j l = true
      · obtain ⟨a1, a2⟩ := keeps_iff.1 hi
        obtain ⟨b1, b2⟩ := keeps_iff.1 hj
        rw [if_pos hi, if_pos hj, withoutL_cons, withoutL_cons, if_pos (keeps_iff.2 ⟨(less_ne1 hij a1).2 b1, (less_ne1 hij a2).2 b2⟩), if_pos (keeps_iff.2 ⟨(less_ne2 hij b1).2 a1, (less_ne2 hij b2).2 a2⟩), ih]
        simp only [less_swap hij a1 b1, less_swap hij a2 b2]
      · obtain ⟨a1, a2⟩ := keeps_iff.1 hi
        rw [if_pos hi, if_neg hj, withoutL_cons, if_neg (fun h => hj (keeps_iff.2 ⟨(less_ne1 hij a1).1 (keeps_iff.1 h).1, (less_ne1 hij a2).1 (keeps_iff.1 h).2⟩)), ih]
    · by_cases hj : keeps j l = true
      · obtain ⟨b1, b2⟩ := keeps_iff.1 hj
        rw [if_neg hi, if_pos hj, withoutL_cons i, if_neg (fun h => hi (keeps_iff.2 ⟨(less_ne2 hij b1).1 (keeps_iff.1 h).1, (less_ne2 hij b2).1 (keeps_iff.1 h).2⟩)), ih]
      · rw [if_neg hi, if_neg hj, ih]
end Gr
open Go.RowKit Gr

set_option maxRecDepth 100000 in
set_option maxHeartbeats 4000000 in
theorem graphWithout_any (n : Int) {v : Value} {ls : List Ln} {w : World} (hr : LinesRd w v ls) (i j : Int) :
    Calls Try.prog 7 #[.int .i64 n, v, .int .i64 i, .int .i64 j] w fun e w' => e = .returned (.bool true) ∧ Below w.heap.size w w' := by
  by_cases hc : chk n ls = 0
  · obtain ⟨m, rfl, hg⟩ := good_of hc
    have HG := Lib.hid hg
    have hm8 := hg.2.1
    have hm1 := hg.1
    have w1' : IntKind.i64.wrap ((m : Int) - 1) = (m : Int) - 1 := IntWalk.i64_in _ (by omega)
    clear hc hg
    by_cases hi : m = 1 ∨ ¬ (0 ≤ i ∧ i ≤ (m : Int) - 1)
    · go_enter Try.func7, Try.ntmps7
      go_wp2_with fail
      refine (graphFact_any _).mono ?_
      rintro e w1 ⟨rfl, hB1⟩
      go_wp2_with fail
      refine (without_out m _ ls i _ (hr.later hB1) HG.out hi).mono ?_
      rintro e w2 ⟨rfl, hB2⟩
      go_wp2
      go_ret
      exact ⟨rfl, below_c hB1 hB2⟩
    · have hm : m ≠ 1 := fun e => hi (.inl e)
      have hin : 0 ≤ i ∧ i ≤ (m : Int) - 1 := Decidable.not_not.1 fun h => hi (.inr h)
      obtain ⟨i, rfl⟩ := Int.eq_ofNat_of_zero_le hin.1
      have him : i < m := by omega
      have HL : Hid ((withoutL i ls).length ≤ ls.length) := withoutL_length i ls
      have hle : ((withoutL i ls).length : Int) ≤ (ls.length : Int) := by have := HL.out; omega
      have hsl : ∃ a c, v = .slice a ls.length c ∧ c ≤ maxLen ∧ ls.length ≤ c := by obtain ⟨a, c, h1, h2, h3, _⟩ := hr; exact ⟨a, c, h1, h3, h2⟩
      obtain ⟨av, cv, rfl, hcv, hlc⟩ := hsl
      unfold maxLen at hcv
      clear hi hin HL
      go_enter Try.func7, Try.ntmps7
      go_wp2_with fail
      refine (graphFact_any _).mono ?_
      rintro e w1 ⟨rfl, hB1⟩
      go_wp2_with fail
      refine (without_ok m _ ls i _ (hr.later hB1) HG.out hm him).mono ?_
      rintro e w2 ⟨u, rfl, ho, hB2⟩
      have hB12 := below_c hB1 hB2
      obtain ⟨au, cu, rfl⟩ := owns_slice ho
      have ra := rd_of_owns ho
      by_cases hj : 0 ≤ j ∧ j ≤ (m : Int) - 1
      · have HJ := Lib.hid (decide_eq_true hj)
        by_cases hji : j ≤ (i : Int)
        · have hjb := hji
          go_wp2_with fail
          refine (in_any _ _ _ _).mono ?_
          rintro e w3 ⟨rfl, rfl⟩
          first | rw [HJ.out] | (rw [w1', HJ.out])
          go_wp2
          go_ret
          exact ⟨rfl, hB12⟩
        · have hij : (i : Int) < j := by omega
          have hm3 : 3 ≤ m ∨ m < 3 := by omega
          rcases hm3 with hm3 | hm3
          · obtain ⟨j, rfl⟩ := Int.eq_ofNat_of_zero_le hj.1
            have hjm : j < m := by omega
            have hm3' : (3 : Int) ≤ (m : Int) := by omega
            have e1 : IntKind.i64.wrap ((j : Int) - 1) = ((j - 1 : Nat) : Int) := by rw [IntWalk.i64_in _ (by omega)]; omega
            have e1' : ((j : Int) - 1) = ((j - 1 : Nat) : Int) := by omega
            have e2' : ((m : Int) - 1) = ((m - 1 : Nat) : Int) := by omega
            have HJ2 : Hid (decide (0 ≤ (j : Int) ∧ (j : Int) ≤ ((m - 1 : Nat) : Int)) = true) := by show _ = _; exact decide_eq_true (by omega)
            have HGi := Lib.hid (good_without HG.out (by omega : 2 ≤ m) him)
            have HGj := Lib.hid (good_without HG.out (by omega : 2 ≤ m) hjm)
            have HSw : Hid (withoutL ((j - 1 : Nat) : Int) (withoutL (i : Int) ls) = withoutL (i : Int) (withoutL (j : Int) ls)) := by
              show _ = _; rw [← e1']; exact without_swap hij ls
            clear hj hji
            go_wp2_with fail
            refine (in_any _ _ _ _).mono ?_
            rintro e w3 ⟨rfl, rfl⟩
            first | rw [HJ2.out] | rw [HJ.out] | (rw [w1', HJ.out])
            go_wp2_with fail
            try rw [e1', e2']
            refine (without_ok (m - 1) _ (withoutL i ls) (j - 1) _ ra HGi.out (by omega) (by omega)).mono ?_
            rintro e w4 ⟨ub, rfl, hob, hB4⟩
            have hB14 := below_c hB12 hB4
            have rb := rd_of_owns hob
            go_wp2_with fail
            refine (without_ok m _ ls j _ (hr.later hB14) HG.out hm hjm).mono ?_
            rintro e w5 ⟨uc, rfl, hoc, hB5⟩
            have hB15 := below_c hB14 hB5
            have rc := rd_of_owns hoc
            go_wp2_with fail
            try rw [e2']
            refine (without_ok (m - 1) _ (withoutL j ls) i _ rc HGj.out (by omega) (by omega)).mono ?_
            rintro e w6 ⟨ud, rfl, hod, hB6⟩
            have hB16 := below_c hB15 hB6
            have rd := rd_of_owns hod
            have rb6 := (rb.later hB5).later hB6
            rw [HSw.out] at rb6
            clear hob hoc hod rb rc hB4 hB5 hB6 hB14 hB15
            go_wp2_with fail
            refine (lines_b _ _ _ _ _ rb6 rd).mono ?_
            rintro e w7 ⟨rfl, hB7⟩
            rw [decide_eq_true rfl]
            go_wp2
            go_ret
            exact ⟨rfl, below_c hB16 hB7⟩
          · have hm3' : (m : Int) < 3 := by omega
            go_wp2_with fail
            refine (in_any _ _ _ _).mono ?_
            rintro e w3 ⟨rfl, rfl⟩
            first | rw [HJ.out] | (rw [w1', HJ.out])
            go_wp2
            go_ret
            exact ⟨rfl, hB12⟩
      · have HJ := Lib.hid (decide_eq_false hj)
        clear hj
        go_wp2_with fail
        refine (in_any _ _ _ _).mono ?_
        rintro e w3 ⟨rfl, rfl⟩
        first | rw [HJ.out] | (rw [w1', HJ.out])
        go_wp2
        go_ret
        exact ⟨rfl, hB12⟩
  · go_enter Try.func7, Try.ntmps7
    go_wp2_with fail
    refine (graphFact_any _).mono ?_
    rintro e w1 ⟨rfl, hB1⟩
    go_wp2_with fail
    refine (without_bad n _ ls i _ (hr.later hB1) hc).mono ?_
    rintro e w2 ⟨rfl, hB2⟩
    go_wp2
    go_ret
    exact ⟨rfl, below_c hB1 hB2⟩

end Go.Proofs.Ythlnejfojaldnaa
