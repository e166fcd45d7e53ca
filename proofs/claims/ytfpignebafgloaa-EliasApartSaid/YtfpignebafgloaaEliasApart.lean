/- EliasApart returns true for every input: the walk. Conditions: none. -/
import Derived.Test.YtfpignebafgloaaEliasF
import Derived.Test.YtfpignebafgloaaEliasL
namespace Go.Proofs.Ytfpignebafgloaa
open Go.RowKit

theorem ints_take1 (xs : List Int) (k : Nat) : (ints xs).take (k * 1) = ints (xs.take k) := ints_take xs k

/-- 'len(a) <= len(b) && E.Ints(a, b[:len(a)])' is false, walked as a part -/
theorem apart_take {xs ys : List Int} (h : xs ≠ ys.take xs.length) : decide (xs = ys.take xs.length) = false := decide_eq_false h

set_option maxHeartbeats 1000000 in
theorem eliasApart_out (n m : Int) (w : World) (hne : n ≠ m) (h : ¬ (1 ≤ n ∧ n ≤ 1000000)) : Calls Try.prog 8 #[.int .i64 n, .int .i64 m] w fun e w' => e = .returned (.bool true) ∧ Below w.heap.size w w' := by
  have H := Lib.hid h
  have hb : (n == m) = false := by simp [hne]
  have hm : (1 ≤ m ∧ m ≤ 1000000) ∨ ¬ (1 ≤ m ∧ m ≤ 1000000) := Decidable.em _
  clear h hne
  rcases hm with hm | hm
  all_goals
    have HM := Lib.hid hm
    clear hm
    go_enter Try.func8, Try.ntmps8
    go_wp2_with fail
    refine (eliasFact_any _).mono ?_
    rintro e w1 ⟨rfl, hb1⟩
    go_wp2_with fail
    refine wp_loop_once ?_
    go_wp2_with fail
    refine (gammaE_no n _ H.out).mono ?_
    rintro e w2 ⟨rfl, rfl⟩
    go_wp2_with fail
  · refine (Gamma_in m _ HM.out.1 HM.out.2).mono ?_
    rintro e w3 ⟨a3, c3, rfl, _, hb3⟩
    have hB := below_c hb1 hb3
    go_wp2_with fail
    refine (in_any _ _ _ _).mono ?_
    rintro e w4 ⟨rfl, rfl⟩
    rw [decide_eq_false H.out]
    go_wp2
    go_ret
    exact ⟨rfl, hB⟩
  · refine (gammaE_no m _ HM.out).mono ?_
    rintro e w3 ⟨rfl, rfl⟩
    go_wp2_with fail
    refine (in_any _ _ _ _).mono ?_
    rintro e w4 ⟨rfl, rfl⟩
    rw [decide_eq_false H.out]
    go_wp2
    go_ret
    exact ⟨rfl, hb1⟩


set_option maxHeartbeats 1000000 in
theorem eliasApart_out2 (n m : Int) (w : World) (hne : n ≠ m) (hn : 1 ≤ n ∧ n ≤ 1000000) (h : ¬ (1 ≤ m ∧ m ≤ 1000000)) : Calls Try.prog 8 #[.int .i64 n, .int .i64 m] w fun e w' => e = .returned (.bool true) ∧ Below w.heap.size w w' := by
  have H := Lib.hid h
  have hb : (n == m) = false := by simp [hne]
  have HN := Lib.hid hn
  clear h hne hn
  go_enter Try.func8, Try.ntmps8
  go_wp2_with fail
  refine (eliasFact_any _).mono ?_
  rintro e w1 ⟨rfl, hb1⟩
  go_wp2_with fail
  refine wp_loop_once ?_
  go_wp2_with fail
  refine (Gamma_in n _ HN.out.1 HN.out.2).mono ?_
  rintro e w2 ⟨a2, c2, rfl, _, hb2⟩
  have hB2 := below_c hb1 hb2
  go_wp2_with fail
  refine (gammaE_no m _ H.out).mono ?_
  rintro e w3 ⟨rfl, rfl⟩
  go_wp2_with fail
  refine (in_any _ _ _ _).mono ?_
  rintro e w4 ⟨rfl, rfl⟩
  rw [decide_eq_true HN.out]
  go_wp2_with fail
  refine (in_any _ _ _ _).mono ?_
  rintro e w5 ⟨rfl, rfl⟩
  rw [decide_eq_false H.out]
  go_wp2
  go_ret
  exact ⟨rfl, hB2⟩

set_option maxHeartbeats 4000000 in
theorem eliasApart_in (n m : Nat) (w : World) (hne : n ≠ m) (h1 : 1 ≤ n) (h2 : n ≤ 1000000) (h3 : 1 ≤ m) (h4 : m ≤ 1000000) : Calls Try.prog 8 #[.int .i64 n, .int .i64 m] w fun e w' => e = .returned (.bool true) ∧ Below w.heap.size w w' := by
  have hb : ((n : Int) == (m : Int)) = false := by simp; omega
  have hg1 := Lib.hid (El.gamma_apart h1 h2 h3 h4 hne)
  have hg2 := Lib.hid (El.gamma_apart h3 h4 h1 h2 (Ne.symm hne))
  have hd1 := Lib.hid (El.delta_apart h1 h2 h3 h4 hne)
  have hd2 := Lib.hid (El.delta_apart h3 h4 h1 h2 (Ne.symm hne))
  clear hne
  go_enter Try.func8, Try.ntmps8
  go_wp2_with fail
  refine (eliasFact_any _).mono ?_
  rintro e w1 ⟨rfl, hb1⟩
  go_wp2_with fail
  go_loopw [6] (fun k wr => ∃ j : Nat, j ≤ 2 ∧ k = .int .i64 j ∧ Below w.heap.size w wr) (fun k _ => 2 - (intOf k).toNat)
  case atStart => exact ⟨0, by omega, rfl, hb1⟩
  case round =>
    obtain ⟨j, hj, rfl, hB1⟩ := hrel
    have hc : j = 0 ∨ j = 1 ∨ j = 2 := by omega
    clear hj hb1
    rcases hc with rfl | rfl | rfl
    · go_wp2_with fail
      refine (gammaE_yes n _ h1 h2).mono ?_
      rintro e w2 ⟨a2, c2, rfl, ho2, hb2⟩
      go_wp2_with fail
      refine (gammaE_yes m _ h3 h4).mono ?_
      rintro e w3 ⟨a3, c3, rfl, ho3, hb3⟩
      have hB := below_c (below_c hB1 hb2) hb3
      have hrx := (rd_of_owns ho2).later hb3
      have hry := rd_of_owns ho3
      clear hB1 ho2 ho3 hb2 hb3
      obtain ⟨_, hncx, hcmx⟩ := hrx.bounds
      obtain ⟨_, hncy, hcmy⟩ := hry.bounds
      unfold maxLen at hcmx hcmy
      rcases Nat.lt_trichotomy (El.gamma n).length (El.gamma m).length with hlt | heq | hgt
      · obtain ⟨a', hrun, hr'⟩ := slice_to (P := Try.prog) (B := w3.heap.size) 27 und_ints sized_ints hry (El.gamma n).length (by omega)
        rw [ints_take1] at hr'
        have HR' : Hid (Rd w3 (.slice a' (El.gamma n).length c3) ((El.gamma m).take (El.gamma n).length).length (ints ((El.gamma m).take (El.gamma n).length))) := by
          have e : ((El.gamma m).take (El.gamma n).length).length = (El.gamma n).length := by simp; omega
          show Rd _ _ _ _
          rw [e]; exact hr'
        clear hr'
        have t1 : ((El.gamma n).length : Int) ≤ ((El.gamma m).length : Int) := by omega
        have t2 : ((El.gamma n).length : Int) < ((El.gamma m).length : Int) := by omega
        go_wp2_with fail
        refine (ints_b _ _ _ _ _ hrx HR'.out).mono ?_
        rintro e w9 ⟨rfl, hb9⟩
        rw [apart_take hg1.out]
        go_wp2
        have hB9 := below_c hB hb9
        exact ⟨⟨1, by omega, rfl, hB9⟩, by simp [intOf]⟩
      · obtain ⟨a', hrun, hr'⟩ := slice_to (P := Try.prog) (B := w3.heap.size) 27 und_ints sized_ints hry (El.gamma n).length (by omega)
        rw [ints_take1] at hr'
        have HR' : Hid (Rd w3 (.slice a' (El.gamma n).length c3) ((El.gamma m).take (El.gamma n).length).length (ints ((El.gamma m).take (El.gamma n).length))) := by
          have e : ((El.gamma m).take (El.gamma n).length).length = (El.gamma n).length := by simp; omega
          show Rd _ _ _ _
          rw [e]; exact hr'
        clear hr'
        obtain ⟨a2', hrun2, hr2'⟩ := slice_to (P := Try.prog) (B := w3.heap.size) 27 und_ints sized_ints hrx (El.gamma m).length (by omega)
        rw [ints_take1] at hr2'
        have HR2' : Hid (Rd w3 (.slice a2' (El.gamma m).length c2) ((El.gamma n).take (El.gamma m).length).length (ints ((El.gamma n).take (El.gamma m).length))) := by
          have e : ((El.gamma n).take (El.gamma m).length).length = (El.gamma m).length := by simp; omega
          show Rd _ _ _ _
          rw [e]; exact hr2'
        clear hr2'
        have t1 : ((El.gamma n).length : Int) ≤ ((El.gamma m).length : Int) := by omega
        have t2 : ((El.gamma m).length : Int) ≤ ((El.gamma n).length : Int) := by omega
        clear heq
        go_wp2_with fail
        refine (ints_b _ _ _ _ _ hrx HR'.out).mono ?_
        rintro e w9 ⟨rfl, hb9⟩
        rw [apart_take hg1.out]
        go_wp2_with fail
        refine (ints_b _ _ _ _ _ (hry.later hb9) (HR2'.out.later hb9)).mono ?_
        rintro e w10 ⟨rfl, hb10⟩
        rw [apart_take hg2.out]
        go_wp2
        have hB9 := below_c (below_c hB hb9) hb10
        exact ⟨⟨1, by omega, rfl, hB9⟩, by simp [intOf]⟩
      · obtain ⟨a', hrun, hr'⟩ := slice_to (P := Try.prog) (B := w3.heap.size) 27 und_ints sized_ints hrx (El.gamma m).length (by omega)
        rw [ints_take1] at hr'
        have HR' : Hid (Rd w3 (.slice a' (El.gamma m).length c2) ((El.gamma n).take (El.gamma m).length).length (ints ((El.gamma n).take (El.gamma m).length))) := by
          have e : ((El.gamma n).take (El.gamma m).length).length = (El.gamma m).length := by simp; omega
          show Rd _ _ _ _
          rw [e]; exact hr'
        clear hr'
        have t1 : ((El.gamma m).length : Int) < ((El.gamma n).length : Int) := by omega
        have t2 : ((El.gamma m).length : Int) ≤ ((El.gamma n).length : Int) := by omega
        go_wp2_with fail
        refine (ints_b _ _ _ _ _ hry HR'.out).mono ?_
        rintro e w9 ⟨rfl, hb9⟩
        rw [apart_take hg2.out]
        go_wp2
        have hB9 := below_c hB hb9
        exact ⟨⟨1, by omega, rfl, hB9⟩, by simp [intOf]⟩
    · go_wp2_with fail
      refine (gammaE_yes n _ h1 h2).mono ?_
      rintro e w2 ⟨a2, c2, rfl, ho2, hb2⟩
      go_wp2_with fail
      refine (gammaE_yes m _ h3 h4).mono ?_
      rintro e w3 ⟨a3, c3, rfl, ho3, hb3⟩
      have hB3 := below_c (below_c hB1 hb2) hb3
      clear hB1 ho2 ho3 hb2 hb3
      go_wp2_with fail
      refine (deltaE_yes n _ h1 h2).mono ?_
      rintro e w4 ⟨a4, c4, rfl, ho4, hb4⟩
      go_wp2_with fail
      refine (deltaE_yes m _ h3 h4).mono ?_
      rintro e w5 ⟨a5, c5, rfl, ho5, hb5⟩
      have hB := below_c (below_c hB3 hb4) hb5
      have hrx := (rd_of_owns ho4).later hb5
      have hry := rd_of_owns ho5
      clear hB3 ho4 ho5 hb4 hb5
      obtain ⟨_, hncx, hcmx⟩ := hrx.bounds
      obtain ⟨_, hncy, hcmy⟩ := hry.bounds
      unfold maxLen at hcmx hcmy
      rcases Nat.lt_trichotomy (El.delta n).length (El.delta m).length with hlt | heq | hgt
      · obtain ⟨a', hrun, hr'⟩ := slice_to (P := Try.prog) (B := w5.heap.size) 27 und_ints sized_ints hry (El.delta n).length (by omega)
        rw [ints_take1] at hr'
        have HR' : Hid (Rd w5 (.slice a' (El.delta n).length c5) ((El.delta m).take (El.delta n).length).length (ints ((El.delta m).take (El.delta n).length))) := by
          have e : ((El.delta m).take (El.delta n).length).length = (El.delta n).length := by simp; omega
          show Rd _ _ _ _
          rw [e]; exact hr'
        clear hr'
        have t1 : ((El.delta n).length : Int) ≤ ((El.delta m).length : Int) := by omega
        have t2 : ((El.delta n).length : Int) < ((El.delta m).length : Int) := by omega
        go_wp2_with fail
        refine (ints_b _ _ _ _ _ hrx HR'.out).mono ?_
        rintro e w9 ⟨rfl, hb9⟩
        rw [apart_take hd1.out]
        go_wp2
        have hB9 := below_c hB hb9
        exact ⟨⟨2, by omega, rfl, hB9⟩, by simp [intOf]⟩
      · obtain ⟨a', hrun, hr'⟩ := slice_to (P := Try.prog) (B := w5.heap.size) 27 und_ints sized_ints hry (El.delta n).length (by omega)
        rw [ints_take1] at hr'
        have HR' : Hid (Rd w5 (.slice a' (El.delta n).length c5) ((El.delta m).take (El.delta n).length).length (ints ((El.delta m).take (El.delta n).length))) := by
          have e : ((El.delta m).take (El.delta n).length).length = (El.delta n).length := by simp; omega
          show Rd _ _ _ _
          rw [e]; exact hr'
        clear hr'
        obtain ⟨a2', hrun2, hr2'⟩ := slice_to (P := Try.prog) (B := w5.heap.size) 27 und_ints sized_ints hrx (El.delta m).length (by omega)
        rw [ints_take1] at hr2'
        have HR2' : Hid (Rd w5 (.slice a2' (El.delta m).length c4) ((El.delta n).take (El.delta m).length).length (ints ((El.delta n).take (El.delta m).length))) := by
          have e : ((El.delta n).take (El.delta m).length).length = (El.delta m).length := by simp; omega
          show Rd _ _ _ _
          rw [e]; exact hr2'
        clear hr2'
        have t1 : ((El.delta n).length : Int) ≤ ((El.delta m).length : Int) := by omega
        have t2 : ((El.delta m).length : Int) ≤ ((El.delta n).length : Int) := by omega
        clear heq
        go_wp2_with fail
        refine (ints_b _ _ _ _ _ hrx HR'.out).mono ?_
        rintro e w9 ⟨rfl, hb9⟩
        rw [apart_take hd1.out]
        go_wp2_with fail
        refine (ints_b _ _ _ _ _ (hry.later hb9) (HR2'.out.later hb9)).mono ?_
        rintro e w10 ⟨rfl, hb10⟩
        rw [apart_take hd2.out]
        go_wp2
        have hB9 := below_c (below_c hB hb9) hb10
        exact ⟨⟨2, by omega, rfl, hB9⟩, by simp [intOf]⟩
      · obtain ⟨a', hrun, hr'⟩ := slice_to (P := Try.prog) (B := w5.heap.size) 27 und_ints sized_ints hrx (El.delta m).length (by omega)
        rw [ints_take1] at hr'
        have HR' : Hid (Rd w5 (.slice a' (El.delta m).length c4) ((El.delta n).take (El.delta m).length).length (ints ((El.delta n).take (El.delta m).length))) := by
          have e : ((El.delta n).take (El.delta m).length).length = (El.delta m).length := by simp; omega
          show Rd _ _ _ _
          rw [e]; exact hr'
        clear hr'
        have t1 : ((El.delta m).length : Int) < ((El.delta n).length : Int) := by omega
        have t2 : ((El.delta m).length : Int) ≤ ((El.delta n).length : Int) := by omega
        go_wp2_with fail
        refine (ints_b _ _ _ _ _ hry HR'.out).mono ?_
        rintro e w9 ⟨rfl, hb9⟩
        rw [apart_take hd2.out]
        go_wp2
        have hB9 := below_c hB hb9
        exact ⟨⟨2, by omega, rfl, hB9⟩, by simp [intOf]⟩
    · go_wp2
      go_ret
      exact ⟨rfl, hB1⟩

set_option maxHeartbeats 1000000 in
theorem eliasApart_same (n m : Int) (w : World) (h : n = m) : Calls Try.prog 8 #[.int .i64 n, .int .i64 m] w fun e w' => e = .returned (.bool true) ∧ Below w.heap.size w w' := by
  subst h
  have hb : (n == n) = true := by simp
  go_enter Try.func8, Try.ntmps8
  go_wp2_with fail
  refine (eliasFact_any _).mono ?_
  rintro e w1 ⟨rfl, hb1⟩
  go_wp2
  go_ret
  exact ⟨rfl, hb1⟩

theorem eliasApart_walk (n m : Int) (w : World) : Calls Try.prog 8 #[.int .i64 n, .int .i64 m] w fun e w' => e = .returned (.bool true) ∧ Below w.heap.size w w' := by
  by_cases h : n = m
  · exact eliasApart_same n m w h
  · by_cases h1 : 1 ≤ n ∧ n ≤ 1000000
    · by_cases h2 : 1 ≤ m ∧ m ≤ 1000000
      · obtain ⟨k, rfl⟩ := Int.eq_ofNat_of_zero_le (show 0 ≤ n by omega)
        obtain ⟨j, rfl⟩ := Int.eq_ofNat_of_zero_le (show 0 ≤ m by omega)
        exact eliasApart_in k j w (by omega) (by omega) (by omega) (by omega) (by omega)
      · exact eliasApart_out2 n m w h h1 h2
    · exact eliasApart_out n m w h h1

end Go.Proofs.Ytfpignebafgloaa
