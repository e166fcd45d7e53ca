/- TopWays returns true for every input: the walk. Conditions: none. -/
import Derived.Test.YtjeafgnaoncphaaWaysQ
import Derived.Test.YtjeafgnaoncphaaWays
import Derived.Test.YtjeafgnaoncphaaTreeCheck
import Derived.Test.YtjeafgnaoncphaaParts
import Derived.Test.YtjeafgnaoncphaaBesideR
import Derived.Test.YtjeafgnaoncphaaQuietB
namespace Go.Proofs.Ytjeafgnaoncphaa
open Go.RowKit Gr

set_option maxHeartbeats 400000 in
theorem topIn_any (n lo hi : Int) (w : World) :
    Calls Try.prog 21 #[.int .i64 n, .int .i64 lo, .int .i64 hi] w fun e w' => e = .returned (.bool (decide (lo ≤ n ∧ n ≤ hi))) ∧ w = w' := by
  by_cases h1 : lo ≤ n
  · by_cases h2 : n ≤ hi
    · go_enter Try.func21, Try.ntmps21
      go_wp2
      go_ret
      exact ⟨by simp; omega, rfl⟩
    · go_enter Try.func21, Try.ntmps21
      go_wp2
      go_ret
      exact ⟨by simp; omega, rfl⟩
  · go_enter Try.func21, Try.ntmps21
    go_wp2
    go_ret
    exact ⟨by simp; omega, rfl⟩

theorem tw_good : GoodG 2 [(0, 1)] := by
  refine ⟨by decide, by decide, by decide, fun l hl => ?_⟩
  simp only [List.mem_cons, List.not_mem_nil, or_false] at hl
  rcases hl with rfl; decide
theorem tw_one {k : Nat} (h1 : ∀ T : Nat → Bool, T 1 = true → T 0 = false → k ≤ cutL [(0, 1)] T) (h2 : ∃ T : Nat → Bool, T 1 = true ∧ T 0 = false ∧ k = cutL [(0, 1)] T) : k = 1 := by
  have a1 := h1 (fun x => decide (x = 1)) rfl rfl
  have a2 : cutL [(0, 1)] (fun x => decide (x = 1)) = 1 := by decide
  obtain ⟨T, t1, t2, rfl⟩ := h2
  have : cutL [(0, 1)] T = 1 := by
    unfold cutL
    simp [t1, t2]
  omega

set_option maxRecDepth 100000 in
set_option maxHeartbeats 1000000 in
theorem ways_lit (v : Value) (w : World) (hr : LinesRd w v [(0, 1)]) : Calls Try.prog 19 #[.int .i64 2, v, .int .i64 1, .int .i64 0] w fun e w' => e = .returned (.tuple #[.int .i64 1, .nilIface]) ∧ Below w.heap.size w w' := by
  refine (ways_ok 2 v [(0, 1)] 1 0 w hr tw_good (by omega) (by omega) (by omega)).mono ?_
  rintro e w' ⟨k, rfl, h1, h2, hB⟩
  rw [tw_one h1 h2]
  exact ⟨rfl, hB⟩

set_option maxRecDepth 100000 in
set_option maxHeartbeats 1000000 in
theorem topWays_bad (n : Int) {v : Value} {ls : List Ln} {w : World} (hr : LinesRd w v ls) (a b : Int) (hc : ¬ (chk n ls = 0 ∧ ((0 ≤ a ∧ a ≤ n - 1) ∧ 0 ≤ b ∧ b ≤ n - 1) ∧ a ≠ b)) :
    Calls Try.prog 7 #[.int .i64 n, v, .int .i64 a, .int .i64 b] w fun e w' => e = .returned (.bool true) ∧ Below w.heap.size w w' := by
  have KW := fun w hr => ways_bad n v ls a b w hr hc
  clear hc
  go_enter Try.func7, Try.ntmps7
  go_wp2_with fail
  refine (KW _ hr).mono ?_
  rintro e w1 ⟨q, _, rfl, hB1⟩
  go_wp2_with fail
  refine (ways_lit _ _ (lines_lit [(0, 1)] rfl rfl rfl (by decide))).mono ?_
  rintro e w2 ⟨rfl, hB2⟩
  have hB := below_c hB1 (below_c (below_alloc' _ _) hB2)
  go_wp2
  go_ret
  exact ⟨rfl, hB⟩

theorem tree_yes (n : Nat) (v : Value) (ls : List Ln) (w : World) (hr : LinesRd w v ls) (hg : GoodG n ls) (hT : IsTreeG n ls) :
    Calls Try.prog 22 #[.int .i64 n, v] w fun e w' => e = .returned .nilIface ∧ Below w.heap.size w w' := by
  refine (treeCheck_ok n v ls w hr hg).mono ?_
  rintro e w' ⟨⟨_, rfl⟩ | ⟨h, _⟩, hB⟩
  · exact ⟨rfl, hB⟩
  · exact absurd hT h
theorem tree_not (n : Nat) (v : Value) (ls : List Ln) (w : World) (hr : LinesRd w v ls) (hg : GoodG n ls) (hT : ¬ IsTreeG n ls) :
    Calls Try.prog 22 #[.int .i64 n, v] w fun e w' => e = .returned (errV 7) ∧ Below w.heap.size w w' := by
  refine (treeCheck_ok n v ls w hr hg).mono ?_
  rintro e w' ⟨⟨h, _⟩ | ⟨_, rfl⟩, hB⟩
  · exact absurd h hT
  · exact ⟨rfl, hB⟩

-- the region that asks for the parts, the bridges and the tree

set_option maxRecDepth 100000 in
set_option maxHeartbeats 4000000 in
theorem topWays_ok (n : Nat) {v : Value} {ls : List Ln} {w : World} (hr : LinesRd w v ls) (a b : Nat) (hg : GoodG n ls) (ha : a < n) (hb : b < n) (hab : a ≠ b) :
    Calls Try.prog 7 #[.int .i64 (n : Int), v, .int .i64 (a : Int), .int .i64 (b : Int)] w fun e w' => e = .returned (.bool true) ∧ Below w.heap.size w w' := by
  have KW := fun w hr => ways_ok n v ls a b w hr hg ha hb hab
  have KB := fun w hr => bridges_ok n v ls w hr hg
  have KP := fun w hr => parts_ok n v ls w hr hg
  have KE := fun w hr => ends_ok n v ls w hr hg
  have KI1 := fun w => topIn_any (a : Int) 0 ((n : Int) - 1) w
  have KI2 := fun w => topIn_any (b : Int) 0 ((n : Int) - 1) w
  rw [decide_eq_true (by omega)] at KI1 KI2
  have KTy := fun w hr hT => tree_yes n v ls w hr hg hT
  have KTn := fun w hr hT => tree_not n v ls w hr hg hT
  have KN := fun u w hr => refBeside_any u (bridgesL n ls) (a : Int) (b : Int) w hr
  have HLAW : Hid (∀ k : Nat, (∀ T : Nat → Bool, T a = true → T b = false → k ≤ cutL ls T) → (∃ T : Nat → Bool, T a = true ∧ T b = false ∧ k = cutL ls T) → ∀ p, IsParts (beside n ls) n p →
    (1 ≤ k ↔ at1 p a = at1 p b) ∧ (near (bridgesL n ls) a b = true → k = 1) ∧ (IsTreeG n ls → k = 1) ∧ (endsUp ls n = [] → k % 2 = 0)) := fun k h1 h2 p hp => ways_law hg ha hb hab h1 h2 hp
  have hn1 := hg.1
  have hn8 := hg.2.1
  have wn1 : IntKind.i64.wrap ((n : Int) - 1) = (n : Int) - 1 := IntWalk.i64_in _ (by omega)
  have hnn : ((n : Int) != (n : Int)) = false := by simp
  generalize hBR : bridgesL n ls = BR at *
  clear hg hab
  go_enter Try.func7, Try.ntmps7
  go_wp2_with fail
  refine (KW _ hr).mono ?_
  rintro e w1 ⟨k, rfl, h1, h2, hB1⟩
  have HL2 := Lib.hid (HLAW.out k h1 h2)
  clear h1 h2 HLAW KW
  go_wp2_with fail
  refine (ways_lit _ _ (lines_lit [(0, 1)] rfl rfl rfl (by decide))).mono ?_
  rintro e w2 ⟨rfl, hB2⟩
  have hB02 := below_c hB1 (below_c (below_alloc' _ _) hB2)
  clear hB1 hB2
  go_wp2_with fail
  refine (KB _ (hr.later hB02)).mono ?_
  rintro e w3 ⟨am, cm, rfl, om, hB3⟩
  have rm3 : LinesRd w3 (.slice am BR.length cm) BR := rd_of_owns om
  have hB03 := below_c hB02 hB3
  clear om KB
  go_wp2_with fail
  refine (KP _ (hr.later hB03)).mono ?_
  rintro e w4 ⟨p, ap, cp, rfl, hp, rp, hB4⟩
  have hB04 := below_c hB03 hB4
  have HL3 := Lib.hid (HL2.out p hp)
  have hlp := hp.len
  clear HL2 hp KP
  go_wp2_with fail
  refine (KE _ (hr.later hB04)).mono ?_
  rintro e w5 ⟨ae, ce, rfl, oe, hB5⟩
  have hB05 := below_c hB04 hB5
  have rp5 := rp.later hB5
  have rm := (rm3.later hB4).later hB5
  have hr6 := hr.later hB05
  obtain ⟨bp, op, dp, e, hbp, hcp⟩ := rd_at rp5 hlp hn1
  cases e
  have ca := hcp a ha
  have cb := hcp b hb
  have hel : ((endsUp ls n).map fun (i : Nat) => (i : Int)).length = (endsUp ls n).length := by simp
  have HEV : Hid ((endsUp ls n).length = 0 → k % 2 = 0) := fun h => HL3.out.2.2.2 (List.length_eq_zero_iff.1 h)
  generalize ((endsUp ls n).map fun (i : Nat) => (i : Int)).length = ne' at *
  rw [← hel] at HEV
  clear hel
  have HCa : ∀ x : WIn (Below w5.heap.size w5), x.w.cell? ⟨bp, op + a, none⟩ = some (.int .i64 (at1 p a)) := fun x => (x.h.cell (p := ⟨bp, op + a, none⟩) hbp).trans ca
  have HCb : ∀ x : WIn (Below w5.heap.size w5), x.w.cell? ⟨bp, op + b, none⟩ = some (.int .i64 (at1 p b)) := fun x => (x.h.cell (p := ⟨bp, op + b, none⟩) hbp).trans cb
  have hai : (a : Int) < (n : Int) := by omega
  have hbi : (b : Int) < (n : Int) := by omega
  have HKB : Hid (near BR (a : Int) (b : Int) = true → k = 1) := HL3.out.2.1
  have HKT : Hid (IsTreeG n ls → k = 1) := HL3.out.2.2.1
  have hst : (at1 p a == at1 p b) = decide (1 ≤ k) := by
    rw [Bool.eq_iff_iff, decide_eq_true_iff, HL3.out.1]
    simp
  generalize at1 p a = s at *
  generalize at1 p b = t at *
  clear HL3 rp rp5 hcp hlp rm3 oe hB3 hB4 hB5
  go_wp2_with fail
  refine (KI1 _).mono ?_
  rintro e w' ⟨rfl, rfl⟩
  go_wp2_with fail
  refine (KI2 _).mono ?_
  rintro e w' ⟨rfl, rfl⟩
  rcases Nat.eq_zero_or_pos k with hk0 | hk0
  · rw [decide_eq_false (by omega)] at hst
    have hk1 : ¬ 0 < (k : Int) := by omega
    have hgt : decide ((k : Int) > 0) = false := by simp; omega
    have hgt3 : decide (0 < k) = false := by simp; omega
    have hT : ¬ IsTreeG n ls := fun h => by have := HKT.out h; omega
    have KT := fun w hr => KTn w hr hT
    have hnb : near BR (a : Int) (b : Int) = false := by
      cases h : near BR (a : Int) (b : Int) with
      | false => rfl
      | true => have := HKB.out h; omega
    clear hk0
    rw [hnb] at KN
    have KN1 : ∀ x : WIn (Below w5.heap.size w5), Calls _ _ _ x.w fun e w' => _ ∧ ∃ y : WIn (Below w5.heap.size w5), w' = y.w := fun x => (KN _ _ (rm.later x.h)).mono fun e w' ⟨he, hw⟩ => ⟨he, x, hw.symm⟩
    have KT1 : ∀ x : WIn (Below w5.heap.size w5), Calls _ _ _ x.w fun e w' => _ ∧ ∃ y : WIn (Below w5.heap.size w5), w' = y.w := fun x => (KT _ (hr6.later x.h)).mono fun e w' ⟨he, hB⟩ => ⟨he, ⟨_, below_c x.h hB⟩, rfl⟩
    clear KN KT
    have hN : Nonempty (WIn (Below w5.heap.size w5)) := ⟨⟨w5, Below.refl _ _⟩⟩
    go_wp2_with fail
    refine wp_region_kept (Below w5.heap.size w5) (by kernel_rfl) (by kernel_rfl) ((Below.refl _ _).drew) ?_
    repeat (go_big_quiet_step (first | (go_at_call 17; exact KN1 _) | (go_at_call 22; exact KT1 _)))
    refine wpQuiet_nil ?_
    rintro _ ⟨⟨w6, hB6⟩, rfl⟩
    have hB06 := below_c hB05 hB6
    by_cases hne : ne' = 0
    · have hk2 := HEV.out hne
      have hm : ((k : Int) % 2 == 0) = true := by rw [beq_iff_eq]; omega
      clear hk2
      subst hne
      go_wp2
      go_ret
      exact ⟨rfl, hB06⟩
    · have hq1 : decide ((ne' : Int) > 0) = true := by simp; omega
      have hq2 : 0 < (ne' : Int) := by omega
      go_wp2
      go_ret
      exact ⟨rfl, hB06⟩
  · rw [decide_eq_true (by omega)] at hst
    have hk1 : 0 < (k : Int) := by omega
    have hgt : decide ((k : Int) > 0) = true := by simp; omega
    have hgt3 : decide (0 < k) = true := by simp; omega
    by_cases hT : IsTreeG n ls
    · have KT := fun w hr => KTy w hr hT
      have hk2 := HKT.out hT
      have hkn : ((k : Int) != 1) = false := by simp; omega
      clear hk2
      cases hnb : near BR (a : Int) (b : Int) with
      | true =>
        rw [hnb] at KN
        have KN1 : ∀ x : WIn (Below w5.heap.size w5), Calls _ _ _ x.w fun e w' => _ ∧ ∃ y : WIn (Below w5.heap.size w5), w' = y.w := fun x => (KN _ _ (rm.later x.h)).mono fun e w' ⟨he, hw⟩ => ⟨he, x, hw.symm⟩
        have KT1 : ∀ x : WIn (Below w5.heap.size w5), Calls _ _ _ x.w fun e w' => _ ∧ ∃ y : WIn (Below w5.heap.size w5), w' = y.w := fun x => (KT _ (hr6.later x.h)).mono fun e w' ⟨he, hB⟩ => ⟨he, ⟨_, below_c x.h hB⟩, rfl⟩
        clear KN KT
        have hN : Nonempty (WIn (Below w5.heap.size w5)) := ⟨⟨w5, Below.refl _ _⟩⟩
        go_wp2_with fail
        refine wp_region_kept (Below w5.heap.size w5) (by kernel_rfl) (by kernel_rfl) ((Below.refl _ _).drew) ?_
        repeat (go_big_quiet_step (first | (go_at_call 17; exact KN1 _) | (go_at_call 22; exact KT1 _)))
        refine wpQuiet_nil ?_
        rintro _ ⟨⟨w6, hB6⟩, rfl⟩
        have hB06 := below_c hB05 hB6
        by_cases hne : ne' = 0
        · have hk2 := HEV.out hne
          have hm : ((k : Int) % 2 == 0) = true := by rw [beq_iff_eq]; omega
          clear hk2
          subst hne
          go_wp2
          go_ret
          exact ⟨rfl, hB06⟩
        · have hq1 : decide ((ne' : Int) > 0) = true := by simp; omega
          have hq2 : 0 < (ne' : Int) := by omega
          go_wp2
          go_ret
          exact ⟨rfl, hB06⟩
      | false =>
        rw [hnb] at KN
        have KN1 : ∀ x : WIn (Below w5.heap.size w5), Calls _ _ _ x.w fun e w' => _ ∧ ∃ y : WIn (Below w5.heap.size w5), w' = y.w := fun x => (KN _ _ (rm.later x.h)).mono fun e w' ⟨he, hw⟩ => ⟨he, x, hw.symm⟩
        have KT1 : ∀ x : WIn (Below w5.heap.size w5), Calls _ _ _ x.w fun e w' => _ ∧ ∃ y : WIn (Below w5.heap.size w5), w' = y.w := fun x => (KT _ (hr6.later x.h)).mono fun e w' ⟨he, hB⟩ => ⟨he, ⟨_, below_c x.h hB⟩, rfl⟩
        clear KN KT
        have hN : Nonempty (WIn (Below w5.heap.size w5)) := ⟨⟨w5, Below.refl _ _⟩⟩
        go_wp2_with fail
        refine wp_region_kept (Below w5.heap.size w5) (by kernel_rfl) (by kernel_rfl) ((Below.refl _ _).drew) ?_
        repeat (go_big_quiet_step (first | (go_at_call 17; exact KN1 _) | (go_at_call 22; exact KT1 _)))
        refine wpQuiet_nil ?_
        rintro _ ⟨⟨w6, hB6⟩, rfl⟩
        have hB06 := below_c hB05 hB6
        by_cases hne : ne' = 0
        · have hk2 := HEV.out hne
          have hm : ((k : Int) % 2 == 0) = true := by rw [beq_iff_eq]; omega
          clear hk2
          subst hne
          go_wp2
          go_ret
          exact ⟨rfl, hB06⟩
        · have hq1 : decide ((ne' : Int) > 0) = true := by simp; omega
          have hq2 : 0 < (ne' : Int) := by omega
          go_wp2
          go_ret
          exact ⟨rfl, hB06⟩
    · have KT := fun w hr => KTn w hr hT
      cases hnb : near BR (a : Int) (b : Int) with
      | true =>
        rw [hnb] at KN
        have hk2 := HKB.out hnb
        have hkn : ((k : Int) != 1) = false := by simp; omega
        clear hk2
        have KN1 : ∀ x : WIn (Below w5.heap.size w5), Calls _ _ _ x.w fun e w' => _ ∧ ∃ y : WIn (Below w5.heap.size w5), w' = y.w := fun x => (KN _ _ (rm.later x.h)).mono fun e w' ⟨he, hw⟩ => ⟨he, x, hw.symm⟩
        have KT1 : ∀ x : WIn (Below w5.heap.size w5), Calls _ _ _ x.w fun e w' => _ ∧ ∃ y : WIn (Below w5.heap.size w5), w' = y.w := fun x => (KT _ (hr6.later x.h)).mono fun e w' ⟨he, hB⟩ => ⟨he, ⟨_, below_c x.h hB⟩, rfl⟩
        clear KN KT
        have hN : Nonempty (WIn (Below w5.heap.size w5)) := ⟨⟨w5, Below.refl _ _⟩⟩
        go_wp2_with fail
        refine wp_region_kept (Below w5.heap.size w5) (by kernel_rfl) (by kernel_rfl) ((Below.refl _ _).drew) ?_
        repeat (go_big_quiet_step (first | (go_at_call 17; exact KN1 _) | (go_at_call 22; exact KT1 _)))
        refine wpQuiet_nil ?_
        rintro _ ⟨⟨w6, hB6⟩, rfl⟩
        have hB06 := below_c hB05 hB6
        by_cases hne : ne' = 0
        · have hk2 := HEV.out hne
          have hm : ((k : Int) % 2 == 0) = true := by rw [beq_iff_eq]; omega
          clear hk2
          subst hne
          go_wp2
          go_ret
          exact ⟨rfl, hB06⟩
        · have hq1 : decide ((ne' : Int) > 0) = true := by simp; omega
          have hq2 : 0 < (ne' : Int) := by omega
          go_wp2
          go_ret
          exact ⟨rfl, hB06⟩
      | false =>
        rw [hnb] at KN
        have KN1 : ∀ x : WIn (Below w5.heap.size w5), Calls _ _ _ x.w fun e w' => _ ∧ ∃ y : WIn (Below w5.heap.size w5), w' = y.w := fun x => (KN _ _ (rm.later x.h)).mono fun e w' ⟨he, hw⟩ => ⟨he, x, hw.symm⟩
        have KT1 : ∀ x : WIn (Below w5.heap.size w5), Calls _ _ _ x.w fun e w' => _ ∧ ∃ y : WIn (Below w5.heap.size w5), w' = y.w := fun x => (KT _ (hr6.later x.h)).mono fun e w' ⟨he, hB⟩ => ⟨he, ⟨_, below_c x.h hB⟩, rfl⟩
        clear KN KT
        have hN : Nonempty (WIn (Below w5.heap.size w5)) := ⟨⟨w5, Below.refl _ _⟩⟩
        go_wp2_with fail
        refine wp_region_kept (Below w5.heap.size w5) (by kernel_rfl) (by kernel_rfl) ((Below.refl _ _).drew) ?_
        repeat (go_big_quiet_step (first | (go_at_call 17; exact KN1 _) | (go_at_call 22; exact KT1 _)))
        refine wpQuiet_nil ?_
        rintro _ ⟨⟨w6, hB6⟩, rfl⟩
        have hB06 := below_c hB05 hB6
        by_cases hne : ne' = 0
        · have hk2 := HEV.out hne
          have hm : ((k : Int) % 2 == 0) = true := by rw [beq_iff_eq]; omega
          clear hk2
          subst hne
          go_wp2
          go_ret
          exact ⟨rfl, hB06⟩
        · have hq1 : decide ((ne' : Int) > 0) = true := by simp; omega
          have hq2 : 0 < (ne' : Int) := by omega
          go_wp2
          go_ret
          exact ⟨rfl, hB06⟩

theorem topWays_any (n : Int) {v : Value} {ls : List Ln} {w : World} (hr : LinesRd w v ls) (a b : Int) :
    Calls Try.prog 7 #[.int .i64 n, v, .int .i64 a, .int .i64 b] w fun e w' => e = .returned (.bool true) ∧ Below w.heap.size w w' := by
  by_cases hc : chk n ls = 0 ∧ ((0 ≤ a ∧ a ≤ n - 1) ∧ 0 ≤ b ∧ b ≤ n - 1) ∧ a ≠ b
  · obtain ⟨m, rfl, hg⟩ := good_of hc.1
    obtain ⟨x, rfl⟩ : ∃ x : Nat, a = (x : Int) := ⟨a.toNat, by omega⟩
    obtain ⟨y, rfl⟩ : ∃ y : Nat, b = (y : Int) := ⟨b.toNat, by omega⟩
    exact topWays_ok m hr x y hg (by omega) (by omega) (fun e => hc.2.2 (by rw [e]))
  · exact topWays_bad n hr a b hc
end Go.Proofs.Ytjeafgnaoncphaa
