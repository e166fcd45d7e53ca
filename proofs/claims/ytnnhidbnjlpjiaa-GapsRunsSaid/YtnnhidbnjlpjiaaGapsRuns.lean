/- GapsRuns returns true for every input: the walk. Conditions: none. -/
import Derived.Test.YtnnhidbnjlpjiaaRuns
namespace Go.Proofs.Ytnnhidbnjlpjiaa
open Go.RowKit
open El (at0 gAt gapsErr GapsOk lastOf bump runsUp runsOf spread)

theorem pairs_in {w : World} {a : Option Addr} {n c : Nat} {r : List (Int × Int)} (h : Rd w (.slice a n c) n (pairsV r)) (_ : r.length = n) (hn : 0 < n) :
    ∃ b off, a = some ⟨b, off, none⟩ ∧ n ≤ c ∧ c ≤ 9223372036854775807 ∧ ∀ i p, r[i]? = some p → w.cell? ⟨b, off + i * 2, none⟩ = some (.int .i64 p.1) ∧ w.cell? ⟨b, off + i * 2 + 1, none⟩ = some (.int .i64 p.2) := by
  obtain ⟨_, _, hv, h1, h2, _, hcell⟩ := h
  cases hv
  unfold maxLen at h2
  obtain ⟨b, off, rfl, hblt, hcl⟩ := hcell hn
  refine ⟨b, off, rfl, h1, by omega, fun i p hp => ?_⟩
  obtain ⟨g1, g2⟩ := pairsV_get r i p hp
  exact ⟨hcl _ _ g1, hcl _ _ g2⟩


set_option maxRecDepth 100000 in
set_option maxHeartbeats 4000000 in
theorem gapsRuns_any {v : Value} {xs : List Int} {w : World} (hr : Rd w v xs.length (ints xs)) :
    Calls Try.prog 6 #[v] w fun e w' => e = .returned (.bool true) ∧ Below w.heap.size w w' := by
  obtain ⟨i0, hi, hz0, hz1, hz2⟩ := info_parts info_int
  by_cases ha : gapsErr xs = 0
  · have hg := El.gapsOk_of ha
    have HI := Lib.hid (El.runs_inv hg xs.length (Nat.le_refl _))
    have hl30 := hg.len
    have HG := Lib.hid hg
    clear ha hg
    obtain ⟨av, cv, rfl, hcv1, hcv2⟩ := rd_form hr
    go_enter Try.func6, Try.ntmps6
    go_wp2_with fail
    refine (gapsFact_any _).mono ?_
    rintro e w1 ⟨rfl, hB1⟩
    go_wp2_with fail
    refine (runs_ok _ xs _ (hr.later hB1) HG.out).mono ?_
    rintro e w2 ⟨u, rfl, ho2, hB2⟩
    have hB12 := below_c hB1 hB2
    have hr2 := rd_of_owns ho2
    change Hid (El.RunsI xs xs.length (runsOf xs)) at HI
    generalize runsOf xs = r at *
    have hfew := HI.out.few
    obtain ⟨ak, ck, rfl, hck1, hck2⟩ := rd_form hr2
    clear ho2 hB1 hB2
    go_wp2_with fail
    go_loopw [6, 7] (fun o i wr => ∃ k : Nat, k ≤ r.length ∧ i = .int .i64 k ∧ wr.ownsRow w2.heap.size 3 1 o ((r.take k).flatMap spread).length (ints ((r.take k).flatMap spread)) ∧ Below w2.heap.size w2 wr) (fun _ i _ => r.length - (intOf i).toNat)
    case atStart => exact ⟨0, by omega, rfl, World.ownsRow_nil _ _ _ _, Below.refl _ _⟩
    case round =>
      obtain ⟨k, hk, rfl, ho, hbr⟩ := hrel
      by_cases hlt : k < r.length
      · have hki : (k : Int) < (r.length : Int) := by omega
        have hp : r[k]? = some r[k] := by simp [hlt]
        have hcount := HI.out.count r[k] (List.getElem_mem hlt)
        have hstart := HI.out.start r[k] (List.getElem_mem hlt)
        have HT : Hid ((r.take (k + 1)).flatMap spread = (r.take k).flatMap spread ++ spread r[k]) := by
          show _ = _; rw [List.take_succ_eq_append_getElem hlt, List.flatMap_append]; simp
        have hTl : ((r.take k).flatMap spread).length ≤ 30 := by
          have h1 := HI.out.all
          rw [List.take_length] at h1
          have h2 : r.flatMap spread = (r.take k).flatMap spread ++ (r.drop k).flatMap spread := by rw [← List.flatMap_append, List.take_append_drop]
          have h3 : (r.flatMap spread).length = xs.length := by rw [h1]
          rw [h2, List.length_append] at h3
          omega
        generalize hT : (r.take k).flatMap spread = T at *
        clear hT
        obtain ⟨b, off, rfl, _, _, hcx⟩ := pairs_in (hr2.later hbr) rfl (by omega)
        obtain ⟨g1, g2⟩ := hcx k r[k] hp
        generalize hpe : r[k] = p at *
        have hc1 : decide (p.2 < 1) = false := by simp; omega
        have hc2 : decide (p.2 > (xs.length : Int)) = false := by simp; omega
        have hc2' : decide ((xs.length : Int) < p.2) = false := by simp; omega
        rcases Nat.eq_zero_or_pos k with h0 | h0
        · have hk0 : decide ((k : Int) > 0) = false := by simp; omega
          have hk1 : decide ((0 : Int) < (k : Int)) = false := by simp; omega
          have hk2 : decide (0 < k) = false := by simp; omega
          have hk3 : ¬ 0 < k := by omega
          clear hcx hpe h0
          go_wp2
          go_quiet (fail)
          go_wp2_with fail
          go_loopw [6, 8] (fun o j wr => ∃ t : Nat, (t : Int) ≤ p.2 ∧ j = .int .i64 t ∧ wr.ownsRow w2.heap.size 3 1 o (T.length + t) (ints (T ++ (List.range t).map fun (q : Nat) => p.1 + (q : Int))) ∧ Below w2.heap.size w2 wr) (fun _ j _ => p.2.toNat - (intOf j).toNat)
          case atStart => exact ⟨0, by omega, rfl, by simpa using owns_later ho (below_drewN' _ _), hbr.trans ((below_drewN' _ _).mono hbr.size)⟩
          case round =>
            obtain ⟨t, ht, rfl, ho, hbr⟩ := hrel
            have hrk := hr2.later hbr
            obtain ⟨b', off', e, hk1, hk2, hcx⟩ := pairs_in hrk rfl (by omega)
            cases e
            obtain ⟨g1, g2⟩ := hcx (k) p hp
            have hbs := hbr.size
            clear hcx
            by_cases hlt2 : (t : Int) < p.2
            · have wt : IntKind.i64.wrap (p.1 + (t : Int)) = p.1 + (t : Int) := IntWalk.i64_in _ (by omega)
              go_wp2_with (at_builtin; go_must (refine wpl_app _ _ _ (AppTo.refl ho) rfl rfl Try.underlying26 hi hz0 hz1 hz2 rfl (by decide) rfl rfl rfl (by simp [Value.oneCell']) (by decide) (by omega) hbs ?_); intro v3 w3 hA3 hne3 hst3)
              go_roundw
              case rel =>
                refine ⟨t + 1, by omega, by go_num, ?_, hbr.trans hst3⟩
                have := hA3.own
                rw [List.range_succ, List.map_append, ← List.append_assoc]
                simpa [Nat.add_assoc] using this
              case measure => simp [intOf]; omega
            · have hte : p.2.toNat = t := by omega
              go_wp2
              go_roundw
              case rel =>
                refine ⟨k + 1, by omega, by go_num, ?_, hbr⟩
                rw [HT.out]
                unfold spread
                rw [hte]
                have : (T ++ (List.range t).map fun (q : Nat) => p.1 + (q : Int)).length = T.length + t := by simp
                rw [this]; exact ho
              case measure => simp [intOf]; omega
        · obtain ⟨j, rfl⟩ : ∃ j, k = j + 1 := ⟨k - 1, by omega⟩
          have hap := HI.out.apart (j + 1) (by omega) hlt
          rw [hp] at hap
          have hpj : r[j]? = some r[j] := by simp [show j < r.length by omega]
          have hsj := HI.out.start r[j] (List.getElem_mem (by omega))
          have hcj := HI.out.count r[j] (List.getElem_mem (by omega))
          rw [Nat.add_sub_cancel, hpj] at hap
          obtain ⟨g3, g4⟩ := hcx j r[j] hpj
          generalize r[j] = p0 at *
          simp only [Option.getD_some] at hap
          have hji : (j : Int) < (r.length : Int) := by omega
          have hk0 : decide (((j + 1 : Nat) : Int) > 0) = true := decide_eq_true (by omega)
          have hk0' : decide ((j : Int) + 1 > 0) = true := decide_eq_true (by omega)
          have wj : IntKind.i64.wrap (((j + 1 : Nat) : Int) - 1) = (j : Int) := by rw [IntWalk.i64_in _ (by omega)]; omega
          have wj2 : IntKind.i64.wrap ((j : Int) + 1 - 1) = (j : Int) := by rw [IntWalk.i64_in _ (by omega)]; omega
          have wj3 : IntKind.i64.wrap (j : Int) = (j : Int) := IntWalk.i64_in _ (by omega)
          have ws : IntKind.i64.wrap (p0.1 + p0.2) = p0.1 + p0.2 := IntWalk.i64_in _ (by omega)
          have hc3 : decide (p0.1 + p0.2 ≥ p.1) = false := by simp; omega
          have hc3' : decide (p.1 ≤ p0.1 + p0.2) = false := by simp; omega
          clear hcx hpe hpj hap
          go_wp2
          go_quiet (fail)
          go_wp2_with fail
          go_loopw [6, 8] (fun o j wr => ∃ t : Nat, (t : Int) ≤ p.2 ∧ j = .int .i64 t ∧ wr.ownsRow w2.heap.size 3 1 o (T.length + t) (ints (T ++ (List.range t).map fun (q : Nat) => p.1 + (q : Int))) ∧ Below w2.heap.size w2 wr) (fun _ j _ => p.2.toNat - (intOf j).toNat)
          case atStart => exact ⟨0, by omega, rfl, by simpa using owns_later ho (below_drewN' _ _), hbr.trans ((below_drewN' _ _).mono hbr.size)⟩
          case round =>
            obtain ⟨t, ht, rfl, ho, hbr⟩ := hrel
            have hrk := hr2.later hbr
            obtain ⟨b', off', e, hk1, hk2, hcx⟩ := pairs_in hrk rfl (by omega)
            cases e
            obtain ⟨g1, g2⟩ := hcx (j + 1) p hp
            have hbs := hbr.size
            clear hcx
            by_cases hlt2 : (t : Int) < p.2
            · have wt : IntKind.i64.wrap (p.1 + (t : Int)) = p.1 + (t : Int) := IntWalk.i64_in _ (by omega)
              go_wp2_with (at_builtin; go_must (refine wpl_app _ _ _ (AppTo.refl ho) rfl rfl Try.underlying26 hi hz0 hz1 hz2 rfl (by decide) rfl rfl rfl (by simp [Value.oneCell']) (by decide) (by omega) hbs ?_); intro v3 w3 hA3 hne3 hst3)
              go_roundw
              case rel =>
                refine ⟨t + 1, by omega, by go_num, ?_, hbr.trans hst3⟩
                have := hA3.own
                rw [List.range_succ, List.map_append, ← List.append_assoc]
                simpa [Nat.add_assoc] using this
              case measure => simp [intOf]; omega
            · have hte : p.2.toNat = t := by omega
              go_wp2
              go_roundw
              case rel =>
                refine ⟨j + 1 + 1, by omega, by go_num, ?_, hbr⟩
                rw [HT.out]
                unfold spread
                rw [hte]
                have : (T ++ (List.range t).map fun (q : Nat) => p.1 + (q : Int)).length = T.length + t := by simp
                rw [this]; exact ho
              case measure => simp [intOf]; omega
      · have hke : k = r.length := by omega
        subst hke
        have e : (r.take r.length).flatMap spread = xs := by
          rw [List.take_length]
          have := HI.out.all
          rwa [List.take_length] at this
        rw [e] at ho
        have hro := rd_of_owns ho
        have hrx := hr.later (below_c hB12 hbr)
        clear e ho
        go_wp2_with fail
        refine (ints_b _ _ xs xs _ hro hrx).mono ?_
        rintro e w4 ⟨rfl, hB4⟩
        rw [decide_eq_true rfl]
        go_wp2
        go_ret
        exact ⟨rfl, below_c (below_c hB12 hbr) hB4⟩
  · have HE := Lib.hid ha
    go_enter Try.func6, Try.ntmps6
    go_wp2_with fail
    refine (gapsFact_any _).mono ?_
    rintro e w1 ⟨rfl, hB1⟩
    go_wp2_with fail
    refine (runs_bad _ xs _ (hr.later hB1) ha).mono ?_
    rintro e w2 ⟨rfl, rfl⟩
    clear ha
    go_wp2
    go_ret
    exact ⟨rfl, hB1⟩

end Go.Proofs.Ytnnhidbnjlpjiaa
