/- GapsBack returns true for every input: the walk. Conditions: none. -/
import Derived.Test.YtnnhidbnjlpjiaaGapsFact
namespace Go.Proofs.Ytnnhidbnjlpjiaa
open Go.RowKit
open El (at0 gAt gapsErr GapsOk lastOf)


set_option maxRecDepth 100000 in
set_option maxHeartbeats 4000000 in
theorem gapsBack_any {v v2 : Value} {xs ys : List Int} {w : World} (hr : Rd w v xs.length (ints xs)) (hry : Rd w v2 ys.length (ints ys)) :
    Calls Try.prog 4 #[v, v2] w fun e w' => e = .returned (.bool true) ∧ Below w.heap.size w w' := by
  by_cases ha : gapsErr xs = 0
  · have HG := Lib.hid (El.gapsOk_of ha)
    clear ha
    go_enter Try.func4, Try.ntmps4
    go_wp2_with fail
    refine (gapsFact_any _).mono ?_
    rintro e w1 ⟨rfl, hB1⟩
    go_wp2_with fail
    refine (gapsWrite_ok _ xs _ (hr.later hB1) HG.out).mono ?_
    rintro e w2 ⟨a2, c2, rfl, ho2, hB2⟩
    have hB12 := below_c hB1 hB2
    have hrx := rd_of_owns ho2
    clear ho2 hB2
    by_cases h6 : (El.writeG xs).length ≤ 600
    · have h6' : ((El.writeG xs).length : Int) ≤ 600 := by omega
      go_wp2_with fail
      refine (gapsRead_write _ xs _ hrx HG.out h6).mono ?_
      rintro e w3 ⟨a3, c3, rfl, ho3, hB3⟩
      have hB13 := below_c hB12 hB3
      have hr3 := rd_of_owns ho3
      have hrx3 := hrx.later hB3
      clear ho3 hB3
      go_wp2_with fail
      refine (ints_b _ _ xs xs _ hr3 (hr.later hB13)).mono ?_
      rintro e w4 ⟨rfl, hB4⟩
      rw [decide_eq_true rfl]
      have hB14 := below_c hB13 hB4
      have hrx4 := hrx3.later hB4
      clear hB4 hr3 hrx3 hrx hB13
      go_wp2_with fail
      by_cases hb : gapsErr ys = 0
      · have HB := Lib.hid (El.gapsOk_of hb)
        clear hb
        refine (gapsWrite_ok _ ys _ (hry.later hB14) HB.out).mono ?_
        rintro e wb ⟨ab, cb, rfl, hob, hBb⟩
        have hBb' := below_c hB14 hBb
        have hrb := rd_of_owns hob
        have hrx' := (hrx4).later hBb
        clear hob hBb
        go_wp2_with fail
        refine (ints_b _ _ (El.writeG xs) (El.writeG ys) _ hrx' hrb).mono ?_
        rintro e wc ⟨rfl, hBc⟩
        have hBc' := below_c hBb' hBc
        go_wp2_with fail
        refine (ints_b _ _ xs ys _ (hr.later hBc') (hry.later hBc')).mono ?_
        rintro e wd ⟨rfl, hBd⟩
        have hBd' := below_c hBc' hBd
        have HEQ : Hid ((decide (El.writeG xs = El.writeG ys) == decide (xs = ys)) = true) := by
          show _ = _
          by_cases h : xs = ys
          · subst h; simp
          · rw [decide_eq_false h, decide_eq_false (fun e => h (El.writeG_inj HG.out HB.out e))]; rfl
        clear hrx' hrb hBb' hBc' hBc hBd
        go_wp2
        go_ret
        exact ⟨ret_bool HEQ.out, hBd'⟩
      · have HE := Lib.hid hb
        refine (gapsWrite_bad _ ys _ (hry.later hB14) hb).mono ?_
        rintro e wb ⟨rfl, rfl⟩
        clear hb
        go_wp2
        go_ret
        exact ⟨rfl, hB14⟩
    · have h6' : ¬ ((El.writeG xs).length : Int) ≤ 600 := by omega
      go_wp2_with fail
      by_cases hb : gapsErr ys = 0
      · have HB := Lib.hid (El.gapsOk_of hb)
        clear hb
        refine (gapsWrite_ok _ ys _ (hry.later hB12) HB.out).mono ?_
        rintro e wb ⟨ab, cb, rfl, hob, hBb⟩
        have hBb' := below_c hB12 hBb
        have hrb := rd_of_owns hob
        have hrx' := (hrx).later hBb
        clear hob hBb
        go_wp2_with fail
        refine (ints_b _ _ (El.writeG xs) (El.writeG ys) _ hrx' hrb).mono ?_
        rintro e wc ⟨rfl, hBc⟩
        have hBc' := below_c hBb' hBc
        go_wp2_with fail
        refine (ints_b _ _ xs ys _ (hr.later hBc') (hry.later hBc')).mono ?_
        rintro e wd ⟨rfl, hBd⟩
        have hBd' := below_c hBc' hBd
        have HEQ : Hid ((decide (El.writeG xs = El.writeG ys) == decide (xs = ys)) = true) := by
          show _ = _
          by_cases h : xs = ys
          · subst h; simp
          · rw [decide_eq_false h, decide_eq_false (fun e => h (El.writeG_inj HG.out HB.out e))]; rfl
        clear hrx' hrb hBb' hBc' hBc hBd
        go_wp2
        go_ret
        exact ⟨ret_bool HEQ.out, hBd'⟩
      · have HE := Lib.hid hb
        refine (gapsWrite_bad _ ys _ (hry.later hB12) hb).mono ?_
        rintro e wb ⟨rfl, rfl⟩
        clear hb
        go_wp2
        go_ret
        exact ⟨rfl, hB12⟩
  · have HE := Lib.hid ha
    go_enter Try.func4, Try.ntmps4
    go_wp2_with fail
    refine (gapsFact_any _).mono ?_
    rintro e w1 ⟨rfl, hB1⟩
    go_wp2_with fail
    refine (gapsWrite_bad _ xs _ (hr.later hB1) ha).mono ?_
    rintro e w2 ⟨rfl, rfl⟩
    clear ha
    go_wp2
    go_ret
    exact ⟨rfl, hB1⟩

end Go.Proofs.Ytnnhidbnjlpjiaa
