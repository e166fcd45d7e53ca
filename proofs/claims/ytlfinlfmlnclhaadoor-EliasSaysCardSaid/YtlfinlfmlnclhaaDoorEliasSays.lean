/- EliasSays returns true for every input: the walk. Conditions: the listed variable holds its handle. -/
import Derived.Test.YtlfinlfmlnclhaaDoorRefElias3
import Derived.Test.YtlfinlfmlnclhaaDoorEliasF
import Derived.Test.YtlfinlfmlnclhaaDoorErr
namespace Go.Proofs.YtlfinlfmlnclhaaDoor
open Go.RowKit

theorem readGamma_both (v : Value) (xs : List Int) (w : World) (hr : Rd w v xs.length (ints xs)) :
    Calls Tryd.prog 27 #[v] w (RetInts w (El.ReadGamma xs).1 (errOf (El.ReadGamma xs).2)) := by
  by_cases hc : El.chk xs = 0
  · exact ReadGamma_ok v xs w hr hc
  · have HR : El.ReadGamma xs = ([], El.chk xs) := by unfold El.ReadGamma El.outOf; rw [if_pos hc]
    rw [HR]
    refine (ReadGamma_bad v xs w hr _ (errOf_pos hc)).mono ?_
    rintro e w' ⟨rfl, rfl⟩
    rw [errOf_pos hc]
    exact RetInts.mk rfl (World.ownsRow_nil _ _ _ _) rfl (Below.refl _ _)

theorem readDelta_both (v : Value) (xs : List Int) (w : World) (hr : Rd w v xs.length (ints xs)) :
    Calls Tryd.prog 29 #[v] w (RetInts w (El.ReadDelta xs).1 (errOf (El.ReadDelta xs).2)) := by
  by_cases hc : El.chk xs = 0
  · exact ReadDelta_ok v xs w hr hc
  · have HR : El.ReadDelta xs = ([], El.chk xs) := by unfold El.ReadDelta El.outOf; rw [if_pos hc]
    rw [HR]
    refine (ReadDelta_bad v xs w hr _ (errOf_pos hc)).mono ?_
    rintro e w' ⟨rfl, rfl⟩
    rw [errOf_pos hc]
    exact RetInts.mk rfl (World.ownsRow_nil _ _ _ _) rfl (Below.refl _ _)

-- one call of a function of the program that is held against the document's answer: the error, the numbers
-- behind the two codes: what is read

set_option maxRecDepth 100000 in
set_option maxHeartbeats 8000000 in
theorem eliasSays_any {w : World} (hh : Handle w) (n : Int) {v : Value} {xs : List Int} (hr : Rd w v xs.length (ints xs)) :
    Calls Tryd.prog 5 #[.int .i64 n, v] w fun e w' => e = .returned (.bool true) ∧ Below w.heap.size w w' := by
  obtain ⟨av, cv, rfl⟩ : ∃ av cv, v = .slice av xs.length cv := by obtain ⟨av, cv, hv, _⟩ := hr; exact ⟨av, cv, hv⟩
  by_cases hin : 1 ≤ n ∧ n ≤ 1000000
  · have HIN := Lib.hid (decide_eq_true hin)
    obtain ⟨m, rfl⟩ : ∃ m : Nat, n = m := ⟨n.toNat, by omega⟩
    have hm1 : 1 ≤ m := by omega
    have hm2 : m ≤ 1000000 := by omega
    clear hin
    go_enter Tryd.func5, Tryd.ntmps5
    go_wp2_with fail
    refine (in_any _ _ _ _).mono ?_
    rintro e w0 ⟨rfl, rfl⟩
    rw [HIN.out]
    go_wp2_with fail
    refine (refGamma_any m _ hm2).mono ?_
    rintro e w1 ⟨a1, c1, rfl, ho1, hB1⟩
    have hr1 := rd_of_owns ho1
    go_wp2_with fail
    refine (refDelta_any m _ hm2).mono ?_
    rintro e w2 ⟨a2, c2, rfl, ho2, hB2⟩
    have hb2 := below_c hB1 hB2
    have hr12 := hr1.later hB2
    have hr2 := rd_of_owns ho2
    go_wp2_with fail
    refine (gammaE_yes m _ hm1 hm2).mono ?_
    rintro e w3 ⟨a3, c3, rfl, ho3, hB3⟩
    have hb3 := below_c hb2 hB3
    have hr13 := hr12.later hB3
    have hr23 := hr2.later hB3
    have hr3 := rd_of_owns ho3
    clear ho1 ho2 ho3 hB1 hB2 hB3 hr1 hr12 hr2
    have hr24 : ∀ w', Below w3.heap.size w3 w' → Rd w' _ _ _ := fun w' h => hr23.later h
    clear hr23
    go_wp2_with fail
    refine (errorNil 0 _ (hh.later hb3)).mono ?_
    rintro e wE ⟨rfl, hBE⟩
    rw [decide_eq_true rfl]
    have hbE := below_c hb3 hBE
    go_wp2_with fail
    refine (ints_b _ _ _ _ _ (hr3.later hBE) (hr13.later hBE)).mono ?_
    rintro e wI ⟨rfl, hBI⟩
    rw [decide_eq_true rfl]
    have hb4 := below_c hbE hBI
    have hr2x := hr24 _ (below_c hBE hBI)
    clear hbE hBE hBI hr24 hr3 hr13
    go_wp2_with fail
    refine (deltaE_yes m _ hm1 hm2).mono ?_
    rintro e w5 ⟨a5, c5, rfl, ho5, hB5⟩
    have hb5 := below_c hb4 hB5
    have hr2y := hr2x.later hB5
    have hr5 := rd_of_owns ho5
    clear hB5 ho5 hr2x
    go_wp2_with fail
    refine (errorNil 0 _ (hh.later hb5)).mono ?_
    rintro e wE ⟨rfl, hBE⟩
    first | rw [decide_eq_true rfl] | rw [show decide (((1 : Nat) : Int) = 1) = true from rfl]
    have hbE := below_c hb5 hBE
    have hRL := hr5.later hBE
    have hRW := hr2y.later hBE
    clear hBE
    go_wp2_with fail
    refine (ints_b _ _ _ _ _ hRL hRW).mono ?_
    rintro e wI ⟨rfl, hBI⟩
    rw [decide_eq_true rfl]
    have hb6 := below_c hbE hBI
    clear hbE hBI hRL hRW
    go_wp2_with fail
    refine (refReadGamma_any _ xs _ (hr.later hb6)).mono ?_
    rintro e wa ⟨aa, ca, rfl, hoa, hBa⟩
    have hba := below_c hb6 hBa
    have hra := rd_of_owns hoa
    go_wp2_with fail
    refine (readGamma_both _ xs _ (hr.later hba)).mono ?_
    rintro e wb ⟨ab, cb, rfl, hob, hBb⟩
    have hbb := below_c hba hBb
    have hra2 := hra.later hBb
    have hrb := rd_of_owns hob
    clear hBb hBa hoa hob hra
    go_wp2_with fail
    refine (errorIs _ _ _ (hh.later hbb)).mono ?_
    rintro e wE ⟨rfl, hBE⟩
    first | rw [decide_eq_true rfl] | rw [show decide (((1 : Nat) : Int) = 1) = true from rfl]
    have hbE := below_c hbb hBE
    have hRL := hrb.later hBE
    have hRW := hra2.later hBE
    clear hBE
    go_wp2_with fail
    refine (ints_b _ _ _ _ _ hRL hRW).mono ?_
    rintro e wI ⟨rfl, hBI⟩
    rw [decide_eq_true rfl]
    have hbc := below_c hbE hBI
    clear hbE hBI hRL hRW
    go_wp2_with fail
    refine (refReadDelta_any _ xs _ (hr.later hbc)).mono ?_
    rintro e wd ⟨ad, cd, rfl, hod, hBd⟩
    have hbd := below_c hbc hBd
    have hrd := rd_of_owns hod
    go_wp2_with fail
    refine (readDelta_both _ xs _ (hr.later hbd)).mono ?_
    rintro e wf ⟨af, cf, rfl, hof, hBf⟩
    have hbf := below_c hbd hBf
    have hrd2 := hrd.later hBf
    have hrf := rd_of_owns hof
    clear hBd hBf hod hof hrd
    go_wp2_with fail
    refine (errorIs _ _ _ (hh.later hbf)).mono ?_
    rintro e wE ⟨rfl, hBE⟩
    first | rw [decide_eq_true rfl] | rw [show decide (((1 : Nat) : Int) = 1) = true from rfl]
    have hbE := below_c hbf hBE
    have hRL := hrf.later hBE
    have hRW := hrd2.later hBE
    clear hBE
    go_wp2_with fail
    refine (ints_b _ _ _ _ _ hRL hRW).mono ?_
    rintro e wI ⟨rfl, hBI⟩
    rw [decide_eq_true rfl]
    have hbz := below_c hbE hBI
    clear hbE hBI hRL hRW
    go_wp2
    go_ret
    exact ⟨rfl, hbz⟩
  · have HIN := Lib.hid (decide_eq_false hin)
    have HI := Lib.hid hin
    clear hin
    go_enter Tryd.func5, Tryd.ntmps5
    go_wp2_with fail
    refine (in_any _ _ _ _).mono ?_
    rintro e w0 ⟨rfl, rfl⟩
    rw [HIN.out]
    go_wp2_with fail
    refine (gammaE_no n _ HI.out).mono ?_
    rintro e w1 ⟨rfl, rfl⟩
    have hb1 := Below.refl w.heap.size w
    have hrn : Rd w (.slice none 0 0) ([] : List Int).length (ints []) := Rd.nil w
    go_wp2_with fail
    refine (errorV 1 1 _ (by decide) (hh.later hb1)).mono ?_
    rintro e wE ⟨rfl, hBE⟩
    first | rw [decide_eq_true rfl] | rw [show decide (((1 : Nat) : Int) = 1) = true from rfl]
    have hbE := below_c hb1 hBE
    have hRL := hrn.later hBE
    have hRW := hrn.later hBE
    clear hBE
    go_wp2_with fail
    refine (ints_b _ _ _ _ _ hRL hRW).mono ?_
    rintro e wI ⟨rfl, hBI⟩
    rw [decide_eq_true rfl]
    have hb2 := below_c hbE hBI
    clear hbE hBI hRL hRW
    go_wp2_with fail
    refine (deltaE_no n _ HI.out).mono ?_
    rintro e w2 ⟨rfl, rfl⟩
    have hrn2 : Rd wI (.slice none 0 0) ([] : List Int).length (ints []) := Rd.nil wI
    go_wp2_with fail
    refine (errorV 1 1 _ (by decide) (hh.later hb2)).mono ?_
    rintro e wE ⟨rfl, hBE⟩
    first | rw [decide_eq_true rfl] | rw [show decide (((1 : Nat) : Int) = 1) = true from rfl]
    have hbE := below_c hb2 hBE
    have hRL := hrn2.later hBE
    have hRW := hrn2.later hBE
    clear hBE
    go_wp2_with fail
    refine (ints_b _ _ _ _ _ hRL hRW).mono ?_
    rintro e wI ⟨rfl, hBI⟩
    rw [decide_eq_true rfl]
    have hb3 := below_c hbE hBI
    clear hbE hBI hRL hRW
    go_wp2_with fail
    refine (refReadGamma_any _ xs _ (hr.later hb3)).mono ?_
    rintro e wa ⟨aa, ca, rfl, hoa, hBa⟩
    have hba := below_c hb3 hBa
    have hra := rd_of_owns hoa
    go_wp2_with fail
    refine (readGamma_both _ xs _ (hr.later hba)).mono ?_
    rintro e wb ⟨ab, cb, rfl, hob, hBb⟩
    have hbb := below_c hba hBb
    have hra2 := hra.later hBb
    have hrb := rd_of_owns hob
    clear hBb hBa hoa hob hra
    go_wp2_with fail
    refine (errorIs _ _ _ (hh.later hbb)).mono ?_
    rintro e wE ⟨rfl, hBE⟩
    first | rw [decide_eq_true rfl] | rw [show decide (((1 : Nat) : Int) = 1) = true from rfl]
    have hbE := below_c hbb hBE
    have hRL := hrb.later hBE
    have hRW := hra2.later hBE
    clear hBE
    go_wp2_with fail
    refine (ints_b _ _ _ _ _ hRL hRW).mono ?_
    rintro e wI ⟨rfl, hBI⟩
    rw [decide_eq_true rfl]
    have hbc := below_c hbE hBI
    clear hbE hBI hRL hRW
    go_wp2_with fail
    refine (refReadDelta_any _ xs _ (hr.later hbc)).mono ?_
    rintro e wd ⟨ad, cd, rfl, hod, hBd⟩
    have hbd := below_c hbc hBd
    have hrd := rd_of_owns hod
    go_wp2_with fail
    refine (readDelta_both _ xs _ (hr.later hbd)).mono ?_
    rintro e wf ⟨af, cf, rfl, hof, hBf⟩
    have hbf := below_c hbd hBf
    have hrd2 := hrd.later hBf
    have hrf := rd_of_owns hof
    clear hBd hBf hod hof hrd
    go_wp2_with fail
    refine (errorIs _ _ _ (hh.later hbf)).mono ?_
    rintro e wE ⟨rfl, hBE⟩
    first | rw [decide_eq_true rfl] | rw [show decide (((1 : Nat) : Int) = 1) = true from rfl]
    have hbE := below_c hbf hBE
    have hRL := hrf.later hBE
    have hRW := hrd2.later hBE
    clear hBE
    go_wp2_with fail
    refine (ints_b _ _ _ _ _ hRL hRW).mono ?_
    rintro e wI ⟨rfl, hBI⟩
    rw [decide_eq_true rfl]
    have hbz := below_c hbE hBI
    clear hbE hBI hRL hRW
    go_wp2
    go_ret
    exact ⟨rfl, hbz⟩

end Go.Proofs.YtlfinlfmlnclhaaDoor
