/- GapsSays returns true where the numbers are not a list of gaps: the walk; what stands at the end of the law. Conditions: the listed variable holds its handle. -/
import Derived.Test.YtlfinlfmlnclhaaDoorRefGaps2
import Derived.Test.YtlfinlfmlnclhaaDoorRunsL
import Derived.Test.YtlfinlfmlnclhaaDoorRuns
import Derived.Test.YtlfinlfmlnclhaaDoorErr
import Derived.ChangeKeysEq
namespace Go.Proofs.YtlfinlfmlnclhaaDoor
open Go.RowKit
open El (at0 gapsErr GapsOk runsOf)

theorem ints_nil (w : World) : Rd w (.slice none 0 0) ([] : List Int).length (ints []) := Rd.nil w

/-- two pairs that are the same compare as the same -/
theorem eq_pair (x y : Int) (w : World) : (Op.equalIn 10000 68 (.agg #[.int .i64 x, .int .i64 y]) (.agg #[.int .i64 x, .int .i64 y])).run Tryd.prog w = .ok true w := by
  have hu : Tryd.prog.underlying 68 = some (.array 2 3) := by kernel_rfl
  obtain ⟨i0, hi, _⟩ := info_parts info_int
  have hc : Tryd.prog.cellsOf 3 = 1 := by kernel_rfl
  have hp : Tryd.prog.plainKey 3 = true := by kernel_rfl
  have p0 : ∀ w, (part 3 #[.int .i64 x, .int .i64 y] 0).run Tryd.prog w = .ok (.int .i64 x) w := fun w => run_part_plain w hp rfl
  have p1 : ∀ w, (part 3 #[.int .i64 x, .int .i64 y] 1).run Tryd.prog w = .ok (.int .i64 y) w := fun w => run_part_plain w hp rfl
  have q : ∀ a w, (Op.equalIn 9999 3 (.int .i64 a) (.int .i64 a)).run Tryd.prog w = .ok (a == a) w := fun a w => run_equalIn_int w 9998 _ _ _ _ _ Tryd.underlying3
  rw [show (10000 : Nat) = 9998 + 1 + 1 from rfl, run_equalIn_array w (9998 + 1) _ _ hu hi, hc]
  show (Op.eqItems (9998 + 1) 3 1 _ _ [0, 1]).run _ w = _
  simp [Op.eqItems, p0, p1, q]

-- the error and the numbers are held against the document's answer
-- what is read

set_option maxRecDepth 100000 in
set_option maxHeartbeats 8000000 in
theorem gapsSays_bad {w : World} (hh : Handle w) {v v' : Value} {xs ys : List Int} (hr : Rd w v xs.length (ints xs)) (hr' : Rd w v' ys.length (ints ys)) (he : gapsErr xs ≠ 0) :
    Calls Tryd.prog 8 #[v, v'] w fun e w' => e = .returned (.bool true) ∧ Below w.heap.size w w' := by
  obtain ⟨av, cv, rfl⟩ : ∃ av cv, v = .slice av xs.length cv := by obtain ⟨av, cv, hv, _⟩ := hr; exact ⟨av, cv, hv⟩
  obtain ⟨av', cv', rfl⟩ : ∃ av cv, v' = .slice av ys.length cv := by obtain ⟨av, cv, hv, _⟩ := hr'; exact ⟨av, cv, hv⟩
  have HE := Lib.hid he
  have HE2 := Lib.hid (gerr_pos he)
  have hc0 : (((gapsErr xs : Nat) : Int) == 0) = false := by rw [beq_eq_false_iff_ne]; omega
  have K1 : ∀ w1 : World, Below w.heap.size w w1 → _ := fun w1 h => gapsCheck_any _ xs w1 (hr.later h)
  have K2 : ∀ w1 : World, Below w.heap.size w w1 → _ := fun w1 h => gapsWrite_bad _ xs w1 (hr.later h) he
  have K3 : ∀ w1 : World, Below w.heap.size w w1 → _ := fun w1 h => runs_bad _ xs w1 (hr.later h) he
  have K0 := refGaps_any _ xs w hr
  generalize gapsErr xs = c at *
  clear he
  go_enter Tryd.func8, Tryd.ntmps8
  go_wp2_with fail
  refine K0.mono ?_
  rintro e w1 ⟨rfl, hB1⟩
  go_wp2_with fail
  refine (K1 _ hB1).mono ?_
  rintro e w2 ⟨rfl, rfl⟩
  rw [HE2.out]
  go_wp2_with fail
  refine (errorV c _ _ HE.out (hh.later hB1)).mono ?_
  rintro e w2 ⟨rfl, hB2⟩
  rw [decide_eq_true rfl]
  have hB12 := below_c hB1 hB2
  clear hB1 hB2
  go_wp2_with fail
  refine (K2 _ hB12).mono ?_
  rintro e w3 ⟨rfl, rfl⟩
  have hrn := ints_nil w2
  go_wp2_with fail
  refine (errorV c _ _ HE.out (hh.later hB12)).mono ?_
  rintro e wE ⟨rfl, hBE⟩
  first | rw [decide_eq_true rfl] | skip
  have hbE := below_c hB12 hBE
  have hRL := Rd.later hrn hBE
  have hRW := Rd.later hrn hBE
  clear hBE
  go_wp2_with fail
  refine (ints_b _ _ _ _ _ hRL hRW).mono ?_
  rintro e wI ⟨rfl, hBI⟩
  rw [decide_eq_true rfl]
  have hB13 := below_c hbE hBI
  clear hbE hBI hRL hRW
  go_wp2_with fail
  refine (K3 _ hB13).mono ?_
  rintro e w3 ⟨rfl, rfl⟩
  go_wp2_with fail
  go_loopw [15, 16] (fun s i wr => s = .bool true ∧ i = .int .i64 0 ∧ wr = wI) (fun _ _ _ => 0)
  case atStart => exact ⟨rfl, rfl, rfl⟩
  case round =>
    obtain ⟨rfl, rfl, rfl⟩ := hrel
    go_wp2_with fail
    refine (errorV c _ _ HE.out (hh.later hB13)).mono ?_
    rintro e w4 ⟨rfl, hB4⟩
    rw [decide_eq_true rfl]
    have hB14 := below_c hB13 hB4
    clear hB4
    go_wp2_with fail
    refine (refReadGaps_any _ ys _ (hr'.later hB14)).mono ?_
    rintro e wa ⟨aa, ca, rfl, hoa, hBa⟩
    have hba := below_c hB14 hBa
    have hra := rd_of_owns hoa
    go_wp2_with fail
    refine (gapsRead_both _ ys _ (hr'.later hba)).mono ?_
    rintro e wb ⟨ab, cb, rfl, hob, hBb⟩
    have hbb := below_c hba hBb
    have hra2 := hra.later hBb
    have hrb := rd_of_owns hob
    clear hBb hBa hoa hob hra
    go_wp2_with fail
    refine (errorIs _ _ _ (hh.later hbb)).mono ?_
    rintro e wE ⟨rfl, hBE⟩
    first | rw [decide_eq_true rfl] | skip
    have hbE := below_c hbb hBE
    have hRL := Rd.later hrb hBE
    have hRW := Rd.later hra2 hBE
    clear hBE
    go_wp2_with fail
    refine (ints_b _ _ _ _ _ hRL hRW).mono ?_
    rintro e wI ⟨rfl, hBI⟩
    rw [decide_eq_true rfl]
    have hbz := below_c hbE hBI
    clear hbE hBI hRL hRW
    go_wp2
    go_ret
    exact ⟨rfl, hbz⟩

end Go.Proofs.YtlfinlfmlnclhaaDoor
