/- GraphSays returns true for every input: the walk. Conditions: the listed variable holds its handle. -/
import Derived.Test.YtlfinlfmlnclhaaDoorOtherP
import Derived.Test.YtlfinlfmlnclhaaDoorRefLines
import Derived.Test.YtlfinlfmlnclhaaDoorNear
import Derived.Test.YtlfinlfmlnclhaaDoorWithout
import Derived.Test.YtlfinlfmlnclhaaDoorAs
namespace Go.Proofs.YtlfinlfmlnclhaaDoor
open Go.RowKit Gr

theorem errorV (k : Nat) (e : Int) (w : World) (hk : k ≠ 0) (hh : Handle w) : Calls Tryd.prog 13 #[errV k, .int .i64 e] w fun r w' => r = .returned (.bool (decide ((k : Int) = e))) ∧ Below w.heap.size w w' := by
  have h := errorIs k e w hh
  rwa [errOf_pos hk] at h
theorem errorNil (e : Int) (w : World) (hh : Handle w) : Calls Tryd.prog 13 #[.nilIface, .int .i64 e] w fun r w' => r = .returned (.bool (decide ((0 : Int) = e))) ∧ Below w.heap.size w w' :=
  errorIs 0 e w hh
theorem rows_nil (w : World) : RowsRd w (.slice none 0 0) [] := ⟨[], Rd.nil w, .nil⟩
theorem lines_nil (w : World) : LinesRd w (.slice none 0 0) [] := Rd.nil w

/-- an append onto another row leaves the rows of a list -/
theorem rowsOwn_two {w w' : World} {base : Nat} {e : TypeId} {s n' : Nat} {g g' d : Value} {xs' us : List Value} {rows : List (List Int)} (hs : AppTo w base e s g w' g' n' xs') (h : RowsOwn w base g us rows) (k : RowsOwn w base d us rows) : RowsOwn w' base d us rows := by
  induction h with
  | nil => exact .nil
  | cons x _ ih =>
    cases k with
    | cons y r => exact .cons ⟨y.1, (owns_beside hs x.2.1 x.2.2).1, y.2.2⟩ (ih r)

set_option maxRecDepth 100000 in
set_option maxHeartbeats 4000000 in
theorem graphSays_bad {w : World} (hh : Handle w) (n : Int) {v : Value} {ls : List Ln} (hr : LinesRd w v ls) (i : Int) (hc : chk n ls ≠ 0) :
    Calls Tryd.prog 6 #[.int .i64 n, v, .int .i64 i] w fun e w' => e = .returned (.bool true) ∧ Below w.heap.size w w' := by
  have HC := Lib.hid hc
  have HE := Lib.hid (errOf_pos hc)
  have hc0 : (((chk n ls : Nat) : Int) == 0) = false := by rw [beq_eq_false_iff_ne]; omega
  obtain ⟨av, cv, rfl⟩ : ∃ av cv, v = .slice av ls.length cv := by obtain ⟨av, cv, hv, _⟩ := hr; exact ⟨av, cv, hv⟩
  generalize hce : chk n ls = c at *
  have HCE := Lib.hid hce
  clear hc hce
  go_enter Tryd.func6, Tryd.ntmps6
  go_wp2_with fail
  refine (refLines_any n _ ls _ hr).mono ?_
  rintro e w1 ⟨rfl, hB1⟩
  rw [HCE.out]
  go_wp2_with fail
  refine (graphCheck_any n _ ls _ (hr.later hB1)).mono ?_
  rintro e w2 ⟨rfl, hB2⟩
  rw [HCE.out, HE.out]
  have hB12 := below_c hB1 hB2
  clear hB1 hB2
  go_wp2_with fail
  refine (errorV c _ _ HC.out (hh.later hB12)).mono ?_
  rintro e w3 ⟨rfl, hB3⟩
  rw [decide_eq_true rfl]
  have hB13 := below_c hB12 hB3
  clear hB3 hB12
  go_wp2_with fail
  go_loopw [9, 11, 12] (fun b o i wr => b = .slice none 0 0 ∧ o = .slice none 0 0 ∧ i = .int .i64 0 ∧ Below w.heap.size w wr) (fun _ _ _ _ => 0)
  case atStart => exact ⟨rfl, rfl, rfl, hB13⟩
  case round =>
    obtain ⟨rfl, rfl, rfl, hbr⟩ := hrel
    by_cases hn : 0 < n
    all_goals
      go_wp2_with fail
      refine (graphBeside_bad n _ ls _ (hr.later hbr) (by rw [HCE.out]; exact HC.out)).mono ?_
      rintro e w4 ⟨rfl, hB4⟩
      rw [HCE.out]
      have hB14 := below_c hbr hB4
      clear hB4
      go_wp2_with fail
      refine (errorV c _ _ HC.out (hh.later hB14)).mono ?_
      rintro e w5 ⟨rfl, hB5⟩
      rw [decide_eq_true rfl]
      have hB15 := below_c hB14 hB5
      clear hB5 hB14
      go_wp2_with fail
      refine (rows_b _ _ [] [] _ (rows_nil _) (rows_nil _)).mono ?_
      rintro e w6 ⟨rfl, hB6⟩
      rw [decide_eq_true rfl]
      have hB16 := below_c hB15 hB6
      clear hB6 hB15
      go_wp2_with fail
      refine (other_bad n _ ls _ (hr.later hB16) (by rw [HCE.out]; exact HC.out)).mono ?_
      rintro e w7 ⟨rfl, hB7⟩
      rw [HCE.out]
      have hB17 := below_c hB16 hB7
      clear hB7 hB16
      go_wp2_with fail
      refine (errorV c _ _ HC.out (hh.later hB17)).mono ?_
      rintro e w8 ⟨rfl, hB8⟩
      rw [decide_eq_true rfl]
      have hB18 := below_c hB17 hB8
      clear hB8 hB17
      go_wp2_with fail
      refine (lines_b _ _ [] [] _ (lines_nil _) (lines_nil _)).mono ?_
      rintro e w9 ⟨rfl, hB9⟩
      rw [decide_eq_true rfl]
      have hB19 := below_c hB18 hB9
      clear hB9 hB18
      go_wp2_with fail
      go_loopw [10, 20] (fun l i wr => l = .slice none 0 0 ∧ i = .int .i64 0 ∧ Below w.heap.size w wr) (fun _ _ _ => 0)
      case atStart => exact ⟨rfl, rfl, hB19⟩
      case round =>
        obtain ⟨rfl, rfl, hbr⟩ := hrel
        by_cases hl : (0 : Int) < (ls.length : Int)
        all_goals
          go_wp2_with fail
          refine (without_bad n _ ls i _ (hr.later hbr) (by rw [HCE.out]; exact HC.out)).mono ?_
          rintro e w10 ⟨rfl, hB10⟩
          rw [HCE.out]
          have hB110 := below_c hbr hB10
          clear hB10
          go_wp2_with fail
          refine (errorV c _ _ HC.out (hh.later hB110)).mono ?_
          rintro e w11 ⟨rfl, hB11⟩
          rw [decide_eq_true rfl]
          have hB111 := below_c hB110 hB11
          go_wp2_with fail
          refine (lines_b _ _ [] [] _ (lines_nil _) (lines_nil _)).mono ?_
          rintro e w12 ⟨rfl, hB12⟩
          rw [decide_eq_true rfl]
          go_wp2
          go_ret
          exact ⟨rfl, below_c hB111 hB12⟩

end Go.Proofs.YtlfinlfmlnclhaaDoor
