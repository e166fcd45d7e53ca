/- What R.Goes and R.Beside return: the walks. Conditions: in each statement. -/
import Derived.Test.YtjeafgnaoncphaaCoreCheck
import Derived.Test.YtjeafgnaoncphaaPlainA
namespace Go.Proofs.Ytjeafgnaoncphaa
namespace Gr

theorem goes_take {ls : List Ln} {a b : Int} {k : Nat} (hk : k < ls.length) (h : goes (ls.take k) a b = false) (hn : ((ls[k]).1 == a && (ls[k]).2 == b) = false) : goes (ls.take (k + 1)) a b = false := by
  rw [List.take_succ_eq_append_getElem hk]
  unfold goes at h ⊢
  rw [List.any_append, h]
  simpa using hn

end Gr
open Go.RowKit Gr

set_option maxRecDepth 100000 in
set_option maxHeartbeats 1000000 in
theorem goes_any (v : Value) (ls : List Ln) (a b : Int) (w : World) (hr : LinesRd w v ls) :
    Calls Try.prog 46 #[v, .int .i64 a, .int .i64 b] w fun e w' => e = .returned (.bool (goes ls a b)) ∧ w = w' := by
  obtain ⟨a1, c1, rfl, hnc1, hcm1, h01, hcell1⟩ := hr
  unfold maxLen at hcm1
  clear h01
  go_enter Try.func46, Try.ntmps46
  go_wp2
  go_loopw [7] (fun i wr => ∃ k : Nat, k ≤ ls.length ∧ i = .int .i64 k ∧ wr = w ∧ Hid (goes (ls.take k) a b = false)) (fun i _ => ls.length - (intOf i).toNat)
  case atStart => exact ⟨0, by omega, rfl, rfl, rfl⟩
  case round =>
    obtain ⟨k, hk, rfl, rfl, HE⟩ := hrel
    by_cases hlt : k < ls.length
    · obtain ⟨b1, off1, rfl, hb1, hc1⟩ := hcell1 (by omega)
      obtain ⟨g1, g2⟩ := lines_at hc1 hlt
      have hi1 : (k : Int) < (ls.length : Int) := by omega
      have HG := Lib.hid (goes_take hlt HE.out)
      have HY : Hid ((ls[k]).1 = a → (ls[k]).2 = b → goes ls a b = true) := by
        show _ → _; intro e1 e2; exact goes_iff.2 ⟨ls[k], List.getElem_mem hlt, e1, e2⟩
      generalize ls[k] = l at *
      obtain ⟨x, y⟩ := l
      simp only at g1 g2
      by_cases hx : x = a
      · have hbx : (x == a) = true := by simp [hx]
        by_cases hy : y = b
        · have hby : (y == b) = true := by simp [hy]
          have HR := Lib.hid (HY.out hx hy)
          clear hx hy HG HY
          go_wp2
          go_ret
          exact ⟨ret_bool HR.out.symm, rfl⟩
        · have hby : (y == b) = false := by simp [hy]
          have HR := Lib.hid (HG.out (by simp [hy]))
          clear hx hy HG HY
          go_wp2
          go_roundw
          case rel => exact ⟨k + 1, by omega, by go_num, trivial, HR⟩
          case measure => simp [intOf]; omega
      · have hbx : (x == a) = false := by simp [hx]
        have HR := Lib.hid (HG.out (by simp [hx]))
        clear hx HG HY
        go_wp2
        go_roundw
        case rel => exact ⟨k + 1, by omega, by go_num, trivial, HR⟩
        case measure => simp [intOf]; omega
    · have e : ls.take k = ls := List.take_of_length_le (by omega)
      rw [e] at HE
      clear e
      go_wp2
      go_ret
      exact ⟨ret_bool HE.out.symm, rfl⟩

set_option maxHeartbeats 1000000 in
theorem refBeside_any (v : Value) (ls : List Ln) (a b : Int) (w : World) (hr : LinesRd w v ls) :
    Calls Try.prog 17 #[v, .int .i64 a, .int .i64 b] w fun e w' => e = .returned (.bool (near ls a b)) ∧ w = w' := by
  cases h1 : goes ls a b with
  | true =>
    have H1 := Lib.hid h1
    go_enter Try.func17, Try.ntmps17
    go_wp2_with fail
    refine (goes_any v ls a b _ hr).mono ?_
    rintro e w' ⟨rfl, rfl⟩
    rw [H1.out]
    go_wp2
    go_ret
    exact ⟨ret_bool (by simp [near, H1.out]), rfl⟩
  | false =>
    have H1 := Lib.hid h1
    clear h1
    go_enter Try.func17, Try.ntmps17
    go_wp2_with fail
    refine (goes_any v ls a b _ hr).mono ?_
    rintro e w' ⟨rfl, rfl⟩
    rw [H1.out]
    go_wp2_with fail
    refine (goes_any v ls b a _ hr).mono ?_
    rintro e w' ⟨rfl, rfl⟩
    go_wp2
    go_ret
    exact ⟨ret_bool (by simp [near, H1.out]), rfl⟩

end Go.Proofs.Ytjeafgnaoncphaa
