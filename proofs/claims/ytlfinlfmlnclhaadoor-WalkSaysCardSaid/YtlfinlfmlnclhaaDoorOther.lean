/- What graph.Other returns: the walk. Conditions: in each statement. -/
import Derived.Test.YtlfinlfmlnclhaaDoorLinesEq
namespace Go.Proofs.YtlfinlfmlnclhaaDoor
namespace Gr
/-- the lines from a to the points from b on (below b + k) that are not there -/
def otherRow (s a : Nat) (b k : Nat) : List Ln := ((List.range k).filter fun j => !s.testBit (b + j)).map fun j => ((a : Int), ((b + j : Nat) : Int))
/-- all lines that are not there, of the points below k -/
def otherUpto (O : List Nat) (n k : Nat) : List Ln := (List.range k).flatMap fun a => otherRow (O[a]?.getD 0) a (a + 1) (n - (a + 1))
def otherL (n : Nat) (ls : List Ln) : List Ln := otherUpto (beside n ls) n n

theorem otherRow_succ (s a b k : Nat) : otherRow s a b (k + 1) = otherRow s a b k ++ (if s.testBit (b + k) then [] else [((a : Int), ((b + k : Nat) : Int))]) := by
  unfold otherRow
  rw [List.range_succ, List.filter_append, List.map_append]
  congr 1
  cases h : s.testBit (b + k) <;> simp [h]
theorem otherUpto_succ (O : List Nat) (n k : Nat) : otherUpto O n (k + 1) = otherUpto O n k ++ otherRow (O[k]?.getD 0) k (k + 1) (n - (k + 1)) := by
  unfold otherUpto
  rw [List.range_succ, List.flatMap_append]
  simp
theorem otherRow_length (s a b k : Nat) : (otherRow s a b k).length ≤ k := by
  unfold otherRow
  rw [List.length_map]
  refine Nat.le_trans (List.length_filter_le _ _) ?_
  simp
theorem otherUpto_length (O : List Nat) (n k : Nat) : (otherUpto O n k).length ≤ k * n := by
  induction k with
  | zero => simp [otherUpto]
  | succ k ih =>
    rw [otherUpto_succ, List.length_append]
    have := otherRow_length (O[k]?.getD 0) k (k + 1) (n - (k + 1))
    have e : (k + 1) * n = k * n + n := Nat.succ_mul k n
    omega
end Gr
open Go.RowKit Gr

set_option maxRecDepth 100000 in
set_option maxHeartbeats 1000000 in
theorem other_bad (n : Int) (v : Value) (ls : List Ln) (w : World) (hr : LinesRd w v ls) (hc : chk n ls ≠ 0) :
    Calls Tryd.prog 10 #[.int .i64 n, v] w fun e w' => e = .returned (.tuple #[.slice none 0 0, errV (chk n ls)]) ∧ Below w.heap.size w w' := by
  have HC := Lib.hid (errOf_pos hc)
  clear hc
  go_enter Tryd.func10, Tryd.ntmps10
  go_wp2_with fail
  refine (graphCheck_any n v ls _ hr).mono ?_
  rintro e w1 ⟨rfl, hB⟩
  rw [HC.out]
  go_wp2
  go_ret2
  exact ⟨rfl, hB⟩

/-- what graph.Other gives where points and lines are good -/
def OtherRet (w : World) (n : Nat) (ls : List Ln) (e : Ending) (w' : World) : Prop :=
  Below w.heap.size w w' ∧ ((24 < (otherL n ls).length ∧ e = .returned (.tuple #[.slice none 0 0, errV 4])) ∨
    ((otherL n ls).length ≤ 24 ∧ ∃ u, e = .returned (.tuple #[u, .nilIface]) ∧ w'.ownsRow w.heap.size 56 2 u (otherL n ls).length (cellsOf (otherL n ls))))

set_option maxRecDepth 100000 in
set_option maxHeartbeats 4000000 in
theorem other_ok (n : Nat) (v : Value) (ls : List Ln) (w : World) (hr : LinesRd w v ls) (hg : GoodG n ls) :
    Calls Tryd.prog 10 #[.int .i64 n, v] w (OtherRet w n ls) := by
  obtain ⟨i0, hi, hz0, hz1, hz2⟩ := info_parts info_line
  have HC : Hid (errOf (chk n ls) = .nilIface) := by show _ = _; rw [chk_good hg]; rfl
  have HG := Lib.hid hg
  have hn8 : n ≤ 8 := hg.2.1
  have hlen : (beside n ls).length = n := beside_length n ls
  have HO : Hid (otherL n ls = otherUpto (beside n ls) n n) := rfl
  clear hg
  go_enter Tryd.func10, Tryd.ntmps10
  go_wp2_with fail
  refine (graphCheck_any n v ls _ hr).mono ?_
  rintro e w1 ⟨rfl, hB1⟩
  rw [HC.out]
  go_wp2_with fail
  refine (coreBeside_any n v ls _ (hr.later hB1) HG.out).mono ?_
  rintro e w2 ⟨g, cap, rfl, hown, hB2, hS⟩
  have hB12 := below_c hB1 hB2
  have HS := Lib.hid hS
  clear hS hB1 hB2
  generalize beside n ls = O at *
  go_wp2_with fail
  go_loopw [8, 21] (fun u i wr => ∃ (k : Nat), k ≤ n ∧ i = .int .i64 k ∧ AppTo w2 w2.heap.size 56 2 (.slice none 0 0) wr u (otherUpto O n k).length (cellsOf (otherUpto O n k))) (fun _ i _ => n - (intOf i).toNat)
  case atStart => exact ⟨0, by omega, rfl, by simpa [otherUpto, cellsOf] using AppTo.refl (World.ownsRow_nil _ _ _ _)⟩
  case round =>
    obtain ⟨k, hk, rfl, hA⟩ := hrel
    by_cases hlt : k < n
    · have hko : k < O.length := by omega
      have hs := HS.out _ (List.getElem_mem hko)
      have hcs := owns_at hown (setsOf_get hko)
      have hgl := (hown.lt g rfl).2
      have HT := Lib.hid (otherUpto_succ O n k)
      have HK : Hid (O[k]?.getD 0 = O[k]) := by show _ = _; rw [List.getElem?_eq_getElem hko]; rfl
      have hLn : (otherUpto O n k).length ≤ 64 := Nat.le_trans (otherUpto_length O n k) (Nat.le_trans (Nat.mul_le_mul (by omega) hn8) (show 8 * 8 ≤ 64 by decide))
      generalize otherUpto O n k = done at *
      generalize O[k] = s at *
      go_wp2_with fail
      go_loopw [8, 10] (fun u i wr => ∃ (j : Nat), j ≤ n - (k + 1) ∧ i = .int .i64 ((k + 1 + j : Nat) : Int) ∧ AppTo w2 w2.heap.size 56 2 (.slice none 0 0) wr u (done ++ otherRow s k (k + 1) j).length (cellsOf (done ++ otherRow s k (k + 1) j))) (fun _ i _ => n - (intOf i).toNat)
      case atStart => exact ⟨0, by omega, by go_num, by simpa [otherRow] using hA⟩
      case round =>
        obtain ⟨j, hj, rfl, hA2⟩ := hrel
        by_cases hlt2 : k + 1 + j < n
        · have hbr := hA2.of_nil
          have hck := (hbr.cell (p := ⟨g, k, none⟩) hgl).trans hcs
          have hd : ((k + 1 + j : Nat) : Int) < (n : Int) := by omega
          have HR := Lib.hid (otherRow_succ s k (k + 1) j)
          have hLr : (done ++ otherRow s k (k + 1) j).length ≤ 80 := by
            rw [List.length_append]; have := otherRow_length s k (k + 1) j; omega
          have hwk : IntKind.i64.wrap ((k + 1 + j : Nat) : Int) = ((k + 1 + j : Nat) : Int) := IntWalk.i64_in _ (by omega)
          cases hbit : s.testBit (k + 1 + j) with
          | true =>
            have HBt := Lib.hid hbit
            clear hbit
            go_wp2_with fail
            refine (has_any s (k + 1 + j) _ (by omega) (by omega)).mono ?_
            rintro e w3 ⟨rfl, rfl⟩
            rw [HBt.out]
            go_wp2
            go_roundw
            case rel => exact ⟨j + 1, by omega, by go_num, by rw [HR.out, HBt.out]; simpa using hA2⟩
            case measure => simp [intOf]; omega
          | false =>
            have HBt := Lib.hid hbit
            clear hbit
            go_wp2_with fail
            refine (has_any s (k + 1 + j) _ (by omega) (by omega)).mono ?_
            rintro e w3 ⟨rfl, rfl⟩
            rw [HBt.out]
            go_wp2_with (at_builtin; go_must (refine wpl_app _ _ _ hA2 rfl rfl Tryd.underlying22 hi hz0 hz1 hz2 rfl (by decide) rfl rfl rfl (by simp [Value.oneCell']) (by decide) (by omega) (by omega) ?_); intro v3 w3 hA3 hne3 hst3)
            go_roundw
            case rel => exact ⟨j + 1, by omega, by go_num, by
              rw [HR.out, HBt.out, ← List.append_assoc, cellsOf_append, List.length_append]
              simpa [cellsOf] using hA3⟩
            case measure => simp [intOf]; omega
        · have hd : ¬ (((k + 1 + j : Nat) : Int) < (n : Int)) := by omega
          have e : j = n - (k + 1) := by omega
          subst e
          go_wp2
          go_roundw
          case rel => exact ⟨k + 1, by omega, by go_num, by rw [HT.out, HK.out]; exact hA2⟩
          case measure => simp [intOf]; omega
    · have e : k = n := by omega
      subst e
      rw [← HO.out] at hA
      have hLn : (otherUpto O k k).length ≤ 64 := Nat.le_trans (otherUpto_length O k k) (Nat.le_trans (Nat.mul_le_mul (by omega) hn8) (show 8 * 8 ≤ 64 by decide))
      rw [← HO.out] at hLn
      by_cases h24 : 24 < (otherL k ls).length
      · have hd : (24 : Int) < ((otherL k ls).length : Int) := by omega
        obtain ⟨au, cu, rfl⟩ := owns_slice hA.own
        go_wp2
        go_ret2
        exact ⟨below_c hB12 hA.of_nil, .inl ⟨h24, rfl⟩⟩
      · have hd : ((otherL k ls).length : Int) ≤ 24 := by omega
        obtain ⟨au, cu, rfl⟩ := owns_slice hA.own
        go_wp2
        go_ret2
        exact ⟨below_c hB12 hA.of_nil, .inr ⟨by omega, _, rfl, owns_mono hA.own hB12.size⟩⟩

end Go.Proofs.YtlfinlfmlnclhaaDoor
