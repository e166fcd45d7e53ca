/- BetwA: what several texts say, in one: Betw, RefLines. Conditions: in each statement. -/
import Derived.Test.YtjeafgnaoncphaaBesideR
import Derived.Test.YtjeafgnaoncphaaCoreCheck
import Derived.Test.YtjeafgnaoncphaaSame

namespace Go.Proofs.Ytjeafgnaoncphaa
open Go.RowKit Gr

/-- does a line join a and b? -/
def betw1 (a b : Int) (l : Ln) : Bool := (l.1 == a && l.2 == b) || (l.1 == b && l.2 == a)
def betw (ls : List Ln) (a b : Int) : Nat := (ls.filter (betw1 a b)).length
theorem betw_snoc (ls : List Ln) (l : Ln) (a b : Int) : betw (ls ++ [l]) a b = betw ls a b + (if betw1 a b l then 1 else 0) := by
  unfold betw
  rw [List.filter_append, List.length_append]
  by_cases h : betw1 a b l <;> simp [h]
theorem betw_perm {L M : List Ln} (h : L.Perm M) (a b : Int) : betw L a b = betw M a b := (h.filter _).length_eq
theorem betw_cons (l : Ln) (L : List Ln) (a b : Int) : betw (l :: L) a b = betw L a b + (if betw1 a b l then 1 else 0) := by
  unfold betw
  by_cases h : betw1 a b l <;> simp [h]
set_option maxRecDepth 100000 in
set_option maxHeartbeats 2000000 in
theorem between_ok (v : Value) (ls : List Ln) (a b : Int) (w : World) (hr : LinesRd w v ls) (hl : ls.length ≤ 100) :
    Calls Try.prog 27 #[v, .int .i64 a, .int .i64 b] w fun e w' => e = .returned (.int .i64 (betw ls a b : Nat)) ∧ w = w' := by
  obtain ⟨a1, c1, rfl, hnc1, hcm1, h01, hcell1⟩ := hr
  unfold maxLen at hcm1
  clear h01
  go_enter Try.func27, Try.ntmps27
  go_wp2
  go_loopw [7, 8] (fun z i wr => ∃ k : Nat, k ≤ ls.length ∧ i = .int .i64 k ∧ z = .int .i64 (betw (ls.take k) a b : Nat) ∧ wr = w) (fun _ i _ => ls.length - (intOf i).toNat)
  case atStart => exact ⟨0, by omega, rfl, rfl, rfl⟩
  case round =>
    obtain ⟨k, hk, rfl, rfl, rfl⟩ := hrel
    by_cases hlt : k < ls.length
    · obtain ⟨b1, off1, rfl, hb1, hc1⟩ := hcell1 (by omega)
      obtain ⟨g1, g2⟩ := lines_at hc1 hlt
      have hi1 : (k : Int) < (ls.length : Int) := by omega
      have HS : Hid (betw (ls.take (k + 1)) a b = betw (ls.take k) a b + (if (ls[k].1 == a && ls[k].2 == b) || (ls[k].1 == b && ls[k].2 == a) then 1 else 0)) := by
        show _ = _
        rw [List.take_succ_eq_append_getElem hlt, betw_snoc]; rfl
      have hbl : betw (ls.take k) a b ≤ 100 := Nat.le_trans (List.length_filter_le _ _) (by simp; omega)
      clear hc1 hcell1
      generalize ls[k] = l at *
      obtain ⟨x, y⟩ := l
      simp only at g1 g2 HS
      generalize betw (ls.take k) a b = z at *
      have wz : IntKind.i64.wrap ((z : Int) + 1) = (z : Int) + 1 := IntWalk.i64_in _ (by omega)
      cases h1 : (x == a) <;> cases h2 : (y == b) <;> cases h3 : (x == b) <;> cases h4 : (y == a)
      all_goals
        rw [h1, h2, h3, h4] at HS
        go_wp2
        go_roundw
        case rel => exact ⟨k + 1, by omega, by go_num, by rw [HS.out]; first | rfl | (simp; done) | go_num, by first | rfl | trivial⟩
        case measure => simp [intOf]; omega
    · have e : ls.take k = ls := List.take_of_length_le (by omega)
      rw [e]
      go_wp2
      go_ret
      exact ⟨rfl, by first | rfl | trivial⟩

end Go.Proofs.Ytjeafgnaoncphaa


namespace Go.Proofs.Ytjeafgnaoncphaa
open Go.RowKit Gr

set_option maxHeartbeats 400000 in
theorem refIn_any (n lo hi : Int) (w : World) :
    Calls Try.prog 51 #[.int .i64 n, .int .i64 lo, .int .i64 hi] w fun e w' => e = .returned (.bool (decide (lo ≤ n ∧ n ≤ hi))) ∧ w = w' := by
  by_cases h1 : lo ≤ n
  · by_cases h2 : n ≤ hi
    · go_enter Try.func51, Try.ntmps51
      go_wp2
      go_ret
      exact ⟨by simp; omega, rfl⟩
    · go_enter Try.func51, Try.ntmps51
      go_wp2
      go_ret
      exact ⟨by simp; omega, rfl⟩
  · go_enter Try.func51, Try.ntmps51
    go_wp2
    go_ret
    exact ⟨by simp; omega, rfl⟩

set_option maxRecDepth 100000 in
set_option maxHeartbeats 2000000 in
theorem refLines_any (n : Int) (v : Value) (ls : List Ln) (w : World) (hr : LinesRd w v ls) :
    Calls Try.prog 24 #[.int .i64 n, v] w fun e w' => e = .returned (.int .i64 (chk n ls : Nat)) ∧ Below w.heap.size w w' := by
  have hr0 := hr
  obtain ⟨a, c, rfl, hnc, hcm, _, hcell⟩ := hr0
  unfold maxLen at hcm
  by_cases hn : 1 ≤ n ∧ n ≤ 8
  · have HN := Lib.hid (decide_eq_true hn)
    have w1' : IntKind.i64.wrap (n - 1) = n - 1 := IntWalk.i64_in _ (by omega)
    by_cases hl : 24 < ls.length
    · have hl' : (24 : Int) < (ls.length : Int) := by omega
      go_enter Try.func24, Try.ntmps24
      go_wp2_with fail
      refine (refIn_any _ _ _ _).mono ?_
      rintro e w' ⟨rfl, rfl⟩
      rw [HN.out]
      go_wp2
      go_ret
      exact ⟨ret_int (by rw [chk, if_neg (by omega), if_pos hl]; rfl), Below.refl _ _⟩
    · have hl' : (ls.length : Int) ≤ (24 : Int) := by omega
      have HC : Hid (chk n ls = chkLines n ls) := by show _ = _; rw [chk, if_neg (by omega), if_neg hl]
      clear hn
      go_enter Try.func24, Try.ntmps24
      go_wp2_with fail
      refine (refIn_any _ _ _ _).mono ?_
      rintro e w' ⟨rfl, rfl⟩
      rw [HN.out]
      go_wp2_with fail
      go_loopw [5] (fun i wr => ∃ k : Nat, k ≤ ls.length ∧ i = .int .i64 k ∧ Hid (chkLines n (ls.take k) = 0) ∧ Below w.heap.size w wr) (fun i _ => ls.length - (intOf i).toNat)
      case atStart => exact ⟨0, by omega, rfl, rfl, Below.refl _ _⟩
      case round =>
        obtain ⟨k, hk, rfl, HK, hbr⟩ := hrel
        by_cases hlt : k < ls.length
        · have hki : (k : Int) < (ls.length : Int) := by omega
          obtain ⟨b, off, rfl, hbb, hc⟩ := hcell (by omega)
          obtain ⟨g1, g2⟩ := lines_at hc hlt
          have hc1 := (hbr.cell (p := ⟨b, off + k * 2, none⟩) hbb).trans g1
          have hc2 := (hbr.cell (p := ⟨b, off + k * 2 + 1, none⟩) hbb).trans g2
          clear g1 g2 hc
          have HEQ := Lib.hid (chkLines_eq n ls k hlt HK.out)
          have HSN := Lib.hid (chkLines_snoc n ls k hlt HK.out)
          generalize ls[k] = l at *
          obtain ⟨x, y⟩ := l
          simp only at hc1 hc2
          by_cases hx : 0 ≤ x ∧ x ≤ n - 1
          · have HX := Lib.hid (decide_eq_true hx)
            by_cases hy : 0 ≤ y ∧ y ≤ n - 1
            · have HY := Lib.hid (decide_eq_true hy)
              by_cases he : x = y
              · have hb : (x == y) = true := by simp [he]
                have HE : Hid (lnErr n (x, y) = 3) := by show _ = _; unfold lnErr; rw [if_neg (by simp only; omega), if_pos he]
                clear hx hy he
                go_wp2_with fail
                refine (refIn_any _ _ _ _).mono ?_
                rintro e w' ⟨rfl, rfl⟩
                first | rw [HX.out] | (rw [w1', HX.out])
                go_wp2_with fail
                refine (refIn_any _ _ _ _).mono ?_
                rintro e w' ⟨rfl, rfl⟩
                first | rw [HY.out] | (rw [w1', HY.out])
                go_wp2
                go_quiet (fail)
                go_wp2
                go_ret
                exact ⟨ret_int (by rw [HC.out, HEQ.out (by rw [HE.out]; decide), HE.out]; rfl), hbr.trans ((below_drewN' _ _).mono hbr.size)⟩
              · have hb : (x == y) = false := by simp [he]
                have HE : Hid (lnErr n (x, y) = 0) := by show _ = _; unfold lnErr; rw [if_neg (by simp only; omega), if_neg he]
                clear hx hy he
                go_wp2_with fail
                refine (refIn_any _ _ _ _).mono ?_
                rintro e w' ⟨rfl, rfl⟩
                first | rw [HX.out] | (rw [w1', HX.out])
                go_wp2_with fail
                refine (refIn_any _ _ _ _).mono ?_
                rintro e w' ⟨rfl, rfl⟩
                first | rw [HY.out] | (rw [w1', HY.out])
                go_wp2
                go_quiet (fail)
                go_wp2
                go_roundw
                case rel => exact ⟨k + 1, by omega, by go_num, HSN.out HE.out, hbr.trans ((below_drewN' _ _).mono hbr.size)⟩
                case measure => simp [intOf]; omega
            · have HY := Lib.hid (decide_eq_false hy)
              have HE : Hid (lnErr n (x, y) = 1) := by show _ = _; unfold lnErr; rw [if_pos (by simp only; omega)]
              clear hx hy
              go_wp2_with fail
              refine (refIn_any _ _ _ _).mono ?_
              rintro e w' ⟨rfl, rfl⟩
              first | rw [HX.out] | (rw [w1', HX.out])
              go_wp2_with fail
              refine (refIn_any _ _ _ _).mono ?_
              rintro e w' ⟨rfl, rfl⟩
              first | rw [HY.out] | (rw [w1', HY.out])
              go_wp2
              go_ret
              exact ⟨ret_int (by rw [HC.out, HEQ.out (by rw [HE.out]; decide), HE.out]; rfl), hbr⟩
          · have HX := Lib.hid (decide_eq_false hx)
            have HE : Hid (lnErr n (x, y) = 1) := by show _ = _; unfold lnErr; rw [if_pos (by simp only; omega)]
            clear hx
            go_wp2_with fail
            refine (refIn_any _ _ _ _).mono ?_
            rintro e w' ⟨rfl, rfl⟩
            first | rw [HX.out] | (rw [w1', HX.out])
            go_wp2
            go_ret
            exact ⟨ret_int (by rw [HC.out, HEQ.out (by rw [HE.out]; decide), HE.out]; rfl), hbr⟩
        · have HZ : Hid (chk n ls = 0) := by show _ = _; rw [HC.out]; have := HK.out; rwa [List.take_of_length_le (by omega)] at this
          go_wp2
          go_ret
          exact ⟨ret_int (by rw [HZ.out]; rfl), hbr⟩
  · have HN := Lib.hid (decide_eq_false hn)
    have HC : Hid (chk n ls = 1) := by show _ = _; rw [chk, if_pos hn]
    clear hn
    go_enter Try.func24, Try.ntmps24
    go_wp2_with fail
    refine (refIn_any _ _ _ _).mono ?_
    rintro e w' ⟨rfl, rfl⟩
    rw [HN.out]
    go_wp2
    go_ret
    exact ⟨ret_int (by rw [HC.out]; rfl), Below.refl _ _⟩

end Go.Proofs.Ytjeafgnaoncphaa
