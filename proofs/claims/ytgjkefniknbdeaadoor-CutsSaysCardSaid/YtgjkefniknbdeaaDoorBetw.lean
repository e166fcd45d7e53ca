/- How many lines two points have, and what R.Between returns: the walk. Conditions: in each statement. -/
import Derived.Test.YtgjkefniknbdeaaDoorBesideR
namespace Go.Proofs.YtgjkefniknbdeaaDoor
open Go.RowKit Gr

/-- does a line join a and b? -/
def betw1 (a b : Int) (l : Ln) : Bool := (l.1 == a && l.2 == b) || (l.1 == b && l.2 == a)
def betw (ls : List Ln) (a b : Int) : Nat := (ls.filter (betw1 a b)).length
theorem betw_snoc (ls : List Ln) (l : Ln) (a b : Int) : betw (ls ++ [l]) a b = betw ls a b + (if betw1 a b l then 1 else 0) := by
  unfold betw
  rw [List.filter_append, List.length_append]
  by_cases h : betw1 a b l <;> simp [h]
theorem betw_perm {L M : List Ln} (h : L.Perm M) (a b : Int) : betw L a b = betw M a b := (h.filter _).length_eq
theorem betw_cons (l : Ln) (L : List Ln) (a b : Int) : betw (l :: L) a b = betw L a b + (if betw1 a b l then 1 else 0) := by
  unfold betw
  by_cases h : betw1 a b l <;> simp [h]
set_option maxRecDepth 100000 in
set_option maxHeartbeats 2000000 in
theorem between_ok (v : Value) (ls : List Ln) (a b : Int) (w : World) (hr : LinesRd w v ls) (hl : ls.length ≤ 100) :
    Calls Tryd.prog 21 #[v, .int .i64 a, .int .i64 b] w fun e w' => e = .returned (.int .i64 (betw ls a b : Nat)) ∧ w = w' := by
  obtain ⟨a1, c1, rfl, hnc1, hcm1, h01, hcell1⟩ := hr
  unfold maxLen at hcm1
  clear h01
  go_enter Tryd.func21, Tryd.ntmps21
  go_wp2
  go_loopw [7, 8] (fun z i wr => ∃ k : Nat, k ≤ ls.length ∧ i = .int .i64 k ∧ z = .int .i64 (betw (ls.take k) a b : Nat) ∧ wr = w) (fun _ i _ => ls.length - (intOf i).toNat)
  case atStart => exact ⟨0, by omega, rfl, rfl, rfl⟩
  case round =>
    obtain ⟨k, hk, rfl, rfl, rfl⟩ := hrel
    by_cases hlt : k < ls.length
    · obtain ⟨b1, off1, rfl, hb1, hc1⟩ := hcell1 (by omega)
      obtain ⟨g1, g2⟩ := lines_at hc1 hlt
      have hi1 : (k : Int) < (ls.length : Int) := by omega
      have HS : Hid (betw (ls.take (k + 1)) a b = betw (ls.take k) a b + (if (ls[k].1 == a && ls[k].2 == b) || (ls[k].1 == b && ls[k].2 == a) then 1 else 0)) := by
        show _ = _
        rw [List.take_succ_eq_append_getElem hlt, betw_snoc]; rfl
      have hbl : betw (ls.take k) a b ≤ 100 := Nat.le_trans (List.length_filter_le _ _) (by simp; omega)
      clear hc1 hcell1
      generalize ls[k] = l at *
      obtain ⟨x, y⟩ := l
      simp only at g1 g2 HS
      generalize betw (ls.take k) a b = z at *
      have wz : IntKind.i64.wrap ((z : Int) + 1) = (z : Int) + 1 := IntWalk.i64_in _ (by omega)
      cases h1 : (x == a) <;> cases h2 : (y == b) <;> cases h3 : (x == b) <;> cases h4 : (y == a)
      all_goals
        rw [h1, h2, h3, h4] at HS
        go_wp2
        go_roundw
        case rel => exact ⟨k + 1, by omega, by go_num, by rw [HS.out]; first | rfl | (simp; done) | go_num, by first | rfl | trivial⟩
        case measure => simp [intOf]; omega
    · have e : ls.take k = ls := List.take_of_length_le (by omega)
      rw [e]
      go_wp2
      go_ret
      exact ⟨rfl, by first | rfl | trivial⟩

end Go.Proofs.YtgjkefniknbdeaaDoor
