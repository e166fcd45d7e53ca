/- What R.But returns: the walk. Conditions: in each statement. -/
import Derived.Test.YtgjkefniknbdeaaDoorBack
namespace Go.Proofs.YtgjkefniknbdeaaDoor
open Go.RowKit Gr

theorem erase_step (ls : List Ln) (k j : Nat) (h : j < ls.length) : (ls.take (j + 1)).eraseIdx k = (ls.take j).eraseIdx k ++ (if j = k then [] else [ls[j]]) := by
  rw [List.take_succ_eq_append_getElem h]
  have hl : (ls.take j).length = j := by simp; omega
  by_cases e : j = k
  · subst e
    have e1 : (ls.take j).eraseIdx j = ls.take j := List.eraseIdx_of_length_le (by omega)
    rw [if_pos rfl, List.append_nil, List.eraseIdx_append_of_length_le (by omega), hl, Nat.sub_self, e1]
    exact List.append_nil _
  · rw [if_neg e]
    by_cases hk : k < j
    · rw [List.eraseIdx_append_of_lt_length (by omega)]
    · rw [List.eraseIdx_of_length_le (by simp; omega), List.eraseIdx_of_length_le (by omega)]

set_option maxRecDepth 100000 in
set_option maxHeartbeats 2000000 in
theorem refBut_ok (v : Value) (ls : List Ln) (k : Nat) (w : World) (hr : LinesRd w v ls) (hl : ls.length ≤ 24) :
    Calls Tryd.prog 22 #[v, .int .i64 (k : Int)] w fun e w' => ∃ a c, e = .returned (.slice a (ls.eraseIdx k).length c) ∧ w'.ownsRow w.heap.size 50 2 (.slice a (ls.eraseIdx k).length c) (ls.eraseIdx k).length (cellsOf (ls.eraseIdx k)) ∧ Below w.heap.size w w' := by
  obtain ⟨i0, hi, hz0, hz1, hz2⟩ := info_parts info_line
  obtain ⟨av, cv, rfl, _⟩ := id hr
  go_enter Tryd.func22, Tryd.ntmps22
  go_wp2_with fail
  go_loopw [5, 6] (fun oo ii wr => ∃ j : Nat, j ≤ ls.length ∧ ii = .int .i64 j ∧ wr.ownsRow w.heap.size 50 2 oo ((ls.take j).eraseIdx k).length (cellsOf ((ls.take j).eraseIdx k)) ∧ Below w.heap.size w wr) (fun _ ii _ => ls.length - (intOf ii).toNat)
  case atStart => exact ⟨0, by omega, rfl, by simpa [cellsOf] using World.ownsRow_nil _ w.heap.size 50 2, Below.refl _ _⟩
  case round =>
    obtain ⟨j, hj, rfl, ho, hB⟩ := hrel
    obtain ⟨ao, co, rfl⟩ := owns_slice ho
    have hsB := hB.size
    by_cases hlt : j < ls.length
    · have hji : (j : Int) < (ls.length : Int) := by omega
      obtain ⟨_, _, e, _, _, _, hcell⟩ := hr.later hB
      cases e
      obtain ⟨bv, ov, rfl, hbv, hcx⟩ := hcell (by omega)
      obtain ⟨g1, g2⟩ := lines_at hcx hlt
      have HS := Lib.hid (erase_step ls k j hlt)
      have hyl : ((ls.take j).eraseIdx k).length ≤ 24 := Nat.le_trans (List.length_eraseIdx_le _ _) (by simp; omega)
      clear hcx hcell
      generalize ls[j] = l at *
      obtain ⟨x, y⟩ := l
      simp only at g1 g2 HS
      generalize (ls.take j).eraseIdx k = Y at *
      by_cases e : j = k
      · have hjk : ((j : Int) != (k : Int)) = false := by simp [e]
        have HS2 : Hid ((ls.take (j + 1)).eraseIdx k = Y) := by show _ = _; rw [HS.out, if_pos e, List.append_nil]
        clear e
        go_wp2
        go_roundw
        case rel => exact ⟨j + 1, by omega, by go_num, by rw [HS2.out]; exact ho, hB⟩
        case measure => simp [intOf]; omega
      · have hjk : ((j : Int) != (k : Int)) = true := by simp; omega
        have HS2 : Hid ((ls.take (j + 1)).eraseIdx k = Y ++ [(x, y)]) := by show _ = _; rw [HS.out, if_neg e]
        clear e
        go_wp2_with (at_builtin; go_must (refine wpl_app _ _ _ (AppTo.refl ho) rfl rfl Tryd.underlying24 hi hz0 hz1 hz2 rfl (by decide) rfl rfl rfl (by simp [Value.oneCell']) (by decide) (by omega) (by omega) ?_); intro v8 w8 hA8 hne8 hst8)
        go_roundw
        case rel =>
          refine ⟨j + 1, by omega, by go_num, ?_, hA8.below ho hB (Nat.le_refl _) (by omega)⟩
          rw [HS2.out, cellsOf_append, List.length_append, List.length_singleton]
          simpa [cellsOf] using hA8.own
        case measure => simp [intOf]; omega
    · have e : ls.take j = ls := List.take_of_length_le (by omega)
      rw [e] at ho
      rw [e]
      go_wp2
      go_ret
      exact ⟨_, _, rfl, ho, hB⟩
end Go.Proofs.YtgjkefniknbdeaaDoor
