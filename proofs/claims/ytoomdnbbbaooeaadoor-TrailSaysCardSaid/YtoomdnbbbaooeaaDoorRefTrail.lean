/- What R.Ends, R.But and R.lined return: the walks. Conditions: in each statement. -/
import Derived.Test.YtoomdnbbbaooeaaDoorTrailQ
namespace Go.Proofs.YtoomdnbbbaooeaaDoor
open Go.RowKit Gr

set_option maxRecDepth 100000 in
set_option maxHeartbeats 4000000 in
theorem refEnds_ok (n : Nat) (v : Value) (ls : List Ln) (w : World) (hr : LinesRd w v ls) (hg : GoodG n ls) :
    Calls Tryd.prog 8 #[.int .i64 (n : Int), v] w fun e w' => ∃ a c, e = .returned (.slice a (endsUp ls n).length c) ∧ w'.ownsRow w.heap.size 3 1 (.slice a (endsUp ls n).length c) (endsUp ls n).length (nats (endsUp ls n)) ∧ Below w.heap.size w w' := by
  obtain ⟨i0, hi, hz0, hz1, hz2⟩ := info_parts info_int
  have hn8 := hg.2.1
  have hl24 := hg.2.2.1
  clear hg
  obtain ⟨av, cv, rfl, _⟩ := id hr
  go_enter Tryd.func8, Tryd.ntmps8
  go_wp2_with fail
  go_loopw [5, 6] (fun oo ii wr => ∃ i : Nat, i ≤ n ∧ ii = .int .i64 i ∧ wr.ownsRow w.heap.size 3 1 oo (endsUp ls i).length (nats (endsUp ls i)) ∧ Below w.heap.size w wr) (fun _ ii _ => n - (intOf ii).toNat)
  case atStart => exact ⟨0, by omega, rfl, World.ownsRow_nil _ _ _ _, Below.refl _ _⟩
  case round =>
    obtain ⟨i, hi', rfl, ho, hB⟩ := hrel
    obtain ⟨ao, co, rfl⟩ := owns_slice ho
    obtain ⟨wa, hwa⟩ : ∃ wa, wa = wr := ⟨wr, rfl⟩
    subst hwa
    have hsB := hB.size
    by_cases hli : i < n
    · have hii : (i : Int) < (n : Int) := by omega
      have HES := Lib.hid (endsUp_succ ls i)
      have hel := endsUp_length ls i
      generalize endsUp ls i = Q at *
      go_wp2_with fail
      go_loopw [7, 8] (fun zz kk wr => ∃ k : Nat, k ≤ ls.length ∧ kk = .int .i64 k ∧ zz = .int .i64 ((degL (ls.take k) i : Nat) : Int) ∧ wr = wa) (fun _ kk _ => ls.length - (intOf kk).toNat)
      case atStart => exact ⟨0, by omega, rfl, rfl, rfl⟩
      case round =>
        obtain ⟨k, hk, rfl, rfl, rfl⟩ := hrel
        by_cases hlt : k < ls.length
        · have hki : (k : Int) < (ls.length : Int) := by omega
          obtain ⟨_, _, e, _, _, _, hcell⟩ := hr.later hB
          cases e
          obtain ⟨bv, ov, rfl, hbv, hcx⟩ := hcell (by omega)
          obtain ⟨g1, g2⟩ := lines_at hcx hlt
          have HS : Hid (degL (ls.take (k + 1)) i = degL (ls.take k) i + (if (ls[k].1 == (i : Int)) || (ls[k].2 == (i : Int)) then 1 else 0)) := by
            show _ = _
            rw [List.take_succ_eq_append_getElem hlt, degL_snoc]; rfl
          have hdl := degL_le (ls.take k) i
          have htl : (ls.take k).length ≤ 24 := by simp; omega
          clear hcx hcell
          generalize ls[k] = l at *
          obtain ⟨x, y⟩ := l
          simp only at g1 g2 HS
          generalize degL (ls.take k) i = z at *
          have wz : IntKind.i64.wrap ((z : Int) + 1) = (z : Int) + 1 := IntWalk.i64_in _ (by omega)
          cases h1 : (x == (i : Int)) <;> cases h2 : (y == (i : Int))
          all_goals
            rw [h1, h2] at HS
            go_wp2
            go_roundw
            case rel => exact ⟨k + 1, by omega, by go_num, by rw [HS.out]; first | rfl | (simp; done) | go_num, by first | rfl | trivial⟩
            case measure => simp [intOf]; omega
        · have e : ls.take k = ls := List.take_of_length_le (by omega)
          rw [e]
          clear e
          have hdl := degL_le ls i
          by_cases hodd : degL ls i % 2 = 1
          · have hod : ((degL ls i : Int) % 2 == 1) = true := by simp; omega
            have HE2 : Hid (endsUp ls (i + 1) = Q ++ [i]) := by show _ = _; rw [HES.out, if_pos hodd]
            clear hodd
            generalize degL ls i = d at *
            have hd2 : Int.tmod (d : Int) 2 = (d : Int) % 2 := Int.tmod_eq_emod_of_nonneg (by omega)
            go_wp2_with (at_builtin; go_must (refine wpl_app _ _ _ (AppTo.refl ho) rfl rfl Tryd.underlying24 hi hz0 hz1 hz2 rfl (by decide) rfl rfl rfl (by simp [Value.oneCell']) (by decide) (by omega) (by omega) ?_); intro v8 w8 hA8 hne8 hst8)
            go_roundw
            case rel =>
              refine ⟨i + 1, by omega, by go_num, ?_, hA8.below ho hB (Nat.le_refl _) (by omega)⟩
              rw [HE2.out]
              simpa [nats] using hA8.own
            case measure => simp [intOf]; omega
          · have hod : ((degL ls i : Int) % 2 == 1) = false := by simp; omega
            have HE2 : Hid (endsUp ls (i + 1) = Q) := by show _ = _; rw [HES.out, if_neg hodd, List.append_nil]
            clear hodd
            generalize degL ls i = d at *
            have hd2 : Int.tmod (d : Int) 2 = (d : Int) % 2 := Int.tmod_eq_emod_of_nonneg (by omega)
            go_wp2
            go_roundw
            case rel =>
              refine ⟨i + 1, by omega, by go_num, ?_, hB⟩
              rw [HE2.out]; exact ho
            case measure => simp [intOf]; omega
    · obtain rfl : n = i := by omega
      go_wp2
      go_ret
      exact ⟨_, _, rfl, ho, hB⟩

theorem erase_step (ls : List Ln) (k j : Nat) (h : j < ls.length) : (ls.take (j + 1)).eraseIdx k = (ls.take j).eraseIdx k ++ (if j = k then [] else [ls[j]]) := by
  rw [List.take_succ_eq_append_getElem h]
  have hl : (ls.take j).length = j := by simp; omega
  by_cases e : j = k
  · subst e
    have e1 : (ls.take j).eraseIdx j = ls.take j := List.eraseIdx_of_length_le (by omega)
    rw [if_pos rfl, List.append_nil, List.eraseIdx_append_of_length_le (by omega), hl, Nat.sub_self, e1]
    exact List.append_nil _
  · rw [if_neg e]
    by_cases hk : k < j
    · rw [List.eraseIdx_append_of_lt_length (by omega)]
    · rw [List.eraseIdx_of_length_le (by simp; omega), List.eraseIdx_of_length_le (by omega)]

set_option maxRecDepth 100000 in
set_option maxHeartbeats 2000000 in
theorem refBut_ok (v : Value) (ls : List Ln) (k : Nat) (w : World) (hr : LinesRd w v ls) (hl : ls.length ≤ 24) :
    Calls Tryd.prog 23 #[v, .int .i64 (k : Int)] w fun e w' => ∃ a c, e = .returned (.slice a (ls.eraseIdx k).length c) ∧ w'.ownsRow w.heap.size 38 2 (.slice a (ls.eraseIdx k).length c) (ls.eraseIdx k).length (cellsOf (ls.eraseIdx k)) ∧ Below w.heap.size w w' := by
  obtain ⟨i0, hi, hz0, hz1, hz2⟩ := info_parts info_line
  obtain ⟨av, cv, rfl, _⟩ := id hr
  go_enter Tryd.func23, Tryd.ntmps23
  go_wp2_with fail
  go_loopw [5, 6] (fun oo ii wr => ∃ j : Nat, j ≤ ls.length ∧ ii = .int .i64 j ∧ wr.ownsRow w.heap.size 38 2 oo ((ls.take j).eraseIdx k).length (cellsOf ((ls.take j).eraseIdx k)) ∧ Below w.heap.size w wr) (fun _ ii _ => ls.length - (intOf ii).toNat)
  case atStart => exact ⟨0, by omega, rfl, by simpa [cellsOf] using World.ownsRow_nil _ w.heap.size 38 2, Below.refl _ _⟩
  case round =>
    obtain ⟨j, hj, rfl, ho, hB⟩ := hrel
    obtain ⟨ao, co, rfl⟩ := owns_slice ho
    have hsB := hB.size
    by_cases hlt : j < ls.length
    · have hji : (j : Int) < (ls.length : Int) := by omega
      obtain ⟨_, _, e, _, _, _, hcell⟩ := hr.later hB
      cases e
      obtain ⟨bv, ov, rfl, hbv, hcx⟩ := hcell (by omega)
      obtain ⟨g1, g2⟩ := lines_at hcx hlt
      have HS := Lib.hid (erase_step ls k j hlt)
      have hyl : ((ls.take j).eraseIdx k).length ≤ 24 := Nat.le_trans (List.length_eraseIdx_le _ _) (by simp; omega)
      clear hcx hcell
      generalize ls[j] = l at *
      obtain ⟨x, y⟩ := l
      simp only at g1 g2 HS
      generalize (ls.take j).eraseIdx k = Y at *
      by_cases e : j = k
      · have hjk : ((j : Int) != (k : Int)) = false := by simp [e]
        have HS2 : Hid ((ls.take (j + 1)).eraseIdx k = Y) := by show _ = _; rw [HS.out, if_pos e, List.append_nil]
        clear e
        go_wp2
        go_roundw
        case rel => exact ⟨j + 1, by omega, by go_num, by rw [HS2.out]; exact ho, hB⟩
        case measure => simp [intOf]; omega
      · have hjk : ((j : Int) != (k : Int)) = true := by simp; omega
        have HS2 : Hid ((ls.take (j + 1)).eraseIdx k = Y ++ [(x, y)]) := by show _ = _; rw [HS.out, if_neg e]
        clear e
        go_wp2_with (at_builtin; go_must (refine wpl_app _ _ _ (AppTo.refl ho) rfl rfl Tryd.underlying22 hi hz0 hz1 hz2 rfl (by decide) rfl rfl rfl (by simp [Value.oneCell']) (by decide) (by omega) (by omega) ?_); intro v8 w8 hA8 hne8 hst8)
        go_roundw
        case rel =>
          refine ⟨j + 1, by omega, by go_num, ?_, hA8.below ho hB (Nat.le_refl _) (by omega)⟩
          rw [HS2.out, cellsOf_append, List.length_append, List.length_singleton]
          simpa [cellsOf] using hA8.own
        case measure => simp [intOf]; omega
    · have e : ls.take j = ls := List.take_of_length_le (by omega)
      rw [e] at ho
      rw [e]
      go_wp2
      go_ret
      exact ⟨_, _, rfl, ho, hB⟩

end Go.Proofs.YtoomdnbbbaooeaaDoor
