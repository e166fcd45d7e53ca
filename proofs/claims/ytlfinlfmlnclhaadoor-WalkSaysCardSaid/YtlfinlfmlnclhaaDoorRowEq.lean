/- What E.Rows, R.Has, E.Back return: the walks. Conditions: in each statement. -/
import Derived.Test.YtlfinlfmlnclhaaDoorGraph
import Derived.Test.YtlfinlfmlnclhaaDoorSame
namespace Go.Proofs.YtlfinlfmlnclhaaDoor
open Go.RowKit Gr

theorem RowsRd.at {w : World} {us : List Value} {rows : List (List Int)} (h : All2 (fun u xs => Rd w u xs.length (ints xs)) us rows) {k : Nat} (hk : k < rows.length) : ∃ u, us[k]? = some u ∧ Rd w u rows[k].length (ints rows[k]) := h.at hk
theorem rowsNe_at {xs ys : List (List Int)} {k : Nat} (h1 : k < xs.length) (h2 : k < ys.length) (h : xs[k] ≠ ys[k]) : xs ≠ ys := by
  intro e; subst e; exact h rfl
theorem rowsEq_take {xs ys : List (List Int)} (hl : xs.length = ys.length) (h : ∀ j (h1 : j < xs.length) (h2 : j < ys.length), xs[j] = ys[j]) : xs = ys :=
  List.ext_getElem hl h

set_option maxRecDepth 100000 in
set_option maxHeartbeats 1000000 in
theorem rows_any (v1 v2 : Value) (xs ys : List (List Int)) (w : World) (hr1 : RowsRd w v1 xs) (hr2 : RowsRd w v2 ys) :
    Calls Tryd.prog 15 #[v1, v2] w fun e w' => e = .returned (.bool (decide (xs = ys))) ∧ ∃ q, w' = w.drewN q := by
  obtain ⟨us1, hv1, hu1⟩ := hr1
  obtain ⟨us2, hv2, hu2⟩ := hr2
  obtain ⟨a1, c1, rfl, hnc1, hcm1, h01, hcell1⟩ := hv1
  obtain ⟨a2, c2, rfl, hnc2, hcm2, h02, hcell2⟩ := hv2
  unfold maxLen at hcm1 hcm2
  clear h01 h02
  by_cases hl : xs.length = ys.length
  · have hb : ((xs.length : Int) == (ys.length : Int)) = true := by simp; omega
    have hb' : ((xs.length : Int) != (ys.length : Int)) = false := by simp; omega
    have HL := Lib.hid hl
    clear hl
    go_enter Tryd.func15, Tryd.ntmps15
    go_wp2
    go_loopw [5] (fun i wr => ∃ k q : Nat, k ≤ xs.length ∧ i = .int .i64 k ∧ wr = w.drewN q ∧ Hid (∀ j (h1 : j < xs.length) (h2 : j < ys.length), j < k → xs[j] = ys[j])) (fun i _ => xs.length - (intOf i).toNat)
    case atStart => exact ⟨0, 0, by omega, rfl, rfl, fun j _ _ h => by omega⟩
    case round =>
      obtain ⟨k, q, hk, rfl, rfl, HE⟩ := hrel
      by_cases hlt : k < xs.length
      · have hlt2 : k < ys.length := by rw [← HL.out]; exact hlt
        obtain ⟨b1, off1, rfl, hb1, hc1⟩ := hcell1 (by omega)
        obtain ⟨b2, off2, rfl, hb2, hc2⟩ := hcell2 (by omega)
        obtain ⟨u1, g1, d1⟩ := hu1.at hlt
        obtain ⟨u2, g2, d2⟩ := hu2.at hlt2
        have hck1 := hc1 k _ g1
        have hck2 := hc2 k _ g2
        have hi1 : (k : Int) < (xs.length : Int) := by omega
        have hi2 : (k : Int) < (ys.length : Int) := by omega
        cases hbx : decide (xs[k] = ys[k]) with
        | true =>
          have HX := Lib.hid (of_decide_eq_true hbx)
          have HB := Lib.hid hbx
          clear hbx g1 g2
          go_wp2
          go_quiet ((go_at_call 19; refine (ints_any _ _ _ _ _ (d1.drewN _) (d2.drewN _)).mono ?_; rintro e w' ⟨rfl, q', rfl⟩; refine ⟨ret_bool HB.out, ?_⟩; rw [drewN_add, Nat.add_assoc]; exact ⟨_, rfl⟩))
          go_wp2
          go_roundw
          case rel => exact ⟨k + 1, q + _, by omega, by go_num, rfl, fun j h1 h2 hj => by
            by_cases e : j = k
            · subst e; exact HX.out
            · exact HE.out j h1 h2 (by omega)⟩
          case measure => simp [intOf]; omega
        | false =>
          have HX := Lib.hid (of_decide_eq_false hbx)
          have HB := Lib.hid hbx
          clear hbx g1 g2
          go_wp2
          go_quiet ((go_at_call 19; refine (ints_any _ _ _ _ _ (d1.drewN _) (d2.drewN _)).mono ?_; rintro e w' ⟨rfl, q', rfl⟩; refine ⟨ret_bool HB.out, ?_⟩; rw [drewN_add, Nat.add_assoc]; exact ⟨_, rfl⟩))
          go_wp2
          go_ret
          exact ⟨ret_bool (by rw [decide_eq_false (rowsNe_at hlt hlt2 HX.out)]), _, drewN_add _ _ _⟩
      · go_wp2
        go_ret
        exact ⟨ret_bool (by rw [decide_eq_true (rowsEq_take HL.out fun j h1 h2 => HE.out j h1 h2 (by omega))]), _, rfl⟩
  · have hb : ((xs.length : Int) == (ys.length : Int)) = false := by simp; omega
    have hb' : ((xs.length : Int) != (ys.length : Int)) = true := by simp; omega
    have HL := Lib.hid hl
    clear hl
    go_enter Tryd.func15, Tryd.ntmps15
    go_wp2
    go_ret
    exact ⟨ret_bool (by rw [decide_eq_false (fun e => HL.out (by rw [e]))]), 0, rfl⟩

theorem rows_b (v1 v2 : Value) (xs ys : List (List Int)) (w : World) (hr1 : RowsRd w v1 xs) (hr2 : RowsRd w v2 ys) :
    Calls Tryd.prog 15 #[v1, v2] w fun e w' => e = .returned (.bool (decide (xs = ys))) ∧ Below w.heap.size w w' :=
  (rows_any v1 v2 xs ys w hr1 hr2).mono fun _ _ ⟨he, _, hq⟩ => ⟨he, hq ▸ below_drewN' _ _⟩

theorem has_take {xs : List Int} {n : Int} {k : Nat} (hk : k < xs.length) (h : n ∉ xs.take k) (hne : xs[k] ≠ n) : n ∉ xs.take (k + 1) := by
  rw [List.take_succ_eq_append_getElem hk]
  intro hm
  rcases List.mem_append.1 hm with h1 | h1
  · exact h h1
  · exact hne (List.mem_singleton.1 h1).symm

set_option maxRecDepth 100000 in
set_option maxHeartbeats 1000000 in
theorem refHas_any (v : Value) (xs : List Int) (n : Int) (w : World) (hr : Rd w v xs.length (ints xs)) :
    Calls Tryd.prog 80 #[v, .int .i64 n] w fun e w' => e = .returned (.bool (decide (n ∈ xs))) ∧ w = w' := by
  obtain ⟨a1, c1, rfl, hnc1, hcm1, h01, hcell1⟩ := hr
  unfold maxLen at hcm1
  clear h01
  go_enter Tryd.func80, Tryd.ntmps80
  go_wp2
  go_loopw [5] (fun i wr => ∃ k : Nat, k ≤ xs.length ∧ i = .int .i64 k ∧ wr = w ∧ Hid (n ∉ xs.take k)) (fun i _ => xs.length - (intOf i).toNat)
  case atStart => exact ⟨0, by omega, rfl, rfl, by show _ ∉ _; simp⟩
  case round =>
    obtain ⟨k, hk, rfl, rfl, HE⟩ := hrel
    by_cases hlt : k < xs.length
    · obtain ⟨b1, off1, rfl, hb1, hc1⟩ := hcell1 (by omega)
      have hck1 := hc1 k _ (ints_get hlt)
      have hi1 : (k : Int) < (xs.length : Int) := by omega
      by_cases hx : xs[k] = n
      · have hbx : (xs[k] == n) = true := by simp [hx]
        have HX : Hid (n ∈ xs) := by show _ ∈ _; rw [← hx]; exact List.getElem_mem hlt
        clear hx
        go_wp2
        go_ret
        exact ⟨ret_bool (decide_eq_true HX.out).symm, rfl⟩
      · have hbx : (xs[k] == n) = false := by simp [hx]
        have HX := Lib.hid (has_take hlt HE.out hx)
        clear hx
        go_wp2
        go_roundw
        case rel => exact ⟨k + 1, by omega, by go_num, trivial, HX⟩
        case measure => simp [intOf]; omega
    · have e : xs.take k = xs := List.take_of_length_le (by omega)
      rw [e] at HE
      clear e
      go_wp2
      go_ret
      exact ⟨ret_bool (decide_eq_false HE.out).symm, rfl⟩

end Go.Proofs.YtlfinlfmlnclhaaDoor
