/- HavelSays returns true for every input: the walk. Conditions: the listed variable holds its handle. -/
import Derived.Test.YtgjkefniknbdeaaDoorRefHavel
namespace Go.Proofs.YtgjkefniknbdeaaDoor
open Go.RowKit Gr

/-- numbers with which nothing is wrong -/
theorem nat_of {xs : List Int} (h : degChk xs = 0) : ∃ (m : Nat) (N : List Nat), xs = N.map (fun (i : Nat) => (i : Int)) ∧ N.length = m + 1 ∧ m ≤ 7 ∧ ∀ x ∈ N, x ≤ 7 := by
  obtain ⟨h1, h2, h3⟩ := degChk_zero.1 h
  have e : (xs.map Int.toNat).map (fun (i : Nat) => (i : Int)) = xs := by
    rw [List.map_map]
    conv => rhs; rw [← List.map_id xs]
    exact List.map_congr_left fun x hx => by have := h3 x hx; show ((x.toNat : Nat) : Int) = x; omega
  refine ⟨xs.length - 1, xs.map Int.toNat, e.symm, by simp; omega, by omega, fun x hx => ?_⟩
  obtain ⟨y, hy, rfl⟩ := List.mem_map.1 hx
  have := h3 y hy
  omega
theorem lines_nil (w : World) : Calls Tryd.prog 12 #[.slice none 0 0, .slice none 0 0] w fun e w' => e = .returned (.bool true) ∧ Below w.heap.size w w' := by
  have := lines_b (.slice none 0 0) (.slice none 0 0) [] [] w (Rd.nil _) (Rd.nil _)
  rwa [decide_eq_true rfl] at this
theorem lines_same (v1 v2 : Value) (L : List Ln) (w : World) (hr1 : LinesRd w v1 L) (hr2 : LinesRd w v2 L) : Calls Tryd.prog 12 #[v1, v2] w fun e w' => e = .returned (.bool true) ∧ Below w.heap.size w w' := by
  have := lines_b v1 v2 L L w hr1 hr2
  rwa [decide_eq_true rfl] at this

set_option maxRecDepth 100000 in
set_option maxHeartbeats 4000000 in
theorem havelSays_bad {w : World} (hh : Handle w) {v : Value} {xs : List Int} (hr : Rd w v xs.length (ints xs)) (hc : degChk xs ≠ 0) :
    Calls Tryd.prog 3 #[v] w fun e w' => e = .returned (.bool true) ∧ Below w.heap.size w w' := by
  have KD := refDegrees_any v xs.length xs w hr rfl
  have KM := make_bad v xs.length xs w hr rfl hc
  have HC := Lib.hid hc
  have hb : (((degChk xs : Nat) : Int) == 0) = false := by rw [beq_eq_false_iff_ne]; omega
  generalize degChk xs = q at *
  obtain ⟨av, cv, rfl, _⟩ := id hr
  clear hc hr
  go_enter Tryd.func3, Tryd.ntmps3
  go_wp2_with fail
  refine KD.mono ?_
  rintro e w' ⟨rfl, rfl⟩
  go_wp2_with fail
  refine KM.mono ?_
  rintro e w' ⟨rfl, rfl⟩
  go_wp2_with fail
  refine (errorSame q _ HC.out hh).mono ?_
  rintro e w2 ⟨rfl, hB2⟩
  go_wp2_with fail
  refine (lines_nil _).mono ?_
  rintro e w3 ⟨rfl, hB3⟩
  have hB := below_c hB2 hB3
  go_wp2
  go_ret
  exact ⟨rfl, hB⟩

set_option maxRecDepth 100000 in
set_option maxHeartbeats 4000000 in
theorem havelSays_ok {w : World} (hh : Handle w) {v : Value} {m : Nat} {N : List Nat} (hr : Rd w v (m + 1) (nats N)) (hN : N.length = m + 1) (hm : m ≤ 7) (h7 : ∀ x ∈ N, x ≤ 7) :
    Calls Tryd.prog 3 #[v] w fun e w' => e = .returned (.bool true) ∧ Below w.heap.size w w' := by
  have hl : (N.map fun (i : Nat) => (i : Int)).length = m + 1 := by simp [hN]
  have hc : degChk (N.map fun (i : Nat) => (i : Int)) = 0 := degChk_zero.2 ⟨by omega, by omega, fun x hx => by
    obtain ⟨y, hy, rfl⟩ := List.mem_map.1 hx
    have := h7 y hy
    omega⟩
  have KD := refDegrees_any v (m + 1) _ w (by rw [← nats_intsH]; exact hr) hl
  rw [hc] at KD
  have KH := refHavel_ok v m N w hr hN hm h7
  have KM := fun w' (hb : Below w.heap.size w w') => make_ok v m N w' (hr.later hb) hN hm h7
  generalize hav (N.sum + 1) N = R at *
  obtain ⟨av, cv, rfl, _⟩ := id hr
  clear hc hr hl hN h7
  go_enter Tryd.func3, Tryd.ntmps3
  go_wp2_with fail
  refine KD.mono ?_
  rintro e w' ⟨rfl, rfl⟩
  go_wp2_with fail
  refine KH.mono ?_
  rintro e w1 (⟨rfl, rfl, hB1⟩ | ⟨L, a1, c1, rfl, rfl, o1, hB1⟩)
  · go_wp2_with fail
    refine (KM _ hB1).mono ?_
    rintro e w2 (⟨_, rfl, hB2⟩ | ⟨_, _, _, e, _⟩)
    · have hB02 := below_c hB1 hB2
      go_wp2_with fail
      refine (errorSame 5 _ (by omega) (hh.later hB02)).mono ?_
      rintro e w3 ⟨rfl, hB3⟩
      have hB03 := below_c hB02 hB3
      go_wp2_with fail
      refine (lines_nil _).mono ?_
      rintro e w4 ⟨rfl, hB4⟩
      have hB04 := below_c hB03 hB4
      go_wp2
      go_ret
      exact ⟨rfl, hB04⟩
    · cases e
  · go_wp2_with fail
    refine (KM _ hB1).mono ?_
    rintro e w2 (⟨e, _⟩ | ⟨L', a2, c2, e, rfl, o2, hB2⟩)
    · cases e
    · cases e
      have hB02 := below_c hB1 hB2
      have r1 : LinesRd w2 (.slice a1 L.length c1) L := (rd_of_owns o1).later hB2
      have r2 : LinesRd w2 (.slice a2 L.length c2) L := rd_of_owns o2
      clear o1 o2
      go_wp2_with fail
      refine (errorNone _ (hh.later hB02)).mono ?_
      rintro e w3 ⟨rfl, hB3⟩
      have hB03 := below_c hB02 hB3
      go_wp2_with fail
      refine (lines_same _ _ L _ (r2.later hB3) (r1.later hB3)).mono ?_
      rintro e w4 ⟨rfl, hB4⟩
      have hB04 := below_c hB03 hB4
      go_wp2
      go_ret
      exact ⟨rfl, hB04⟩

theorem havelSays_any {w : World} (hh : Handle w) {v : Value} {xs : List Int} (hr : Rd w v xs.length (ints xs)) :
    Calls Tryd.prog 3 #[v] w fun e w' => e = .returned (.bool true) ∧ Below w.heap.size w w' := by
  by_cases hc : degChk xs = 0
  · obtain ⟨m, N, rfl, hN, hm, h7⟩ := nat_of hc
    rw [← nats_intsH, List.length_map, hN] at hr
    exact havelSays_ok hh hr hN hm h7
  · exact havelSays_bad hh hr hc
end Go.Proofs.YtgjkefniknbdeaaDoor
