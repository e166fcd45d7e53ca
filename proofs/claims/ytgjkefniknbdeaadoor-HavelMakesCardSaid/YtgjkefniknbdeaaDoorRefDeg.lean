/- What R.All, R.Set, R.Degrees return; errors that are as told: the walks. Conditions: in each statement. -/
import Derived.Test.YtgjkefniknbdeaaDoorDegSort
import Derived.Test.YtgjkefniknbdeaaDoorRefLines
import Derived.Test.YtgjkefniknbdeaaDoorRowEq
import Derived.Test.YtgjkefniknbdeaaDoorErr
import Derived.Test.YtgjkefniknbdeaaDoorLinesEq
namespace Go.Proofs.YtgjkefniknbdeaaDoor
open Go.RowKit Gr
open El (allIn)

set_option maxHeartbeats 400000 in
theorem refAll_any (v : Value) (n : Nat) (xs : List Int) (lo hi : Int) (w : World) (hr : Rd w v n (ints xs)) (hx : xs.length = n) :
    Calls Tryd.prog 27 #[v, .int .i64 lo, .int .i64 hi] w fun e w' => e = .returned (.bool (allIn xs lo hi)) ∧ w = w' := by
  obtain ⟨a, c, rfl, hnc, hcm, h0, hcell⟩ := hr
  unfold maxLen at hcm
  have HX := Lib.hid hx
  have H0 := Lib.hid h0
  clear hx h0
  go_enter Tryd.func27, Tryd.ntmps27
  go_wp2
  go_loop [7] (fun i => ∃ k : Nat, k ≤ n ∧ i = .int .i64 k ∧ allIn (xs.take k) lo hi = true) (fun i => n - (intOf i).toNat)
  case atStart => exact ⟨0, by omega, rfl, rfl⟩
  case round =>
    obtain ⟨k, hk, rfl, hall⟩ := hrel
    have HA := Lib.hid hall
    clear hall
    by_cases hlt : k < n
    · obtain ⟨b, off, rfl, hb, hc⟩ := hcell (by omega)
      have hkx : k < xs.length := by rw [HX.out]; exact hlt
      have hck := hc k _ (ints_get hkx)
      by_cases hin : lo ≤ xs[k] ∧ xs[k] ≤ hi
      · have hd := Lib.hid (decide_eq_true hin)
        go_wp2_with fail
        refine (refIn_any _ _ _ _).mono ?_
        rintro e w' ⟨rfl, rfl⟩
        rw [hd.out]
        go_wp2
        go_round
        case rel => exact ⟨k + 1, by omega, by go_num, allIn_take_succ xs lo hi k hkx HA.out hin⟩
        case measure => simp [intOf]; omega
      · have hd := Lib.hid (decide_eq_false hin)
        have hin' := Lib.hid hin
        clear hin
        go_wp2_with fail
        refine (refIn_any _ _ _ _).mono ?_
        rintro e w' ⟨rfl, rfl⟩
        rw [hd.out]
        go_wp2
        go_ret
        exact ⟨ret_bool (allIn_false xs lo hi k hkx hin'.out).symm, rfl⟩
    · go_wp2
      go_ret
      exact ⟨by rw [← HA.out, List.take_of_length_le (by rw [HX.out]; omega)]; rfl, rfl⟩

/-- a new list is handed back -/
def RetRw (w : World) (xs : List Int) (e : Ending) (w' : World) : Prop :=
  ∃ a c, e = .returned (.slice a xs.length c) ∧ w'.ownsRow w.heap.size 3 1 (.slice a xs.length c) xs.length (ints xs) ∧ Below w.heap.size w w'
theorem RetRw.mk {w : World} {xs : List Int} {e : Ending} {w' : World} {v' : Value} {n : Nat} (he : e = .returned v') (h : w'.ownsRow w.heap.size 3 1 v' n (ints xs)) (hn : n = xs.length) (hb : Below w.heap.size w w') : RetRw w xs e w' := by
  subst hn
  obtain ⟨a, c, rfl⟩ := owns_slice h
  exact ⟨a, c, he, h, hb⟩
theorem ints_setR (xs : List Int) (k : Nat) (x : Int) : (ints xs).set k (.int .i64 x) = ints (xs.set k x) := by simp [ints, List.map_set]

set_option maxRecDepth 100000 in
set_option maxHeartbeats 1000000 in
theorem refSet_any (v : Value) (xs : List Int) (i : Nat) (x : Int) (w : World) (hr : Rd w v xs.length (ints xs)) (hi : i < xs.length) (hl : xs.length ≤ 100000) :
    Calls Tryd.prog 28 #[v, .int .i64 (i : Int), .int .i64 x] w (RetRw w (xs.set i x)) := by
  obtain ⟨i0, hin, hz0, hz1, hz2⟩ := info_parts info_int
  have hp : 0 < xs.length := by omega
  have hr' := hr
  obtain ⟨a, c, rfl, hnc, hcm, _, _⟩ := hr'
  have hii : (i : Int) < (xs.length : Int) := by omega
  go_enter Tryd.func28, Tryd.ntmps28
  go_wp2_with (at_builtin; refine wpl_appL _ _ _ (AppTo.refl (World.ownsRow_nil w w.heap.size 3 1)) hr (by simp [ints]) hp rfl rfl Tryd.underlying22 hin hz0 hz1 hz2 rfl (by decide) rfl rfl (ints_one _) (by decide) (by omega) (Nat.le_refl _) ?_; intro v1 w1 hA1 hne1 hst1; have ho := hA1.own; rw [Nat.zero_add, List.nil_append] at ho; obtain ⟨g, cap, rfl⟩ := owns_pos ho hp; have hcx := owns_at ho (ints_get (k := i) hi); have hfx := ho.frozenAt i; have HO := Lib.hid (ho.stored i (.int .i64 x)).1; have HB := Lib.hid (hA1.of_nil.setCell (p := ⟨g, i, none⟩) (ho.lt g rfl).1 (.int .i64 x)); clear ho hA1 hr)
  go_ret
  have h := HO.out
  rw [ints_setR] at h
  exact RetRw.mk rfl h (by simp) HB.out

set_option maxHeartbeats 1000000 in
theorem refDegrees_any (v : Value) (n : Nat) (xs : List Int) (w : World) (hr : Rd w v n (ints xs)) (hx : xs.length = n) :
    Calls Tryd.prog 8 #[v] w fun e w' => e = .returned (.int .i64 ((degChk xs : Nat) : Int)) ∧ w = w' := by
  have KA := refAll_any v n xs 0 7 w hr hx
  have HD : Hid (degChk xs = if n = 0 then 5 else if 8 < n then 4 else if allIn xs 0 7 = true then 0 else 1) := by show _ = _; unfold degChk; rw [hx]
  obtain ⟨a, c, rfl, _⟩ := hr
  clear hx
  go_enter Tryd.func8, Tryd.ntmps8
  by_cases h0 : n = 0
  · have hl0 : ((n : Int) == 0) = true := by simp [h0]
    have HE : Hid (degChk xs = 5) := by show _ = _; rw [HD.out, if_pos h0]
    clear h0 KA
    go_wp2
    go_ret
    exact ⟨by rw [HE.out]; rfl, rfl⟩
  · have hl0 : ((n : Int) == 0) = false := by rw [beq_eq_false_iff_ne]; omega
    by_cases h8 : 8 < n
    · have hd : decide ((n : Int) > 8) = true := by simp; omega
      have HE : Hid (degChk xs = 4) := by show _ = _; rw [HD.out, if_neg h0, if_pos h8]
      clear h0 KA h8
      go_wp2
      go_ret
      exact ⟨by rw [HE.out]; rfl, rfl⟩
    · have hd : decide ((n : Int) > 8) = false := by simp; omega
      have HE : Hid (degChk xs = if allIn xs 0 7 = true then 0 else 1) := by show _ = _; rw [HD.out, if_neg h0, if_neg h8]
      clear h0 h8
      cases hall : allIn xs 0 7
      all_goals
        rw [hall] at KA HE
        go_wp2_with fail
        refine KA.mono ?_
        rintro e w' ⟨rfl, rfl⟩
        go_wp2
        go_ret
        exact ⟨by rw [HE.out]; rfl, rfl⟩

theorem ints_same' (v1 v2 : Value) (xs : List Int) (w : World) (hr1 : Rd w v1 xs.length (ints xs)) (hr2 : Rd w v2 xs.length (ints xs)) :
    Calls Tryd.prog 15 #[v1, v2] w fun e w' => e = .returned (.bool true) ∧ Below w.heap.size w w' := by
  have := ints_b v1 v2 xs xs w hr1 hr2
  rwa [decide_eq_true rfl] at this

theorem ints_nil (w : World) : Calls Tryd.prog 15 #[.slice none 0 0, .slice none 0 0] w fun e w' => e = .returned (.bool true) ∧ Below w.heap.size w w' := ints_same' _ _ [] w (Rd.nil _) (Rd.nil _)

theorem errorSame (q : Nat) (w : World) (hk : q ≠ 0) (hh : Handle w) : Calls Tryd.prog 11 #[errV q, .int .i64 (q : Int)] w fun r w' => r = .returned (.bool true) ∧ Below w.heap.size w w' := by
  have := errorV q q w hk hh
  rwa [decide_eq_true rfl] at this

theorem errorNone (w : World) (hh : Handle w) : Calls Tryd.prog 11 #[.nilIface, .int .i64 0] w fun r w' => r = .returned (.bool true) ∧ Below w.heap.size w w' := by
  have := errorNil 0 w hh
  rwa [decide_eq_true rfl] at this

theorem errorSome (q : Nat) (w : World) (hh : Handle w) : Calls Tryd.prog 11 #[errOf q, .int .i64 (q : Int)] w fun r w' => r = .returned (.bool true) ∧ Below w.heap.size w w' := by
  have := errorIs q q w hh
  rwa [decide_eq_true rfl] at this
end Go.Proofs.YtgjkefniknbdeaaDoor
