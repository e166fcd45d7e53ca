/- The closed fact of the trail laws: the walk. Conditions: the listed variable holds its handle. -/
import Derived.Test.YtoomdnbbbaooeaaDoorTrailQ
import Derived.Test.YtoomdnbbbaooeaaDoorErr
import Derived.Test.YtoomdnbbbaooeaaDoorGraphFact
import Derived.Test.YtoomdnbbbaooeaaDoorLit
namespace Go.Proofs.YtoomdnbbbaooeaaDoor
open Go.RowKit Gr

/-- the three lines of the fact -/
abbrev tf3 : List Ln := [(0, 1), (1, 2), (2, 0)]
theorem tf_good : GoodG 3 tf3 := by
  refine ⟨by decide, by decide, by decide, fun l hl => ?_⟩
  simp only [List.mem_cons, List.not_mem_nil, or_false] at hl
  rcases hl with rfl | rfl | rfl <;> decide
theorem tf_good4 : GoodG 4 [(0, 1), (0, 2), (0, 3)] := by
  refine ⟨by decide, by decide, by decide, fun l hl => ?_⟩
  simp only [List.mem_cons, List.not_mem_nil, or_false] at hl
  rcases hl with rfl | rfl | rfl <;> decide
theorem tf_ends : endsUp tf3 3 = [] := by decide +kernel
theorem tf_ends4 : (endsUp [(0, 1), (0, 2), (0, 3)] 4).length = 4 := by decide +kernel
theorem tf_start : startP 3 tf3 = ((0 : Nat) : Int) := by decide +kernel
theorem tf_join : Joined 3 tf3 0 := by
  rw [joined_iff tf_good]
  have s1 : ConnL tf3 0 1 := (ConnL.refl _ 0).step ⟨(0, 1), by simp, .inl ⟨rfl, rfl⟩⟩
  have s2 : ConnL tf3 0 2 := s1.step ⟨(1, 2), by simp, .inl ⟨rfl, rfl⟩⟩
  intro l hl
  simp only [List.mem_cons, List.not_mem_nil, or_false] at hl
  rcases hl with rfl | rfl | rfl
  · exact ConnL.refl _ _
  · exact s1
  · exact s2
theorem tf_first : CanGo 3 tf3 [false, false, false] 0 0 1 := by
  refine ⟨by decide, rfl, .inl ⟨rfl, rfl⟩, by decide, by decide, ?_⟩
  have e : leftL tf3 ([false, false, false].set 0 true) = [(1, 2), (2, 0)] := by decide +kernel
  rw [e]
  have hg : GoodG 3 [(1, 2), (2, 0)] := by
    refine ⟨by decide, by decide, by decide, fun l hl => ?_⟩
    simp only [List.mem_cons, List.not_mem_nil, or_false] at hl
    rcases hl with rfl | rfl <;> decide
  rw [joined_iff hg]
  intro l hl
  simp only [List.mem_cons, List.not_mem_nil, or_false] at hl
  rcases hl with rfl | rfl
  · exact ConnL.refl _ _
  · exact (ConnL.refl _ 1).step ⟨(1, 2), by simp, .inl ⟨rfl, rfl⟩⟩

theorem tf_way : wayUp 3 tf3 0 3 = [0, 1, 2, 0] := by
  have hpar : Par 3 tf3 0 0 := by
    obtain ⟨t, _, h1, h2⟩ := par_start tf_good (by rw [tf_ends]; decide) tf_start (by decide)
    rcases h2 with ⟨_, rfl⟩ | ⟨h2, _⟩
    · exact h1
    · rw [tf_ends] at h2; cases h2
  have inv := go_inv tf_good hpar (by decide) (by decide) tf_join
  have g0 : goSt 3 tf3 0 0 = ([false, false, false], 0) := rfl
  have i0 := inv 0 (by decide)
  rw [g0] at i0
  obtain ⟨i, b, e, hc, hm⟩ := i0.pick tf_good (by decide) (by decide)
  obtain ⟨m1, m2⟩ := hm 0 1 tf_first
  obtain ⟨_, _, _, hab, _, _⟩ := hc
  simp only at hab
  obtain rfl : b = 1 := by omega
  obtain rfl : i = 0 := by have := m2 rfl; omega
  have g1 : goSt 3 tf3 0 1 = ([true, false, false], 1) := by rw [goSt, g0, e]; rfl
  have i1 := inv 1 (by decide)
  rw [g1] at i1
  obtain ⟨i, b, e, hc, _⟩ := i1.pick tf_good (by decide) (by decide)
  obtain ⟨hi, hu, hl, _, _, _⟩ := hc
  have h1 : i = 1 ∧ b = 2 := by
    have hi3 : i < 3 := hi
    rcases (show i = 0 ∨ i = 1 ∨ i = 2 from by omega) with rfl | rfl | rfl
    · simp at hu
    · rcases hl with ⟨_, h⟩ | ⟨_, h⟩
      · have : (2 : Int) = (b : Int) := h
        exact ⟨rfl, by omega⟩
      · have : (2 : Int) = ((1 : Nat) : Int) := h
        omega
    · exfalso
      rcases hl with ⟨h, _⟩ | ⟨_, h⟩
      · have : (2 : Int) = ((1 : Nat) : Int) := h
        omega
      · have : (0 : Int) = ((1 : Nat) : Int) := h
        omega
  obtain ⟨rfl, rfl⟩ := h1
  have g2 : goSt 3 tf3 0 2 = ([true, true, false], 2) := by rw [goSt, g1, e]; rfl
  have i2 := inv 2 (by decide)
  rw [g2] at i2
  obtain ⟨i, b, e, hc, _⟩ := i2.pick tf_good (by decide) (by decide)
  obtain ⟨hi, hu, hl, _, _, _⟩ := hc
  have h1 : b = 0 := by
    have hi3 : i < 3 := hi
    rcases (show i = 0 ∨ i = 1 ∨ i = 2 from by omega) with rfl | rfl | rfl
    · simp at hu
    · simp at hu
    · rcases hl with ⟨_, h⟩ | ⟨_, h⟩
      · have : (0 : Int) = (b : Int) := h
        omega
      · have : (0 : Int) = ((2 : Nat) : Int) := h
        omega
  subst h1
  have g3 : (goSt 3 tf3 0 3).2 = 0 := by rw [goSt, g2, e]; rfl
  show [(goSt 3 tf3 0 0).2, (goSt 3 tf3 0 1).2, (goSt 3 tf3 0 2).2, (goSt 3 tf3 0 3).2] = _
  rw [g3, g0, g1, g2]

set_option maxRecDepth 100000 in
set_option maxHeartbeats 2000000 in
theorem trailFact_any (w : World) (hh : Handle w) : Calls Tryd.prog 14 #[] w fun e w' => e = .returned (.bool true) ∧ Below w.heap.size w w' := by
  have hpar : Par 3 tf3 0 0 := by
    obtain ⟨t, _, h1, h2⟩ := par_start tf_good (by rw [tf_ends]; decide) tf_start (by decide)
    rcases h2 with ⟨_, rfl⟩ | ⟨h2, _⟩
    · exact h1
    · rw [tf_ends] at h2; cases h2
  have KF := fun v w hr => find_ok 3 v tf3 w hr tf_good 0 0 (by decide) (by rw [tf_ends]; decide) tf_start (by decide) (by decide) hpar tf_join
  have KN := fun v w hr => find_few 4 v [(0, 1), (0, 2), (0, 3)] w hr tf_good4 (.inr (by rw [tf_ends4]; decide))
  have e3 : tf3.length = 3 := rfl
  rw [e3, tf_way] at KF
  clear hpar e3
  go_enter Tryd.func14, Tryd.ntmps14
  go_wp2_with fail
  refine (KF _ _ (lines_lit tf3 rfl rfl rfl (by decide))).mono ?_
  rintro e w1 ⟨a1, c1, rfl, o1, hB1⟩
  have r1 : Rd w1 (.slice a1 4 c1) 4 (ints [0, 1, 2, 0]) := rd_of_owns o1
  have hB1' := below_c (below_alloc' _ _) hB1
  clear o1 hB1
  go_wp2_with fail
  refine (KN _ _ (lines_lit [(0, 1), (0, 2), (0, 3)] rfl rfl rfl (by decide))).mono ?_
  rintro e w2 ⟨rfl, hB2⟩
  have hB12 := below_c (below_alloc' _ _) hB2
  have hB2' := below_c hB1' hB12
  have r2 := r1.later hB12
  clear hB2 r1 hB12
  go_wp2_with fail
  refine (errorV 5 5 _ (by decide) (hh.later hB2')).mono ?_
  rintro e w3 ⟨rfl, hB3⟩
  rw [show decide (((5 : Nat) : Int) = 5) = true from by decide]
  have hB3' := below_c hB2' hB3
  have r3 := r2.later hB3
  go_wp2_with fail
  refine (ints_b _ _ [0, 1, 2, 0] [0, 1, 2, 0] _ (r3.later (below_alloc' _ _)) (ints_lit [0, 1, 2, 0] rfl rfl rfl (by decide))).mono ?_
  rintro e w4 ⟨rfl, hB4⟩
  rw [decide_eq_true rfl]
  have hB4' := below_c hB3' (below_c (below_alloc' _ _) hB4)
  go_wp2
  go_ret
  exact ⟨rfl, hB4'⟩

end Go.Proofs.YtoomdnbbbaooeaaDoor
