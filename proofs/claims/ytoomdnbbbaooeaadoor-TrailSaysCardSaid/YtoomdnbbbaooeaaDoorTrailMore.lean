/- TrailMore returns true for every input: the walk. Conditions: the listed variable holds its handle. -/
import Derived.Test.YtoomdnbbbaooeaaDoorTrailFact
namespace Go.Proofs.YtoomdnbbbaooeaaDoor
open Go.RowKit Gr

/-- what is known where trail.Find finds a way -/
structure GoodWay (n : Nat) (ls : List Ln) (a0 t : Nat) : Prop where
  some : 0 < ls.length
  few : (endsUp ls n).length ≤ 2
  start : startP n ls = (a0 : Int)
  lt : a0 < n
  tlt : t < n
  par : Par n ls a0 t
  join : Joined n ls a0
  ends : (endsUp ls n = [] ∧ t = a0) ∨ (endsUp ls n = [a0, t] ∧ a0 ≠ t)
theorem GoodWay.end {n : Nat} {ls : List Ln} {a0 t : Nat} (h : GoodWay n ls a0 t) (hg : GoodG n ls) : (goSt n ls a0 ls.length).2 = t := way_end hg h.par h.tlt h.lt h.join
theorem find_way (n : Nat) (v : Value) (ls : List Ln) (w : World) (hr : LinesRd w v ls) (hg : GoodG n ls) {a0 t : Nat} (h : GoodWay n ls a0 t) :
    Calls Tryd.prog 13 #[.int .i64 (n : Int), v] w (RetInts w ((wayUp n ls a0 ls.length).map fun (i : Nat) => (i : Int)) .nilIface) :=
  find_ok n v ls w hr hg a0 t h.some h.few h.start h.lt h.tlt h.par h.join
/-- there is a way, or the reason why there is none -/
theorem way_or {n : Nat} {ls : List Ln} (hg : GoodG n ls) : (∃ a0 t, GoodWay n ls a0 t) ∨ (ls.length = 0 ∨ 2 < (endsUp ls n).length) ∨ (0 < ls.length ∧ (endsUp ls n).length ≤ 2 ∧ ∃ a0 : Nat, startP n ls = (a0 : Int) ∧ a0 < n ∧ ¬ Joined n ls a0) := by
  by_cases h0 : 0 < ls.length
  · by_cases h2 : (endsUp ls n).length ≤ 2
    · obtain ⟨a0, hs, ha, _⟩ := start_ok hg h0
      by_cases hj : Joined n ls a0
      · obtain ⟨t, ht, hp, he⟩ := par_start hg h2 hs ha
        exact .inl ⟨a0, t, h0, h2, hs, ha, ht, hp, hj, he⟩
      · exact .inr (.inr ⟨h0, h2, a0, hs, ha, hj⟩)
    · exact .inr (.inl (.inr (by omega)))
  · exact .inr (.inl (.inl (by omega)))
theorem find_none (n : Nat) (v : Value) (ls : List Ln) (w : World) (hr : LinesRd w v ls) (hg : GoodG n ls) (h : (ls.length = 0 ∨ 2 < (endsUp ls n).length) ∨ (0 < ls.length ∧ (endsUp ls n).length ≤ 2 ∧ ∃ a0 : Nat, startP n ls = (a0 : Int) ∧ a0 < n ∧ ¬ Joined n ls a0)) :
    Calls Tryd.prog 13 #[.int .i64 (n : Int), v] w fun e w' => e = .returned (.tuple #[.slice none 0 0, errV 5]) ∧ Below w.heap.size w w' := by
  rcases h with h | ⟨h0, h2, a0, hs, ha, hj⟩
  · exact find_few n v ls w hr hg h
  · exact find_apart n v ls w hr hg a0 h0 h2 hs ha hj

theorem ends_none {n : Nat} {ls : List Ln} (h : ∀ i, i < n → degL ls i % 2 = 0) : endsUp ls n = [] := by
  refine List.eq_nil_iff_forall_not_mem.2 fun i hi => ?_
  obtain ⟨h1, h2⟩ := mem_ends.1 hi
  have := h i h1
  omega

/-- one more line from the first point to the last one: all is even, and the way comes back -/
theorem more_way {n : Nat} {ls : List Ln} {a0 t : Nat} (hg : GoodG n ls) (h : GoodWay n ls a0 t) (hne : a0 ≠ t) (hl : ls.length < 24) :
    GoodG n (ls ++ [((a0 : Int), (t : Int))]) ∧ endsUp (ls ++ [((a0 : Int), (t : Int))]) n = [] ∧ ∃ b, GoodWay n (ls ++ [((a0 : Int), (t : Int))]) b b := by
  have ha := h.lt
  have ht := h.tlt
  have hgA : GoodG n (ls ++ [((a0 : Int), (t : Int))]) := by
    refine ⟨hg.1, hg.2.1, by simp; omega, fun l hl => ?_⟩
    rcases List.mem_append.1 hl with h1 | h1
    · exact hg.2.2.2 l h1
    · obtain rfl := List.mem_singleton.1 h1
      simp only
      omega
  have hev : ∀ i, i < n → degL (ls ++ [((a0 : Int), (t : Int))]) i % 2 = 0 := by
    intro i hi
    have h1 := h.par i hi
    rw [degL_snoc]
    have h2 : ends1 i ((a0 : Int), (t : Int)) = decide (i = a0 ∨ i = t) := by
      rw [Bool.eq_iff_iff, decide_eq_true_iff]
      unfold ends1
      rw [Bool.or_eq_true, beq_iff_eq, beq_iff_eq]
      simp only
      omega
    rw [h2]
    by_cases e1 : i = a0
    · have e2 : i ≠ t := fun e => hne (e1 ▸ e)
      rw [if_pos e1, if_neg e2] at h1
      rw [if_pos (decide_eq_true (.inl e1))]; omega
    · by_cases e2 : i = t
      · rw [if_neg e1, if_pos e2] at h1
        rw [if_pos (decide_eq_true (.inr e2))]; omega
      · rw [if_neg e1, if_neg e2] at h1
        rw [if_neg (by simp [e1, e2])]; omega
  have hE := ends_none hev
  refine ⟨hgA, hE, ?_⟩
  obtain ⟨b, hs, hb, l, hl1, c, hlc⟩ := start_ok hgA (by simp)
  obtain ⟨t', ht', hp', he'⟩ := par_start hgA (by rw [hE]; simp) hs hb
  have htb : t' = b := by
    rcases he' with ⟨_, e⟩ | ⟨e, _⟩
    · exact e
    · rw [hE] at e; cases e
  subst htb
  have hJ0 := (joined_iff hg a0).1 h.join
  have hJA : JoinL (ls ++ [((a0 : Int), (t : Int))]) a0 := by
    intro l hl
    rcases List.mem_append.1 hl with h1 | h1
    · exact (hJ0 l h1).sub (fun x hx => List.mem_append_left _ hx)
    · obtain rfl := List.mem_singleton.1 h1
      have : (((a0 : Int), (t : Int)) : Ln).1.toNat = a0 := by simp
      rw [this]; exact ConnL.refl _ _
  have hab : ConnL (ls ++ [((a0 : Int), (t : Int))]) a0 t' := by
    have h1 := hJA l hl1
    rcases hlc with ⟨e1, e2⟩ | ⟨e1, e2⟩
    · have : l.1.toNat = t' := by omega
      rwa [this] at h1
    · have : l.1.toNat = c := by omega
      rw [this] at h1
      exact h1.step ⟨l, hl1, .inl ⟨e1, e2⟩⟩
  exact ⟨t', by simp, by rw [hE]; simp, hs, hb, hb, hp', (joined_iff hgA t').2 (fun x hx => hab.symm.trans (hJA x hx)), .inl ⟨hE, rfl⟩⟩

theorem cellsOf_one' (ls : List Ln) : ∀ u ∈ cellsOf ls, u.oneCell' = true := by
  intro u hu
  obtain ⟨l, _, hl⟩ := List.mem_flatMap.1 hu
  simp only [List.mem_cons, List.not_mem_nil, or_false] at hl
  rcases hl with rfl | rfl <;> rfl

/-- the ends of the way, as numbers -/
theorem way_first (n : Nat) (ls : List Ln) (a0 m : Nat) : (ints ((wayUp n ls a0 m).map fun (i : Nat) => (i : Int)))[0]? = some (.int .i64 (a0 : Int)) := by
  simp [wayUp, ints, goSt]
theorem way_last (n : Nat) (ls : List Ln) (a0 m : Nat) : (ints ((wayUp n ls a0 m).map fun (i : Nat) => (i : Int)))[m]? = some (.int .i64 (((goSt n ls a0 m).2 : Nat) : Int)) := by
  simp [wayUp, ints]
theorem way_len (n : Nat) (ls : List Ln) (a0 m : Nat) : ((wayUp n ls a0 m).map fun (i : Nat) => (i : Int)).length = m + 1 := by simp [wayUp_length]

set_option maxRecDepth 100000 in
set_option maxHeartbeats 2000000 in
theorem trailMore_none (n : Int) {v : Value} {ls : List Ln} {w : World} (hh : Handle w) (hr : LinesRd w v ls) (q : Nat)
    (KF : ∀ w', LinesRd w' v ls → Calls Tryd.prog 13 #[.int .i64 n, v] w' fun e w'' => e = .returned (.tuple #[.slice none 0 0, errV q]) ∧ Below w'.heap.size w' w'') :
    Calls Tryd.prog 5 #[.int .i64 n, v] w fun e w' => e = .returned (.bool true) ∧ Below w.heap.size w w' := by
  go_enter Tryd.func5, Tryd.ntmps5
  go_wp2_with fail
  refine (trailFact_any _ hh).mono ?_
  rintro e w1 ⟨rfl, hB1⟩
  go_wp2_with fail
  refine (KF _ (hr.later hB1)).mono ?_
  rintro e w2 ⟨rfl, hB2⟩
  have hB := below_c hB1 hB2
  clear KF
  go_wp2
  go_ret
  exact ⟨rfl, hB⟩

set_option maxRecDepth 100000 in
set_option maxHeartbeats 4000000 in
theorem trailMore_ok (n : Nat) {v : Value} {ls : List Ln} {w : World} (hh : Handle w) (hr : LinesRd w v ls) (hg : GoodG n ls) {a0 t : Nat} (hw : GoodWay n ls a0 t) :
    Calls Tryd.prog 5 #[.int .i64 (n : Int), v] w fun e w' => e = .returned (.bool true) ∧ Below w.heap.size w w' := by
  obtain ⟨i0, hi, hz0, hz1, hz2⟩ := info_parts info_line
  have HG := Lib.hid hg
  have HW := Lib.hid hw
  have KF := fun w hr => find_way n v ls w hr hg hw
  have hl24 := hg.2.2.1
  have hlp := hw.some
  have hend := hw.end hg
  have hal := hw.lt
  have htl := hw.tlt
  have hn8 := hg.2.1
  clear hg hw
  obtain ⟨av, cv, rfl, _⟩ := id hr
  go_enter Tryd.func5, Tryd.ntmps5
  go_wp2_with fail
  refine (trailFact_any _ hh).mono ?_
  rintro e w1 ⟨rfl, hB1⟩
  go_wp2_with fail
  refine (KF _ (hr.later hB1)).mono ?_
  rintro e w2 ⟨aw, cw, rfl, ow, hB2⟩
  have hB02 := below_c hB1 hB2
  have rw2 := rd_of_owns ow
  have c0w := way_first n ls a0 ls.length
  have clw := way_last n ls a0 ls.length
  rw [hend] at clw
  rw [way_len] at rw2 ⊢
  obtain ⟨_, _, e, _, _, _, hcx⟩ := id rw2
  cases e
  obtain ⟨bw, ow', rfl, hbw, hcw⟩ := hcx (by omega)
  have y0 := hcw 0 _ c0w
  have yl := hcw ls.length _ clw
  have e0 : ow' + 0 = ow' := rfl
  rw [e0] at y0
  have hcap := rw2.bounds.2
  unfold maxLen at hcap
  clear ow c0w clw hcx hcw e0 KF hend
  have hlz : ((ls.length + 1 : Nat) : Int) = (ls.length : Int) + 1 := by omega
  have wl : IntKind.i64.wrap ((ls.length : Int) + 1 - 1) = (ls.length : Int) := by rw [IntWalk.i64_in _ (by omega)]; omega
  have hne0 : ((ls.length : Int) + 1 == 0) = false := by rw [beq_eq_false_iff_ne]; omega
  have hi1 : (0 : Int) < (ls.length : Int) + 1 := by omega
  have hi2 : (ls.length : Int) < (ls.length : Int) + 1 := by omega
  by_cases h24 : ls.length = 24
  · have hb24 : ((ls.length : Int) == 24) = true := by simp [h24]
    clear h24
    go_wp2
    go_ret
    exact ⟨rfl, hB02⟩
  · have hb24 : ((ls.length : Int) == 24) = false := by rw [beq_eq_false_iff_ne]; omega
    by_cases hat : a0 = t
    · subst hat
      go_wp2
      go_ret
      exact ⟨rfl, hB02⟩
    · have hab : ((a0 : Int) == (t : Int)) = false := by rw [beq_eq_false_iff_ne]; omega
      obtain ⟨hgA, hE, b, hWA⟩ := more_way HG.out HW.out hat (by omega)
      have HGA := Lib.hid hgA
      have HEA := Lib.hid hE
      have HWA := Lib.hid hWA
      have hlA : (ls ++ [((a0 : Int), (t : Int))]).length = ls.length + 1 := by simp
      clear hgA hE hWA hat
      have hr2 := hr.later hB02
      have tok : True := trivial
      go_wp2_with (first
        | (at_builtin; have _t := tok; go_must (refine wpl_appL _ _ _ (AppTo.refl (World.ownsRow_nil w2 w2.heap.size 38 2)) hr2 (cellsOf_length ls) hlp rfl rfl Tryd.underlying22 hi hz0 hz1 hz2 rfl (by decide) rfl rfl (cellsOf_one' _) (by decide) (by omega) (Nat.le_refl _) ?_); intro v3 w3 hA3 hne3 hst3; clear tok; have hs3 := hst3.size)
        | (at_builtin; go_must (refine wpl_app _ _ _ hA3 rfl rfl Tryd.underlying22 hi hz0 hz1 hz2 rfl (by decide) rfl rfl rfl (by simp [Value.oneCell']) (by decide) (by omega) (Nat.le_refl _) ?_); intro v4 w4 hA4 hne4 hst4))
      have hall : LinesRd w4 v4 (ls ++ [((a0 : Int), (t : Int))]) := by
        show Rd w4 v4 (ls ++ [((a0 : Int), (t : Int))]).length (cellsOf (ls ++ [((a0 : Int), (t : Int))]))
        rw [cellsOf_append, List.length_append]
        have := rd_of_owns hA4.own
        simpa [cellsOf] using this
      have hB24 := hst3.trans (hst4.mono (by omega))
      have hB04 := below_c hB02 (hst3.trans hst4)
      have hB24' : Below w2.heap.size w2 w4 := hst3.trans hst4
      have KE := ends_ok n v4 _ w4 hall HGA.out
      rw [HEA.out] at KE
      have KF2 := fun w hr => find_way n v4 _ w hr HGA.out HWA.out
      have hend := HWA.out.end HGA.out
      generalize hAll : ls ++ [((a0 : Int), (t : Int))] = all at *
      clear hAll hA3 hA4 hne3 hne4 hst3 hst4
      refine KE.mono ?_
      rintro e w5 ⟨ae, ce, rfl, oe, hB5⟩
      have hB25 := below_c hB24' hB5
      have hB05 := below_c hB04 hB5
      clear oe KE
      go_wp2_with fail
      refine (KF2 _ (hall.later hB5)).mono ?_
      rintro e w6 ⟨a6, c6, rfl, o6, hB6⟩
      have hB26 := below_c hB25 hB6
      have hB06 := below_c hB05 hB6
      have r6 := rd_of_owns o6
      have f0 := way_first n all b all.length
      have fl := way_last n all b all.length
      rw [hend] at fl
      rw [way_len] at r6 ⊢
      rw [hlA] at r6 fl f0 ⊢
      obtain ⟨_, _, e, _, _, _, hcx⟩ := id r6
      cases e
      obtain ⟨b6, o6', rfl, hb6, hc6⟩ := hcx (by omega)
      have z0 := hc6 0 _ f0
      have zl := hc6 (ls.length + 1) _ fl
      have e0 : o6' + 0 = o6' := rfl
      rw [e0] at z0
      have hcap6 := r6.bounds.2
      unfold maxLen at hcap6
      have wm : IntKind.i64.wrap ((ls.length : Int) + 1 + 1) = (ls.length : Int) + 1 + 1 := IntWalk.i64_in _ (by omega)
      have wm2 : IntKind.i64.wrap ((ls.length : Int) + 1 + 1 - 1) = (ls.length : Int) + 1 := by rw [IntWalk.i64_in _ (by omega)]; omega
      have hj1 : (0 : Int) < (ls.length : Int) + 1 + 1 := by omega
      have hj2 : (ls.length : Int) + 1 < (ls.length : Int) + 1 + 1 := by omega
      have hj3 : (0 : Int) ≤ (ls.length : Int) + 1 := by omega
      have htn : ((ls.length : Int) + 1).toNat = ls.length + 1 := by omega
      have hz1' : ((0 : Int) == 0) = true := rfl
      clear hcx hc6 f0 fl o6 e0 KF2 hend r6 rw2
      go_wp2_with fail
      go_quiet (fail)
      go_wp2
      go_ret
      exact ⟨rfl, below_c hB06 (below_drewN' _ _)⟩

theorem trailMore_any {w : World} (hh : Handle w) (n : Int) {v : Value} {ls : List Ln} (hr : LinesRd w v ls) :
    Calls Tryd.prog 5 #[.int .i64 n, v] w fun e w' => e = .returned (.bool true) ∧ Below w.heap.size w w' := by
  by_cases hc : chk n ls = 0
  · obtain ⟨m, rfl, hg⟩ := good_of hc
    rcases way_or hg with ⟨a0, t, h⟩ | h
    · exact trailMore_ok m hh hr hg h
    · exact trailMore_none m hh hr 5 (fun w' hr' => find_none m v ls w' hr' hg h)
  · exact trailMore_none n hh hr _ (fun w' hr' => find_bad n v ls w' hr' hc)

end Go.Proofs.YtoomdnbbbaooeaaDoor
