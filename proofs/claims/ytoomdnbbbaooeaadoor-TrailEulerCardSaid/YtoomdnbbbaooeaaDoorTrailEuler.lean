/- TrailEuler returns true for every input: the walk. Conditions: the listed variable holds its handle. -/
import Derived.Test.YtoomdnbbbaooeaaDoorTrailMore
import Derived.Test.YtoomdnbbbaooeaaDoorParts
import Derived.Test.YtoomdnbbbaooeaaDoorForestP
namespace Go.Proofs.YtoomdnbbbaooeaaDoor
open Go.RowKit Gr

theorem parts_conn {O : List Nat} {n : Nat} {p : List Int} (hn : n ≤ 8) (hO : Bounded n O) (hs : Symm O) (hp : IsParts O n p) {i j : Nat} (hi : i < n) (hj : j < n) : at1 p i = at1 p j ↔ Conn O i j := by
  obtain ⟨D, hD⟩ := exists_dist hn hO hi
  rw [parts_dist hn hO hs hp hD hi hj]
  exact (dist_conn hD).symm

theorem rd_at1 {w : World} {v : Value} {n : Nat} {xs : List Int} (h : Rd w v n (ints xs)) (hl : xs.length = n) (hn : 0 < n) : ∃ b off c, v = .slice (some ⟨b, off, none⟩) n c ∧ b < w.heap.size ∧ ∀ j, j < n → w.cell? ⟨b, off + j, none⟩ = some (.int .i64 (at1 xs j)) := by
  obtain ⟨a, c, rfl, _, _, _, h5⟩ := h
  obtain ⟨b, off, rfl, hb, hc⟩ := h5 hn
  refine ⟨b, off, c, rfl, hb, fun j hj => ?_⟩
  have hj' : j < xs.length := by omega
  exact hc j _ (by rw [List.getElem?_map, at1_lt hj']; rfl)

/-- all lines lie in one part -/
def OnePart (ls : List Ln) (p : List Int) : Prop := 0 < ls.length ∧ ∀ l ∈ ls, at1 p l.1.toNat = at1 p (ls[0]?.getD (0, 0)).1.toNat

theorem one_part {n : Nat} {ls : List Ln} {p : List Int} (hg : GoodG n ls) (hp : IsParts (beside n ls) n p) (h0 : 0 < ls.length) {a0 : Nat} (hs : startP n ls = (a0 : Int)) : OnePart ls p ↔ Joined n ls a0 := by
  have hO := adj_bounded hg
  have hS : Symm (beside n ls) := fun _ _ h => adj_symm hg h
  have hc : ∀ {i j : Nat}, i < n → j < n → (at1 p i = at1 p j ↔ ConnL ls i j) := fun hi hj => (parts_conn hg.2.1 hO hS hp hi hj).trans (connL_iff hg _ _)
  have hget : ls[0]?.getD (0, 0) ∈ ls := by rw [List.getElem?_eq_getElem h0]; exact List.getElem_mem h0
  generalize hz : ls[0]?.getD (0, 0) = z at hget
  have hin : ∀ l ∈ ls, l.1.toNat < n := fun l hl => by have := hg.2.2.2 l hl; omega
  obtain ⟨a1, hs1, ha, l, hl, b, hlb⟩ := start_ok hg h0
  obtain rfl : a1 = a0 := by omega
  have hal : ConnL ls a1 l.1.toNat := by
    have hbn : b < n := by
      have := hg.2.2.2 l hl
      rcases hlb with ⟨_, e⟩ | ⟨e, _⟩ <;> omega
    rcases hlb with ⟨e1, e2⟩ | ⟨e1, e2⟩
    · have : l.1.toNat = a1 := by omega
      rw [this]; exact ConnL.refl _ _
    · have : l.1.toNat = b := by omega
      rw [this]; exact (ConnL.refl _ _).step ⟨l, hl, .inr ⟨e1, e2⟩⟩
  rw [joined_iff hg]
  unfold OnePart
  rw [hz]
  constructor
  · rintro ⟨_, h⟩ x hx
    have h1 := (hc (hin x hx) (hin z hget)).1 (h x hx)
    have h2 := (hc (hin l hl) (hin z hget)).1 (h l hl)
    exact hal.trans (h2.trans h1.symm)
  · intro h
    exact ⟨h0, fun x hx => (hc (hin x hx) (hin z hget)).2 ((h x hx).symm.trans (h z hget))⟩

set_option maxRecDepth 100000 in
set_option maxHeartbeats 1000000 in
theorem trailEuler_bad (n : Int) {v : Value} {ls : List Ln} {w : World} (hh : Handle w) (hr : LinesRd w v ls) (hc : chk n ls ≠ 0) :
    Calls Tryd.prog 6 #[.int .i64 n, v] w fun e w' => e = .returned (.bool true) ∧ Below w.heap.size w w' := by
  have KE := fun w hr => ends_bad n v ls w hr hc
  have KF := fun w hr => find_bad n v ls w hr hc
  clear hc
  go_enter Tryd.func6, Tryd.ntmps6
  go_wp2_with fail
  refine (trailFact_any _ hh).mono ?_
  rintro e w1 ⟨rfl, hB1⟩
  go_wp2_with fail
  refine (KE _ (hr.later hB1)).mono ?_
  rintro e w2 ⟨rfl, hB2⟩
  have hB02 := below_c hB1 hB2
  go_wp2_with fail
  refine (KF _ (hr.later hB02)).mono ?_
  rintro e w3 ⟨rfl, hB3⟩
  have hB := below_c hB02 hB3
  clear KE KF
  go_wp2
  go_ret
  exact ⟨rfl, hB⟩

set_option maxRecDepth 100000 in
set_option maxHeartbeats 4000000 in
theorem trailEuler_ok (n : Nat) {v : Value} {ls : List Ln} {w : World} (hh : Handle w) (hr : LinesRd w v ls) (hg : GoodG n ls) (er : Value)
    (KF : ∀ w', LinesRd w' v ls → Calls Tryd.prog 13 #[.int .i64 (n : Int), v] w' fun e w'' => ∃ sl, e = .returned (.tuple #[sl, er]) ∧ Below w'.heap.size w' w'')
    (hres : (er = .nilIface ∧ (endsUp ls n).length ≤ 2 ∧ ∀ p, IsParts (beside n ls) n p → OnePart ls p) ∨ (er = errV 5 ∧ ∀ p, IsParts (beside n ls) n p → ¬ (OnePart ls p ∧ (endsUp ls n).length ≤ 2))) :
    Calls Tryd.prog 6 #[.int .i64 (n : Int), v] w fun e w' => e = .returned (.bool true) ∧ Below w.heap.size w w' := by
  have HG := Lib.hid hg
  have HR := Lib.hid hres
  have hl24 := hg.2.2.1
  have hn8 := hg.2.1
  have hn1 := hg.1
  have hev := ends_even hg
  have KE := fun w hr => ends_ok n v ls w hr hg
  have KP := fun w hr => parts_ok n v ls w hr hg
  have hql : ((endsUp ls n).map fun (i : Nat) => (i : Int)).length = (endsUp ls n).length := by simp
  have hel := endsUp_length ls n
  clear hg hres
  obtain ⟨av, cv, rfl, _⟩ := id hr
  go_enter Tryd.func6, Tryd.ntmps6
  go_wp2_with fail
  refine (trailFact_any _ hh).mono ?_
  rintro e w1 ⟨rfl, hB1⟩
  go_wp2_with fail
  refine (KE _ (hr.later hB1)).mono ?_
  rintro e w2 ⟨ae, ce, rfl, oe, hB2⟩
  rw [hql]
  clear oe KE hql
  generalize hq : (endsUp ls n).length = q at *
  have HQ := Lib.hid hq
  clear hq
  have hB02 := below_c hB1 hB2
  go_wp2_with fail
  refine (KF _ (hr.later hB02)).mono ?_
  rintro e w3 ⟨sl, rfl, hB3⟩
  have hB03 := below_c hB02 hB3
  clear KF
  go_wp2_with fail
  refine (KP _ (hr.later hB03)).mono ?_
  rintro e w4 ⟨p, ap, cp, rfl, hp, hrp, hB4⟩
  have hB04 := below_c hB03 hB4
  obtain ⟨bp, op, cp', e, hbp, hcp⟩ := rd_at1 hrp hp.len hn1
  cases e
  have HP := Lib.hid hp
  have HCP := Lib.hid hcp
  have hnn : ((n : Int) != (n : Int)) = false := by simp
  clear KP hp hcp hrp
  go_wp2_with fail
  go_loopw [12, 13] (fun tt kk wr => ∃ (k : Nat) (b : Bool), k ≤ ls.length ∧ kk = .int .i64 k ∧ tt = .bool b ∧ Hid (b = true ↔ 0 < ls.length ∧ ∀ i, (h : i < ls.length) → i < k → at1 p ls[i].1.toNat = at1 p (ls[0]?.getD (0, 0)).1.toNat) ∧ Below w4.heap.size w4 wr) (fun _ kk _ => ls.length - (intOf kk).toNat)
  case atStart =>
    refine ⟨0, decide (0 < ls.length), by omega, rfl, by first | rfl | simp, ?_, Below.refl _ _⟩
    show _ ↔ _
    rw [decide_eq_true_iff]
    exact ⟨fun h => ⟨by omega, fun i _ h => absurd h (by omega)⟩, fun h => by have := h.1; omega⟩
  case round =>
    obtain ⟨k, b, hk, rfl, rfl, HB, hB⟩ := hrel
    by_cases hlt : k < ls.length
    · have hki : (k : Int) < (ls.length : Int) := by omega
      have h0l : (0 : Int) < (ls.length : Int) := by omega
      obtain ⟨_, _, e, _, _, _, hcell⟩ := hr.later (below_c hB04 hB)
      cases e
      obtain ⟨bv, ov, rfl, hbv, hcx⟩ := hcell (by omega)
      obtain ⟨g1, g2⟩ := lines_at hcx hlt
      obtain ⟨z1, z2⟩ := lines_at hcx (show 0 < ls.length by omega)
      have e0 : ov + 0 * 2 = ov := by omega
      rw [e0] at z1
      obtain ⟨x, y, hxy, h1, h2, h3, h4⟩ := good_line HG.out (List.getElem_mem hlt)
      obtain ⟨x', y', hxy', h1', h2', h3', h4'⟩ := good_line HG.out (List.getElem_mem (show 0 < ls.length by omega))
      have hz : (ls[0]?.getD (0, 0)).1.toNat = x' := by rw [List.getElem?_eq_getElem (by omega), hxy']; simp
      rw [hxy] at g1
      rw [hxy'] at z1
      simp only at g1 z1
      have hx3 : (x : Int) < (n : Int) := by omega
      have hx3' : (x' : Int) < (n : Int) := by omega
      have p1 := (hB.cell (p := ⟨bp, op + x, none⟩) hbp).trans (HCP.out x h3)
      have p2 := (hB.cell (p := ⟨bp, op + x', none⟩) hbp).trans (HCP.out x' h3')
      have HN : Hid (∀ c : Bool, (c = true ↔ b = true ∧ at1 p x = at1 p x') → (c = true ↔ 0 < ls.length ∧ ∀ i, (h : i < ls.length) → i < k + 1 → at1 p ls[i].1.toNat = at1 p (ls[0]?.getD (0, 0)).1.toNat)) := fun c hc => by
        have hkx : at1 p ls[k].1.toNat = at1 p x := by rw [hxy]; simp
        rw [hc, HB.out]
        constructor
        · rintro ⟨⟨q1, q2⟩, q3⟩
          refine ⟨q1, fun i hi hik => ?_⟩
          by_cases e : i = k
          · subst e; rw [hkx, hz]; exact q3
          · exact q2 i hi (by omega)
        · rintro ⟨q1, q2⟩
          refine ⟨⟨q1, fun i hi hik => q2 i hi (by omega)⟩, ?_⟩
          have := q2 k hlt (by omega)
          rwa [hkx, hz] at this
      clear hcx hcell g2 z2 hxy hxy' h1 h1'
      generalize at1 p x = px at *
      generalize at1 p x' = px' at *
      cases b with
      | false =>
        have HN2 := Lib.hid (HN.out false (by simp))
        go_wp2
        go_quiet (fail)
        go_wp2
        go_roundw
        case rel => exact ⟨k + 1, false, by omega, by go_num, rfl, HN2, hB.trans ((below_drewN' _ _).mono hB.size)⟩
        case measure => simp [intOf]; omega
      | true =>
        have HN2 := Lib.hid (HN.out (px == px') (by simp))
        go_wp2
        go_quiet (fail)
        go_wp2
        go_roundw
        case rel => exact ⟨k + 1, px == px', by omega, by go_num, rfl, HN2, hB.trans ((below_drewN' _ _).mono hB.size)⟩
        case measure => simp [intOf]; omega
    · obtain rfl : k = ls.length := by omega
      have HB2 : Hid (b = true ↔ OnePart ls p) := by
        show _ ↔ _
        rw [HB.out]
        unfold OnePart
        constructor
        · rintro ⟨q1, q2⟩
          refine ⟨q1, fun l hl => ?_⟩
          obtain ⟨i, hi, rfl⟩ := List.mem_iff_getElem.1 hl
          exact q2 i hi hi
        · rintro ⟨q1, q2⟩
          exact ⟨q1, fun i hi _ => q2 _ (List.getElem_mem hi)⟩
      have hB0 := below_c hB04 hB
      have hqe : ((q : Int) % 2 == 0) = true := by simp; omega
      have hqt : Int.tmod (q : Int) 2 = (q : Int) % 2 := Int.tmod_eq_emod_of_nonneg (by omega)
      rcases HR.out with ⟨rfl, hq2, hone⟩ | ⟨rfl, hno⟩
      · obtain rfl : b = true := HB2.out.2 (hone p HP.out)
        have hqd : decide ((q : Int) ≤ 2) = true := by simp; omega
        clear hone
        go_wp2
        go_ret
        exact ⟨rfl, hB0⟩
      · have hcan : (b && decide ((q : Int) ≤ 2)) = false := by
          cases hb : b with
          | false => rfl
          | true =>
            simp only [Bool.true_and, decide_eq_false_iff_not]
            intro h
            exact hno p HP.out ⟨HB2.out.1 hb, by omega⟩
        clear hno
        cases b with
        | false =>
          clear hcan
          go_wp2_with fail
          refine (errorV 5 5 _ (by decide) (hh.later hB0)).mono ?_
          rintro e w7 ⟨rfl, hB7⟩
          rw [show decide (((5 : Nat) : Int) = 5) = true from by decide]
          have hBf := below_c hB0 hB7
          go_wp2
          go_ret
          exact ⟨rfl, hBf⟩
        | true =>
          have hqd : decide ((q : Int) ≤ 2) = false := by simpa using hcan
          clear hcan
          go_wp2_with fail
          refine (errorV 5 5 _ (by decide) (hh.later hB0)).mono ?_
          rintro e w7 ⟨rfl, hB7⟩
          rw [show decide (((5 : Nat) : Int) = 5) = true from by decide]
          have hBf := below_c hB0 hB7
          go_wp2
          go_ret
          exact ⟨rfl, hBf⟩

theorem trailEuler_any {w : World} (hh : Handle w) (n : Int) {v : Value} {ls : List Ln} (hr : LinesRd w v ls) :
    Calls Tryd.prog 6 #[.int .i64 n, v] w fun e w' => e = .returned (.bool true) ∧ Below w.heap.size w w' := by
  by_cases hc : chk n ls = 0
  · obtain ⟨m, rfl, hg⟩ := good_of hc
    rcases way_or hg with ⟨a0, t, h⟩ | h
    · refine trailEuler_ok m hh hr hg .nilIface (fun w' hr' => (find_way m v ls w' hr' hg h).mono ?_) (.inl ⟨rfl, h.few, fun p hp => (one_part hg hp h.some h.start).2 h.join⟩)
      rintro e w'' ⟨a, c, he, _, hB⟩
      exact ⟨_, he, hB⟩
    · refine trailEuler_ok m hh hr hg (errV 5) (fun w' hr' => (find_none m v ls w' hr' hg h).mono ?_) (.inr ⟨rfl, fun p hp hq => ?_⟩)
      · rintro e w'' ⟨he, hB⟩
        exact ⟨_, he, hB⟩
      · rcases h with (h | h) | ⟨h0, h2, a0, hs, ha, hj⟩
        · have := hq.1.1; omega
        · have := hq.2; omega
        · exact hj ((one_part hg hp h0 hs).1 hq.1)
  · exact trailEuler_bad n hh hr hc

end Go.Proofs.YtoomdnbbbaooeaaDoor
