/- What gaps.Check, gaps.Write, gaps.Read return: the walks. Conditions: in each statement. -/
import Derived.Test.YtnnhidbnjlpjiaaEliasF
import Derived.Test.YtnnhidbnjlpjiaaEliasBack
import Derived.Test.YtnnhidbnjlpjiaaGapsP
namespace Go.Proofs.Ytnnhidbnjlpjiaa
open Go.RowKit
open El (at0 gAt gapsErr GapsOk lastOf)

theorem rd_cells0 {w : World} {n : Nat} {a : Option Addr} {c : Nat} {d : List Int} (h : Rd w (.slice a n c) n (ints d)) (hl : d.length = n) (hn : 0 < n) :
    ∃ b off, a = some ⟨b, off, none⟩ ∧ n ≤ c ∧ c ≤ 9223372036854775807 ∧ b < w.heap.size ∧ ∀ i, i < n → w.cell? ⟨b, off + i, none⟩ = some (.int .i64 (at0 d i)) := by
  obtain ⟨_, _, hv, h1, h2, _, hcell⟩ := h
  cases hv
  unfold maxLen at h2
  obtain ⟨b, off, rfl, hblt, hcl⟩ := hcell hn
  refine ⟨b, off, rfl, h1, by omega, hblt, fun i hi => ?_⟩
  have hid : i < d.length := by omega
  rw [hcl i _ (ints_get hid), El.at0_lt hid]
theorem rd_form {w : World} {v : Value} {n : Nat} {cs : List Value} (h : Rd w v n cs) : ∃ a c, v = .slice a n c ∧ n ≤ c ∧ c ≤ 9223372036854775807 := by
  obtain ⟨a, c, rfl, h1, h2, _⟩ := h; unfold maxLen at h2; exact ⟨a, c, rfl, h1, by omega⟩

set_option maxRecDepth 100000 in
set_option maxHeartbeats 1000000 in
theorem gapsCheck_any (v : Value) (xs : List Int) (w : World) (hr : Rd w v xs.length (ints xs)) :
    Calls Try.prog 28 #[v] w fun e w' => e = .returned (errOf (gapsErr xs)) ∧ w = w' := by
  obtain ⟨a, c, rfl, hc1, hc2⟩ := rd_form hr
  by_cases h30 : 30 < xs.length
  · have HE : Hid (errOf (gapsErr xs) = errV 4) := by show _ = _; unfold gapsErr; rw [if_pos h30]; rfl
    have h30' : 30 < (xs.length : Int) := by omega
    go_enter Try.func28, Try.ntmps28
    go_wp2
    go_ret
    exact ⟨ret_val HE.out.symm, rfl⟩
  · have h30' : ¬ 30 < (xs.length : Int) := by omega
    have HE : Hid (gapsErr xs = El.firstErr (gAt xs) xs.length) := by show _ = _; unfold gapsErr; rw [if_neg h30]
    go_enter Try.func28, Try.ntmps28
    go_wp2_with fail
    go_loopw [11] (fun i wr => ∃ k : Nat, k ≤ xs.length ∧ i = .int .i64 k ∧ wr = w ∧ Hid (∀ j, j < k → gAt xs j = 0)) (fun i _ => xs.length - (intOf i).toNat)
    case atStart => exact ⟨0, by omega, rfl, rfl, fun j hj => by omega⟩
    case round =>
      obtain ⟨k, hk, rfl, rfl, HA⟩ := hrel
      by_cases hlt : k < xs.length
      · have hki : (k : Int) < (xs.length : Int) := by omega
        obtain ⟨b, off, rfl, _, _, hb, hcx⟩ := rd_cells0 hr rfl (by omega)
        have hck := hcx k hlt
        by_cases hin : 0 ≤ at0 xs k ∧ at0 xs k ≤ 999999
        · have HI := Lib.hid (decide_eq_true hin)
          rcases Nat.eq_zero_or_pos k with h0 | h0
          · have HZ : Hid (∀ j, j < k + 1 → gAt xs j = 0) := fun j hj => by
              have : j = k := by omega
              subst this
              unfold gAt; rw [if_neg (fun h => h hin), if_neg (by omega)]
            subst h0
            rw [Nat.add_zero] at hck
            have hk0 : ¬ (0 : Int) < 0 := by omega
            clear hcx hin
            go_wp2_with fail
            refine (within_any _ _ _ _).mono ?_
            rintro e w' ⟨rfl, rfl⟩
            rw [HI.out]
            go_wp2
            go_roundw
            case rel => exact ⟨1, by omega, by go_num, trivial, HZ⟩
            case measure => simp [intOf]; omega
          · obtain ⟨j, rfl⟩ : ∃ j, k = j + 1 := ⟨k - 1, by omega⟩
            have hcj := hcx j (by omega)
            have hji : (j : Int) < (xs.length : Int) := by omega
            have hjp : 0 < ((j + 1 : Nat) : Int) := by omega
            have wj : IntKind.i64.wrap (((j + 1 : Nat) : Int) - 1) = (j : Int) := by rw [IntWalk.i64_in _ (by omega)]; omega
            have wj2 : IntKind.i64.wrap ((j : Int) + 1 - 1) = (j : Int) := by rw [IntWalk.i64_in _ (by omega)]; omega
            clear hcx
            by_cases hge : at0 xs j ≥ at0 xs (j + 1)
            · have HZ : Hid (errOf (gapsErr xs) = errV 3) := by
                have e : gAt xs (j + 1) = 3 := by unfold gAt; rw [if_neg (fun h => h hin), if_pos ⟨by omega, hge⟩]
                show _ = _
                rw [HE.out, El.firstErr_at HA.out hlt (by rw [e]; decide), e]; rfl
              clear hin
              generalize at0 xs (j + 1) = x at *
              generalize at0 xs j = y at *
              have e1 : decide (y ≥ x) = true := by simp; omega
              go_wp2_with fail
              refine (within_any _ _ _ _).mono ?_
              rintro e w' ⟨rfl, rfl⟩
              rw [HI.out]
              go_wp2
              go_ret
              exact ⟨ret_val HZ.out.symm, rfl⟩
            · have HZ : Hid (∀ i, i < j + 1 + 1 → gAt xs i = 0) := fun i hi => by
                by_cases e : i = j + 1
                · subst e
                  unfold gAt; rw [if_neg (fun h => h hin), if_neg (fun h => hge h.2)]
                · exact HA.out i (by omega)
              clear hin
              generalize at0 xs (j + 1) = x at *
              generalize at0 xs j = y at *
              have e1 : decide (y ≥ x) = false := by simp; omega
              go_wp2_with fail
              refine (within_any _ _ _ _).mono ?_
              rintro e w' ⟨rfl, rfl⟩
              rw [HI.out]
              go_wp2
              go_roundw
              case rel => exact ⟨j + 1 + 1, by omega, by go_num, trivial, HZ⟩
              case measure => simp [intOf]; omega
        · have HI := Lib.hid (decide_eq_false hin)
          have HZ : Hid (errOf (gapsErr xs) = errV 1) := by
            have e : gAt xs k = 1 := by unfold gAt; rw [if_pos hin]
            show _ = _
            rw [HE.out, El.firstErr_at HA.out hlt (by rw [e]; decide), e]; rfl
          clear hin hcx
          go_wp2_with fail
          refine (within_any _ _ _ _).mono ?_
          rintro e w' ⟨rfl, rfl⟩
          rw [HI.out]
          go_wp2
          go_ret
          exact ⟨ret_val HZ.out.symm, rfl⟩
      · have HZ : Hid (errOf (gapsErr xs) = .nilIface) := by
          show _ = _
          rw [HE.out, El.firstErr_zero (fun j hj => HA.out j (by omega))]; rfl
        go_wp2
        go_ret
        exact ⟨ret_val HZ.out.symm, rfl⟩

theorem gerr_pos {xs : List Int} (h : gapsErr xs ≠ 0) : errOf (gapsErr xs) = errV (gapsErr xs) := by unfold errOf; rw [if_neg h]

set_option maxRecDepth 100000 in
set_option maxHeartbeats 1000000 in
theorem gapsWrite_bad (v : Value) (xs : List Int) (w : World) (hr : Rd w v xs.length (ints xs)) (he : gapsErr xs ≠ 0) :
    Calls Try.prog 17 #[v] w fun e w' => e = .returned (.tuple #[.slice none 0 0, errV (gapsErr xs)]) ∧ w = w' := by
  have HE := Lib.hid (gerr_pos he)
  clear he
  go_enter Try.func17, Try.ntmps17
  go_wp2_with fail
  refine (gapsCheck_any _ xs _ hr).mono ?_
  rintro e w' ⟨rfl, rfl⟩
  rw [HE.out]
  go_wp2
  go_ret2
  exact ⟨rfl, rfl⟩

set_option maxRecDepth 100000 in
set_option maxHeartbeats 2000000 in
theorem gapsWrite_ok (v : Value) (xs : List Int) (w : World) (hr : Rd w v xs.length (ints xs)) (hg : GapsOk xs) :
    Calls Try.prog 17 #[v] w fun e w' => ∃ a c, e = .returned (.tuple #[.slice a (El.writeG xs).length c, .nilIface]) ∧ w'.ownsRow w.heap.size 3 1 (.slice a (El.writeG xs).length c) (El.writeG xs).length (ints (El.writeG xs)) ∧ Below w.heap.size w w' := by
  obtain ⟨i0, hi, hz0, hz1, hz2⟩ := info_parts info_int
  obtain ⟨a, c, rfl, hc1, hc2⟩ := rd_form hr
  have HE : Hid (errOf (gapsErr xs) = .nilIface) := by show _ = _; rw [El.gapsErr_ok hg]; rfl
  have HG := Lib.hid hg
  have hl30 := hg.len
  have wl : IntKind.i64.wrap ((xs.length : Int) + 1) = (xs.length : Int) + 1 := IntWalk.i64_in _ (by omega)
  clear hg
  go_enter Try.func17, Try.ntmps17
  go_wp2_with fail
  refine (gapsCheck_any _ xs _ hr).mono ?_
  rintro e w' ⟨rfl, rfl⟩
  rw [HE.out]
  go_wp2_with fail
  first | rw [wl] | skip
  refine (Delta_in _ _ (by omega) (by omega)).mono ?_
  rintro e w1 ⟨a1, c1, rfl, ho1, hB1⟩
  go_wp2_with fail
  go_loopw [5, 6, 26] (fun la o i wr => ∃ k : Nat, k ≤ xs.length ∧ i = .int .i64 k ∧ la = .int .i64 (lastOf xs k) ∧ wr.ownsRow w.heap.size 3 1 o (El.deltas (((xs.length : Int) + 1) :: El.diffs (-1) (xs.take k))).length (ints (El.deltas (((xs.length : Int) + 1) :: El.diffs (-1) (xs.take k)))) ∧ Below w.heap.size w wr) (fun _ _ i _ => xs.length - (intOf i).toNat)
  case atStart =>
    refine ⟨0, by omega, rfl, by simp [lastOf], ?_, hB1⟩
    have e : El.deltas (((xs.length : Int) + 1) :: El.diffs (-1) (xs.take 0)) = El.delta ((xs.length : Int) + 1).toNat := by simp [El.deltas, El.diffs]
    rw [e]; exact ho1
  case round =>
    obtain ⟨k, hk, rfl, rfl, ho, hB⟩ := hrel
    by_cases hlt : k < xs.length
    · have hki : (k : Int) < (xs.length : Int) := by omega
      obtain ⟨b, off, rfl, _, _, hb, hcx⟩ := rd_cells0 hr rfl (by omega)
      have hck := (hB.cell (p := ⟨b, off + k, none⟩) hb).trans (hcx k hlt)
      obtain ⟨g1, g2⟩ := El.gap_in HG.out hlt
      obtain ⟨g3, g4, _⟩ := El.gAt_zero (HG.out.all k hlt)
      have HD := Lib.hid (El.diffs_take hlt)
      have HL : Hid (lastOf xs (k + 1) = at0 xs k) := by show _ = _; unfold lastOf; rw [if_neg (by omega)]; rfl
      have hsh := El.deltas_short (((xs.length : Int) + 1) :: El.diffs (-1) (xs.take k)) (by
        intro x hx
        rcases List.mem_cons.1 hx with rfl | h
        · omega
        · exact El.diffs_in HG.out k hk x h)
      have hl2 : (((xs.length : Int) + 1) :: El.diffs (-1) (xs.take k)).length ≤ 32 := by simp [El.diffs_length]; omega
      have wd : IntKind.i64.wrap (at0 xs k - lastOf xs k) = at0 xs k - lastOf xs k := IntWalk.i64_in _ (by omega)
      have HOUT : Hid (El.deltas (((xs.length : Int) + 1) :: El.diffs (-1) (xs.take (k + 1))) = El.deltas (((xs.length : Int) + 1) :: El.diffs (-1) (xs.take k)) ++ El.delta (at0 xs k - lastOf xs k).toNat) := by
        show _ = _
        rw [HD.out]; simp [El.deltas]
      generalize El.deltas (((xs.length : Int) + 1) :: El.diffs (-1) (xs.take k)) = out at *
      clear hcx
      generalize hx : at0 xs k = x at *
      generalize hy : lastOf xs k = y at *
      go_wp2_with fail
      first | rw [wd] | skip
      refine (Delta_in _ _ g1 g2).mono ?_
      rintro e w2 ⟨a2, c2, rfl, ho2, hB2⟩
      have hor := owns_later ho hB2
      have hr2 := rd_of_owns ho2
      have hpd := El.delta_pos (x - y).toNat
      have hsd := El.delta_short (show (x - y).toNat ≤ 1000000 by omega)
      have hB3 := below_c hB hB2
      have hs3 := hB3.size
      clear ho hB2 hB
      go_wp2_with (at_builtin; go_must (refine wpl_appL _ _ _ (AppTo.refl hor) hr2 (by simp [ints]) hpd rfl rfl Try.underlying26 hi hz0 hz1 hz2 rfl (by decide) rfl rfl (ints_one _) (by decide) (by omega) hs3 ?_); intro v4 w4 hA4 hne4 hst4)
      go_roundw
      case rel => exact ⟨k + 1, by omega, by go_num, by rw [HL.out], by rw [HOUT.out, List.length_append]; simpa [ints] using hA4.own, hB3.trans hst4⟩
      case measure => simp [intOf]; omega
    · have e : xs.take k = xs := List.take_of_length_le (by omega)
      rw [e] at ho
      have ho' : wr.ownsRow w.heap.size 3 1 _ (El.writeG xs).length (ints (El.writeG xs)) := ho
      obtain ⟨ao, co, rfl⟩ := owns_slice ho'
      clear ho e
      go_wp2
      go_ret2
      exact ⟨_, _, rfl, ho', hB⟩

namespace El
/-- the first k sums -/
def sums (last : Int) (l : List Int) (k : Nat) : Int := last + (l.take k).sum
theorem sums_succ {last : Int} {l : List Int} {k : Nat} (h : k < l.length) : sums last l (k + 1) = sums last l k + at0 l k := by
  unfold sums; rw [List.take_succ_eq_append_getElem h, List.sum_append, at0_lt h]; simp; omega
/-- the sums of the first k, if none is too great -/
theorem sumsUp_take (l : List Int) (p : Int) : ∀ k, k ≤ l.length → (∀ j, j < k → sums p l (j + 1) < 1000000) → sumsUp p l = (sumsUp (sums p l k) (l.drop k)).map (((List.range k).map fun j => sums p l (j + 1)) ++ ·) := by
  intro k
  induction k with
  | zero => intro _ _; simp [sums]
  | succ k ih =>
    intro hk h
    rw [ih (by omega) (fun j hj => h j (by omega))]
    have hlt : k < l.length := by omega
    have h1 := h k (by omega)
    rw [List.drop_eq_getElem_cons hlt]
    have e : sums p l k + l[k] = sums p l (k + 1) := by rw [sums_succ hlt, at0_lt hlt]
    simp only [sumsUp, e]
    rw [if_neg (by omega), List.range_succ]
    cases sumsUp (sums p l (k + 1)) (l.drop (k + 1)) <;> simp
theorem sumsUp_stop (l : List Int) (p : Int) (k : Nat) (hk : k < l.length) (h : ∀ j, j < k → sums p l (j + 1) < 1000000) (h2 : 1000000 ≤ sums p l (k + 1)) : sumsUp p l = none := by
  rw [sumsUp_take l p k (by omega) h, List.drop_eq_getElem_cons hk]
  have e : sums p l k + l[k] = sums p l (k + 1) := by rw [sums_succ hk, at0_lt hk]
  simp only [sumsUp, e]
  rw [if_pos h2]; rfl
theorem sumsUp_end (l : List Int) (p : Int) (h : ∀ j, j < l.length → sums p l (j + 1) < 1000000) : sumsUp p l = some ((List.range l.length).map fun j => sums p l (j + 1)) := by
  rw [sumsUp_take l p l.length (Nat.le_refl _) h]; simp [sumsUp]
theorem errOfOut (e : Nat) (l : List Int) (o : List Int × Nat) (h : o = (l, e)) : o.2 = e ∧ o.1 = l := by subst h; exact ⟨rfl, rfl⟩
end El
open El (sums)

set_option maxRecDepth 100000 in
set_option maxHeartbeats 2000000 in
theorem gapsRead_any (v : Value) (xs : List Int) (w : World) (hr : Rd w v xs.length (ints xs)) (hc : El.chk xs = 0) (hn : ∀ x ∈ (El.ReadDelta xs).1, 1 ≤ x ∧ x ≤ 1000000) (hn2 : (El.ReadDelta xs).1.length ≤ 600) :
    Calls Try.prog 18 #[v] w (RetInts w (El.readGaps xs).1 (errOf (El.readGaps xs).2)) := by
  obtain ⟨i0, hi, hz0, hz1, hz2⟩ := info_parts info_int
  generalize hrd : El.ReadDelta xs = R at *
  obtain ⟨all, ed⟩ := R
  simp only at hn hn2
  by_cases he : ed = 0
  · subst he
    have HRG : Hid (El.readGaps xs = El.gapsOf all) := by show _ = _; unfold El.readGaps; rw [hrd]; rfl
    have HRD := Lib.hid hrd
    clear hrd
    go_enter Try.func18, Try.ntmps18
    go_wp2_with fail
    refine (ReadDelta_ok _ xs _ hr hc).mono ?_
    rw [HRD.out]
    rintro e w1 ⟨a1, c1, rfl, ho1, hB1⟩
    simp only [errOf, if_true]
    simp only at ho1
    have hra := rd_of_owns ho1
    by_cases h0 : all.length = 0
    · have HG : Hid (El.readGaps xs = ([], 5)) := by show _ = _; rw [HRG.out, El.gapsOf, if_pos h0]
      rw [h0]
      go_wp2
      go_ret2
      rw [HG.out]
      exact RetInts.mk rfl (World.ownsRow_nil _ _ _ _) rfl hB1
    · have h0' : ((all.length : Int) == 0) = false := by rw [beq_eq_false_iff_ne]; omega
      by_cases h31 : 31 < all.length
      · have HG : Hid (El.readGaps xs = ([], 4)) := by show _ = _; rw [HRG.out, El.gapsOf, if_neg h0, if_pos h31]
        have h31' : 31 < (all.length : Int) := by omega
        go_wp2
        go_ret2
        rw [HG.out]
        exact RetInts.mk rfl (World.ownsRow_nil _ _ _ _) rfl hB1
      · have h31' : ¬ 31 < (all.length : Int) := by omega
        obtain ⟨b, off, rfl, hc1, hc2, hb, hcx⟩ := rd_cells0 hra rfl (by omega)
        have hc0 := hcx 0 (by omega)
        rw [Nat.add_zero] at hc0
        have hp0 : (0 : Int) < (all.length : Int) := by omega
        by_cases hfirst : at0 all 0 = (all.length : Int)
        · have HG : Hid (El.readGaps xs = El.gapsSum (El.sumsUp (-1) (all.drop 1))) := by
            show _ = _; rw [HRG.out, El.gapsOf, if_neg h0, if_neg h31, if_neg (by simp [hfirst])]
          have hfb : (at0 all 0 != (all.length : Int)) = false := by simp [hfirst]
          obtain ⟨a4, hrun, hr4⟩ := slice_from (P := Try.prog) 26 und_ints sized_ints hra.toB (by simp [ints]) 1 (by omega)
          rw [ints_drop] at hr4
          have hdl : (all.drop 1).length = all.length - 1 := by simp
          rw [← hdl] at hr4 hrun
          have hrun1 : ∀ w', (Instr.slice 26 (.slice (some ⟨b, off, none⟩) all.length c1) (some (.int .i64 1)) none none).run Try.prog w' = .ok (.slice a4 (all.drop 1).length (c1 - 1)) w' := hrun
          clear hrun
          have HR4 := Lib.hid hr4
          have HDI : Hid (∀ j, j < (all.drop 1).length → 1 ≤ at0 (all.drop 1) j ∧ at0 (all.drop 1) j ≤ 1000000) := fun j hj => by
            rw [El.at0_lt hj]; exact hn _ (List.mem_of_mem_drop (List.getElem_mem hj))
          have hd31 : (all.drop 1).length ≤ 31 := by omega
          generalize all.drop 1 = D at *
          clear hr4 hn hcx hdl
          go_wp2_with fail
          clear hrun1
          go_loopw [6, 7, 36] (fun o la i wr => ∃ k : Nat, k ≤ D.length ∧ i = .int .i64 k ∧ la = .int .i64 (sums (-1) D k) ∧ Hid (∀ j, j < k → sums (-1) D (j + 1) < 1000000) ∧ -1 ≤ sums (-1) D k ∧ sums (-1) D k < 1000000 ∧
            wr.ownsRow w1.heap.size 3 1 o k (ints ((List.range k).map fun j => sums (-1) D (j + 1))) ∧ Below w1.heap.size w1 wr) (fun _ _ i _ => D.length - (intOf i).toNat)
          case atStart => exact ⟨0, by omega, rfl, by simp [sums], fun j hj => by omega, by simp [sums], by simp [sums], World.ownsRow_nil _ _ _ _, Below.refl _ _⟩
          case round =>
            obtain ⟨k, hk, rfl, rfl, HS, hs1, hs2, ho, hB⟩ := hrel
            by_cases hlt : k < D.length
            · have hki : (k : Int) < (D.length : Int) := by omega
              have hr5 := (HR4.out.later hB).rd hB.size
              obtain ⟨b5, off5, rfl, hc51, hc52, _, hcx⟩ := rd_cells0 hr5 rfl (by omega)
              have hck := hcx k hlt
              have hx := HDI.out k hlt
              have HSU := Lib.hid (El.sums_succ (last := -1) hlt)
              have ws : IntKind.i64.wrap (sums (-1) D k + at0 D k) = sums (-1) D k + at0 D k := IntWalk.i64_in _ (by omega)
              have hbs := hB.size
              by_cases hbig : 1000000 ≤ sums (-1) D (k + 1)
              · have HN := Lib.hid (El.sumsUp_stop D (-1) k hlt HS.out hbig)
                have hbb : decide (sums (-1) D k + at0 D k ≥ 1000000) = true := by rw [← HSU.out]; simp [hbig]
                clear hcx hbig
                go_wp2
                go_ret2
                rw [HG.out, HN.out, El.gapsSum]
                exact RetInts.mk rfl (World.ownsRow_nil _ _ _ _) rfl (below_c hB1 hB)
              · have HS2 : Hid (∀ j, j < k + 1 → sums (-1) D (j + 1) < 1000000) := fun j hj => by
                  by_cases e : j = k
                  · subst e; omega
                  · exact HS.out j (by omega)
                have hbb : decide (sums (-1) D k + at0 D k ≥ 1000000) = false := by rw [← HSU.out]; simp; omega
                have hlo : -1 ≤ sums (-1) D (k + 1) := by rw [HSU.out]; omega
                have hhi : sums (-1) D (k + 1) < 1000000 := by omega
                clear hcx hbig
                go_wp2_with (at_builtin; go_must (refine wpl_app _ _ _ (AppTo.refl ho) rfl rfl Try.underlying26 hi hz0 hz1 hz2 rfl (by decide) rfl rfl rfl (by simp [Value.oneCell']) (by decide) (by omega) hbs ?_); intro v3 w3 hA3 hne3 hst3)
                go_roundw
                case rel => exact ⟨k + 1, by omega, by go_num, by rw [HSU.out], HS2, hlo, hhi, by rw [List.range_succ, List.map_append, List.map_singleton, HSU.out]; simpa using hA3.own, hB.trans hst3⟩
                case measure => simp [intOf]; omega
            · have hke : k = D.length := by omega
              subst hke
              have HN := Lib.hid (El.sumsUp_end D (-1) HS.out)
              go_wp2
              go_ret2
              rw [HG.out, HN.out, El.gapsSum]
              exact RetInts.mk rfl (owns_mono ho (by have := hB1.size; omega)) (by simp) (below_c hB1 hB)
        · have HG : Hid (El.readGaps xs = ([], 3)) := by show _ = _; rw [HRG.out, El.gapsOf, if_neg h0, if_neg h31, if_pos hfirst]
          have hfb : (at0 all 0 != (all.length : Int)) = true := by simp [hfirst]
          clear hfirst
          go_wp2
          go_ret2
          rw [HG.out]
          exact RetInts.mk rfl (World.ownsRow_nil _ _ _ _) rfl hB1
  · have hall : all = [] := by
      have h := hrd
      unfold El.ReadDelta El.outOf at h
      rw [hc] at h
      simp only [ne_eq, not_true_eq_false, if_false] at h
      cases hq : El.readD xs with
      | none => rw [hq] at h; cases h; rfl
      | some l => rw [hq] at h; cases h; exact absurd rfl he
    have HRG : Hid (El.readGaps xs = ([], ed)) := by show _ = _; unfold El.readGaps; rw [hrd]; rw [if_pos he]
    have HRD := Lib.hid hrd
    have HE : Hid (errOf ed = errV ed) := by show _ = _; unfold errOf; rw [if_neg he]
    clear hrd
    go_enter Try.func18, Try.ntmps18
    go_wp2_with fail
    refine (ReadDelta_ok _ xs _ hr hc).mono ?_
    rw [HRD.out]
    rintro e w1 ⟨a1, c1, rfl, ho1, hB1⟩
    simp only [HE.out]
    go_wp2
    go_ret2
    rw [HRG.out]
    simp only [HE.out]
    exact RetInts.mk rfl (World.ownsRow_nil _ _ _ _) rfl hB1

end Go.Proofs.Ytnnhidbnjlpjiaa
