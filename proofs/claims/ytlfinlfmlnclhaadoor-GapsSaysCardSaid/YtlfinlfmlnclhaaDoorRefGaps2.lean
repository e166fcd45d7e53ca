/- What R.ReadGaps returns: the walk; gaps.Read for every list of bits. Conditions: none. -/
import Derived.Test.YtlfinlfmlnclhaaDoorRefGaps
import Derived.Test.YtlfinlfmlnclhaaDoorEliasL
namespace Go.Proofs.YtlfinlfmlnclhaaDoor
open Go.RowKit
open El (at0 gAt gapsErr GapsOk lastOf sums)

namespace El
theorem readDelta_none {xs all : List Int} {ed : Nat} (h : ReadDelta xs = (all, ed)) (he : ed ≠ 0) : all = [] := by
  unfold ReadDelta outOf at h
  split at h
  · cases h; rfl
  · cases hq : readD xs with
    | none => rw [hq] at h; cases h; rfl
    | some l => rw [hq] at h; cases h; exact absurd rfl he
theorem deltas_len : ∀ l : List Int, l.length ≤ (deltas l).length := by
  intro l
  induction l with
  | nil => simp
  | cons x r ih =>
    have := delta_pos x.toNat
    simp only [deltas, List.flatMap_cons, List.length_append, List.length_cons] at ih ⊢
    omega
theorem readDelta_in (xs : List Int) : (∀ x ∈ (ReadDelta xs).1, 1 ≤ x ∧ x ≤ 1000000) ∧ (ReadDelta xs).1.length ≤ 600 := by
  by_cases hc : chk xs = 0
  · obtain ⟨hl, hb⟩ := chk_bits hc
    unfold ReadDelta outOf
    rw [hc, if_neg (by simp)]
    cases hq : readD xs with
    | none => exact ⟨fun x hx => by simp at hx, by simp⟩
    | some l =>
      obtain ⟨h1, h2⟩ := deltas_readD xs.length xs l (Nat.le_refl _) hb hq
      refine ⟨h2, ?_⟩
      have := deltas_len l
      rw [h1] at this
      exact Nat.le_trans this hl
  · unfold ReadDelta outOf
    rw [if_pos hc]
    exact ⟨fun x hx => by simp at hx, by simp⟩
theorem readGaps_chk {xs : List Int} (hc : chk xs ≠ 0) : readGaps xs = ([], chk xs) := by
  unfold readGaps ReadDelta outOf
  rw [if_pos hc]; simp only; rw [if_pos hc]
end El

set_option maxRecDepth 100000 in
theorem gapsRead_both (v : Value) (xs : List Int) (w : World) (hr : Rd w v xs.length (ints xs)) :
    Calls Tryd.prog 45 #[v] w (RetInts w (El.readGaps xs).1 (errOf (El.readGaps xs).2)) := by
  by_cases hc : El.chk xs = 0
  · exact gapsRead_any v xs w hr hc (El.readDelta_in xs).1 (El.readDelta_in xs).2
  · have HR := Lib.hid (El.readGaps_chk hc)
    have HE := Lib.hid (errOf_pos hc)
    clear hc
    go_enter Tryd.func45, Tryd.ntmps45
    go_wp2_with fail
    refine (ReadDelta_bad v xs w hr _ HE.out).mono ?_
    rintro e w1 ⟨rfl, rfl⟩
    go_wp2
    go_ret2
    rw [HR.out]
    simp only [HE.out]
    exact RetInts.mk rfl (World.ownsRow_nil _ _ _ _) rfl (Below.refl _ _)

set_option maxRecDepth 100000 in
set_option maxHeartbeats 4000000 in
theorem refReadGaps_any (v : Value) (xs : List Int) (w : World) (hr : Rd w v xs.length (ints xs)) :
    Calls Tryd.prog 44 #[v] w (RetInts w (El.readGaps xs).1 (.int .i64 ((El.readGaps xs).2 : Nat))) := by
  obtain ⟨i0, hi, hz0, hz1, hz2⟩ := info_parts info_int
  obtain ⟨hn, hn2⟩ := El.readDelta_in xs
  have K := refReadDelta_any v xs w hr
  generalize hrd : El.ReadDelta xs = R at *
  obtain ⟨all, ed⟩ := R
  simp only at hn hn2 K
  by_cases he : ed = 0
  · subst he
    have HRG : Hid (El.readGaps xs = El.gapsOf all) := by show _ = _; unfold El.readGaps; rw [hrd]; rfl
    clear hrd
    go_enter Tryd.func44, Tryd.ntmps44
    go_wp2_with fail
    refine K.mono ?_
    rintro e w1 ⟨a1, c1, rfl, ho1, hB1⟩
    have hra := rd_of_owns ho1
    clear K
    by_cases h0 : all.length = 0
    · have HG : Hid (El.readGaps xs = ([], 5)) := by show _ = _; rw [HRG.out, El.gapsOf, if_pos h0]
      rw [h0]
      go_wp2
      go_ret2
      rw [HG.out]
      exact RetInts.mk rfl (World.ownsRow_nil _ _ _ _) rfl hB1
    · have h0' : ((all.length : Int) == 0) = false := by rw [beq_eq_false_iff_ne]; omega
      by_cases h31 : 31 < all.length
      · have HG : Hid (El.readGaps xs = ([], 4)) := by show _ = _; rw [HRG.out, El.gapsOf, if_neg h0, if_pos h31]
        have h31' : 31 < (all.length : Int) := by omega
        go_wp2
        go_ret2
        rw [HG.out]
        exact RetInts.mk rfl (World.ownsRow_nil _ _ _ _) rfl hB1
      · have h31' : ¬ 31 < (all.length : Int) := by omega
        obtain ⟨b, off, rfl, hc1, hc2, hb, hcx⟩ := rd_cells0 hra rfl (by omega)
        have hc0 := hcx 0 (by omega)
        rw [Nat.add_zero] at hc0
        have hp0 : (0 : Int) < (all.length : Int) := by omega
        by_cases hfirst : at0 all 0 = (all.length : Int)
        · have HG : Hid (El.readGaps xs = El.gapsSum (El.sumsUp (-1) (all.drop 1))) := by
            show _ = _; rw [HRG.out, El.gapsOf, if_neg h0, if_neg h31, if_neg (by simp [hfirst])]
          have hfb : (at0 all 0 != (all.length : Int)) = false := by simp [hfirst]
          have hdl : (all.drop 1).length = all.length - 1 := by simp
          have HDI : Hid (∀ j, j < (all.drop 1).length → 1 ≤ at0 (all.drop 1) j ∧ at0 (all.drop 1) j ≤ 1000000) := fun j hj => by
            rw [El.at0_lt hj]; exact hn _ (List.mem_of_mem_drop (List.getElem_mem hj))
          have HAD : Hid (∀ j, at0 all (j + 1) = at0 (all.drop 1) j) := fun j => by
            unfold El.at0; rw [List.getElem?_drop, Nat.add_comm]
          generalize all.drop 1 = D at *
          clear hn
          go_wp2_with fail
          go_loopw [6, 7] (fun o i wr => ∃ k : Nat, k ≤ D.length ∧ i = .int .i64 ((k : Int) + 1) ∧ Hid (∀ j, j < k → sums (-1) D (j + 1) < 1000000) ∧ -1 ≤ sums (-1) D k ∧ sums (-1) D k < 1000000 ∧
            wr.ownsRow w1.heap.size 3 1 o k (ints ((List.range k).map fun j => sums (-1) D (j + 1))) ∧ Below w1.heap.size w1 wr) (fun _ i _ => all.length - (intOf i).toNat)
          case atStart => exact ⟨0, by omega, rfl, fun j hj => by omega, by simp [sums], by simp [sums], World.ownsRow_nil _ _ _ _, Below.refl _ _⟩
          case round =>
            obtain ⟨k, hk, rfl, HS, hs1, hs2, ho, hB⟩ := hrel
            by_cases hlt : k < D.length
            · have hki : (k : Int) + 1 < (all.length : Int) := by omega
              have hck := (hB.cell (p := ⟨b, off + (k + 1), none⟩) hb).trans (hcx (k + 1) (by omega))
              rw [HAD.out k] at hck
              have hx := HDI.out k hlt
              have HSU := Lib.hid (El.sums_succ (last := -1) hlt)
              have hbs := hB.size
              clear hcx
              rcases Nat.eq_zero_or_pos k with hk0 | hk0
              · subst hk0
                have es : sums (-1) D (0 + 1) = at0 D 0 - 1 := by rw [HSU.out]; simp [sums]; omega
                have HES := Lib.hid es
                have ws : IntKind.i64.wrap (at0 D 0 - 1) = at0 D 0 - 1 := IntWalk.i64_in _ (by omega)
                clear es
                by_cases hbig : 999999 < at0 D 0 - 1
                · omega
                · have HS2 : Hid (∀ j, j < 0 + 1 → sums (-1) D (j + 1) < 1000000) := fun j hj => by
                    have : j = 0 := by omega
                    subst this; rw [HES.out]; omega
                  have hlo : -1 ≤ sums (-1) D (0 + 1) := by rw [HES.out]; omega
                  have hhi : sums (-1) D (0 + 1) < 1000000 := by rw [HES.out]; omega
                  generalize at0 D 0 = x at *
                  go_wp2_with (at_builtin; go_must (refine wpl_app _ _ _ (AppTo.refl ho) rfl rfl Tryd.underlying36 hi hz0 hz1 hz2 rfl (by decide) rfl rfl rfl (by simp [Value.oneCell']) (by decide) (by omega) hbs ?_); intro v3 w3 hA3 hne3 hst3)
                  go_roundw
                  case rel => exact ⟨1, by omega, by go_num, HS2, hlo, hhi, by rw [List.range_succ, List.map_append, List.map_singleton, HES.out]; simpa using hA3.own, hB.trans hst3⟩
                  case measure => simp [intOf]; omega
              · obtain ⟨ao, co, rfl⟩ := owns_slice ho
                obtain ⟨bo, offo, rfl, _, _, hbo, hco⟩ := rd_cells0 (d := (List.range k).map fun j => sums (-1) D (j + 1)) (rd_of_owns ho) (by simp) hk0
                obtain ⟨j, rfl⟩ : ∃ j, k = j + 1 := ⟨k - 1, by omega⟩
                have hcj := hco j (by omega)
                rw [show at0 ((List.range (j + 1)).map fun j => sums (-1) D (j + 1)) j = sums (-1) D (j + 1) by simp [at0]] at hcj
                have ws : IntKind.i64.wrap (sums (-1) D (j + 1) + at0 D (j + 1)) = sums (-1) D (j + 1) + at0 D (j + 1) := IntWalk.i64_in _ (by omega)
                have hj0 : (1 : Int) < ((j + 1 : Nat) : Int) + 1 := by omega
                clear hco
                by_cases hbig : 999999 < sums (-1) D (j + 1) + at0 D (j + 1)
                · have HN := Lib.hid (El.sumsUp_stop D (-1) (j + 1) hlt HS.out (by rw [HSU.out]; omega))
                  clear HSU
                  generalize sums (-1) D (j + 1) = y at *
                  generalize at0 D (j + 1) = x at *
                  go_wp2
                  go_quiet (fail)
                  go_wp2
                  go_ret2
                  rw [HG.out, HN.out, El.gapsSum]
                  exact RetInts.mk rfl (World.ownsRow_nil _ _ _ _) rfl (below_c hB1 (hB.trans ((below_drewN' _ _).mono hB.size)))
                · have HS2 : Hid (∀ i, i < j + 1 + 1 → sums (-1) D (i + 1) < 1000000) := fun i hi => by
                    by_cases e : i = j + 1
                    · subst e; rw [HSU.out]; omega
                    · exact HS.out i (by omega)
                  have hlo : -1 ≤ sums (-1) D (j + 1 + 1) := by rw [HSU.out]; omega
                  have hhi : sums (-1) D (j + 1 + 1) < 1000000 := by rw [HSU.out]; omega
                  have HSN : Hid (((List.range (j + 1 + 1)).map fun j => sums (-1) D (j + 1)) = ((List.range (j + 1)).map fun j => sums (-1) D (j + 1)) ++ [sums (-1) D (j + 1) + at0 D (j + 1)]) := by
                    show _ = _; rw [List.range_succ, List.map_append, List.map_singleton, HSU.out]
                  clear HSU
                  generalize ((List.range (j + 1)).map fun j => sums (-1) D (j + 1)) = L at *
                  generalize sums (-1) D (j + 1) = y at *
                  generalize at0 D (j + 1) = x at *
                  go_wp2
                  go_quiet (fail)
                  go_wp2_with (at_builtin; go_must (refine wpl_app _ _ _ (AppTo.refl (owns_later ho (below_drewN' wr _))) rfl rfl Tryd.underlying36 hi hz0 hz1 hz2 rfl (by decide) rfl rfl rfl (by simp [Value.oneCell']) (by decide) (by omega) hbs ?_); intro v3 w3 hA3 hne3 hst3)
                  go_roundw
                  case rel => exact ⟨j + 1 + 1, by omega, by go_num, HS2, hlo, hhi, by rw [HSN.out]; simpa using hA3.own, (hB.trans ((below_drewN' wr _).mono hB.size)).trans hst3⟩
                  case measure => simp [intOf]; omega
            · have hke : k = D.length := by omega
              subst hke
              have hki : (all.length : Int) ≤ (D.length : Int) + 1 := by omega
              have HN := Lib.hid (El.sumsUp_end D (-1) HS.out)
              go_wp2
              go_ret2
              rw [HG.out, HN.out, El.gapsSum]
              exact RetInts.mk rfl (owns_mono ho (by have := hB1.size; omega)) (by simp) (below_c hB1 hB)
        · have HG : Hid (El.readGaps xs = ([], 3)) := by show _ = _; rw [HRG.out, El.gapsOf, if_neg h0, if_neg h31, if_pos hfirst]
          have hfb : (at0 all 0 != (all.length : Int)) = true := by simp [hfirst]
          clear hfirst
          go_wp2
          go_ret2
          rw [HG.out]
          exact RetInts.mk rfl (World.ownsRow_nil _ _ _ _) rfl hB1
  · have HRG : Hid (El.readGaps xs = ([], ed)) := by show _ = _; unfold El.readGaps; rw [hrd]; rw [if_pos he]
    have hall := El.readDelta_none hrd he
    subst hall
    have heb : (((ed : Nat) : Int) != 0) = true := by simp; exact he
    clear hrd
    go_enter Tryd.func44, Tryd.ntmps44
    go_wp2_with fail
    refine K.mono ?_
    rintro e w1 ⟨a1, c1, rfl, ho1, hB1⟩
    go_wp2
    go_ret2
    rw [HRG.out]
    exact RetInts.mk rfl (World.ownsRow_nil _ _ _ _) rfl hB1

end Go.Proofs.YtlfinlfmlnclhaaDoor
