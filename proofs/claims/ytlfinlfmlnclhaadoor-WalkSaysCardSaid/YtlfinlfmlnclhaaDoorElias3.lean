/- What ReadGamma and ReadDelta return: the walks. Conditions: in each statement. -/
import Derived.Test.YtlfinlfmlnclhaaDoorElias2
import Derived.StillTailTactics
import Derived.Deep.AppendLies
import Derived.Deep.RegionLaw
namespace Go.Proofs.YtlfinlfmlnclhaaDoor
open Go.RowKit

theorem bits_drop {xs : List Int} (h : ∀ (j : Nat) (hj : j < xs.length), 0 ≤ xs[j] ∧ xs[j] ≤ 1) (m : Nat) : ∀ (j : Nat) (hj : j < (xs.drop m).length), 0 ≤ (xs.drop m)[j] ∧ (xs.drop m)[j] ≤ 1 := by
  intro j hj
  rw [List.getElem_drop]
  exact h _ _

set_option maxHeartbeats 1000000 in
theorem ReadGamma_bad (v : Value) (xs : List Int) (w : World) (hr : Rd w v xs.length (ints xs)) (k : Int) (hk : errOf (El.chk xs) = errV k) :
    Calls Tryd.prog 27 #[v] w fun e w' => e = .returned (.tuple #[.slice none 0 0, errV k]) ∧ w = w' := by
  have HK := Lib.hid hk
  clear hk
  go_enter Tryd.func27, Tryd.ntmps27
  go_wp2_with fail
  refine (check_any _ xs _ hr).mono ?_
  rintro e w' ⟨rfl, rfl⟩
  rw [HK.out]
  go_wp2
  go_ret2
  exact ⟨rfl, rfl⟩

set_option maxHeartbeats 1000000 in
theorem ReadGamma_ok (v : Value) (xs : List Int) (w : World) (hr : Rd w v xs.length (ints xs)) (hc : El.chk xs = 0) :
    Calls Tryd.prog 27 #[v] w (RetInts w (El.ReadGamma xs).1 (errOf (El.ReadGamma xs).2)) := by
  obtain ⟨hl, hb⟩ := El.chk_bits hc
  obtain ⟨i0, hi, hz0, hz1, hz2⟩ := info_parts info_int
  have HK : Hid (errOf (El.chk xs) = .nilIface) := by show _ = _; rw [hc]; rfl
  have HR : Hid (El.ReadGamma xs = El.outOf 0 (El.readG xs)) := by show _ = _; rw [El.ReadGamma, hc]
  have HB := Lib.hid hb
  clear hc hb
  go_enter Tryd.func27, Tryd.ntmps27
  go_wp2_with fail
  refine (check_any _ xs _ hr).mono ?_
  rintro e w' ⟨rfl, rfl⟩
  rw [HK.out]
  go_wp2
  go_loopw [0, 5] (fun b o wr => ∃ (rest acc : List Int), RdB w.heap.size wr b rest.length (ints rest) ∧ AppTo w w.heap.size 3 1 (.slice none 0 0) wr o acc.length (ints acc) ∧ Hid (El.readG xs = (El.readG rest).map (acc ++ ·)) ∧ acc.length + rest.length ≤ xs.length ∧ Hid (∀ (j : Nat) (h : j < rest.length), 0 ≤ rest[j] ∧ rest[j] ≤ 1)) (fun b _ _ => lenOf b)
  case atStart => exact ⟨xs, [], hr, AppTo.refl (World.ownsRow_nil _ _ _ _), by show _ = _; simp, by simp, HB⟩
  case round =>
    obtain ⟨rest, acc, hrd, hA, HG, hlen, HB2⟩ := hrel
    have hrd' := hrd
    obtain ⟨a, c, rfl, hnc, hcm, h0, hcell⟩ := hrd
    unfold maxLen at hcm
    clear h0 hcell
    by_cases hpos : 0 < rest.length
    · have hne : rest ≠ [] := by intro e; rw [e] at hpos; simp at hpos
      cases hrg : El.rg rest with
      | none =>
        have HN : Hid (El.readG xs = none) := by show _ = _; rw [HG.out, El.readG_none hne hrg]; rfl
        have HRG := Lib.hid hrg
        clear hrg hne
        go_wp2_with fail
        refine (readGamma1_none _ rest _ (hrd'.rd hA.grown.size) HB2.out HRG.out (by omega)).mono ?_
        rintro e w' ⟨rfl, rfl⟩
        go_wp2
        go_ret2
        rw [HR.out, HN.out]
        exact RetInts.mk rfl (World.ownsRow_nil _ _ _ _) rfl hA.of_nil
      | some p =>
        obtain ⟨n, m⟩ := p
        have hp := El.rg_pos hrg
        have HN : Hid (El.readG xs = (El.readG (rest.drop m)).map ((acc ++ [n]) ++ ·)) := by
          show _ = _
          rw [HG.out, El.readG_some hne hrg]
          cases El.readG (rest.drop m) <;> simp
        have HRG := Lib.hid hrg
        clear hrg hne
        go_wp2_with fail
        refine (readGamma1_some w.heap.size _ rest _ n m hrd' hA.grown.size HB2.out HRG.out (by omega)).mono ?_
        rintro e w' ⟨v', rfl, hrd2, hbel⟩
        have hA1 := hA.later hbel
        go_wp2_with (at_builtin; go_must (refine wpl_app _ _ _ hA1 rfl rfl Tryd.underlying36 hi hz0 hz1 hz2 rfl (by decide) rfl rfl rfl (by simp [Value.oneCell']) (by decide) (by omega) (by omega) ?_); intro v2 w2 hA2 hne2 hst2)
        go_roundw
        case rel => exact ⟨rest.drop m, acc ++ [n], hrd2.later hst2, by simpa using hA2, HN, by simp; omega, bits_drop HB2.out m⟩
        case measure =>
          obtain ⟨a3, c3, rfl, _⟩ := hrd2
          simp [lenOf]; omega
    · have hz : rest = [] := List.eq_nil_of_length_eq_zero (by omega)
      have HN : Hid (El.readG xs = some acc) := by show _ = _; rw [HG.out, hz, El.readG_nil]; simp
      have hle : (rest.length : Int) ≤ 0 := by omega
      clear hz
      go_wp2
      go_ret2
      rw [HR.out, HN.out]
      exact RetInts.mk rfl hA.own rfl hA.of_nil

set_option maxHeartbeats 1000000 in
theorem ReadDelta_bad (v : Value) (xs : List Int) (w : World) (hr : Rd w v xs.length (ints xs)) (k : Int) (hk : errOf (El.chk xs) = errV k) :
    Calls Tryd.prog 29 #[v] w fun e w' => e = .returned (.tuple #[.slice none 0 0, errV k]) ∧ w = w' := by
  have HK := Lib.hid hk
  clear hk
  go_enter Tryd.func29, Tryd.ntmps29
  go_wp2_with fail
  refine (check_any _ xs _ hr).mono ?_
  rintro e w' ⟨rfl, rfl⟩
  rw [HK.out]
  go_wp2
  go_ret2
  exact ⟨rfl, rfl⟩

set_option maxHeartbeats 1000000 in
theorem ReadDelta_ok (v : Value) (xs : List Int) (w : World) (hr : Rd w v xs.length (ints xs)) (hc : El.chk xs = 0) :
    Calls Tryd.prog 29 #[v] w (RetInts w (El.ReadDelta xs).1 (errOf (El.ReadDelta xs).2)) := by
  obtain ⟨hl, hb⟩ := El.chk_bits hc
  obtain ⟨i0, hi, hz0, hz1, hz2⟩ := info_parts info_int
  have HK : Hid (errOf (El.chk xs) = .nilIface) := by show _ = _; rw [hc]; rfl
  have HR : Hid (El.ReadDelta xs = El.outOf 0 (El.readD xs)) := by show _ = _; rw [El.ReadDelta, hc]
  have HB := Lib.hid hb
  clear hc hb
  go_enter Tryd.func29, Tryd.ntmps29
  go_wp2_with fail
  refine (check_any _ xs _ hr).mono ?_
  rintro e w' ⟨rfl, rfl⟩
  rw [HK.out]
  go_wp2
  go_loopw [0, 5] (fun b o wr => ∃ (rest acc : List Int), RdB w.heap.size wr b rest.length (ints rest) ∧ AppTo w w.heap.size 3 1 (.slice none 0 0) wr o acc.length (ints acc) ∧ Hid (El.readD xs = (El.readD rest).map (acc ++ ·)) ∧ acc.length + rest.length ≤ xs.length ∧ Hid (∀ (j : Nat) (h : j < rest.length), 0 ≤ rest[j] ∧ rest[j] ≤ 1)) (fun b _ _ => lenOf b)
  case atStart => exact ⟨xs, [], hr, AppTo.refl (World.ownsRow_nil _ _ _ _), by show _ = _; simp, by simp, HB⟩
  case round =>
    obtain ⟨rest, acc, hrd, hA, HG, hlen, HB2⟩ := hrel
    have hrd' := hrd
    obtain ⟨a, c, rfl, hnc, hcm, h0, hcell⟩ := hrd
    unfold maxLen at hcm
    clear h0 hcell
    by_cases hpos : 0 < rest.length
    · have hne : rest ≠ [] := by intro e; rw [e] at hpos; simp at hpos
      have HNE := Lib.hid hne
      clear hne
      cases hrg : El.rg rest with
      | none =>
        have HN : Hid (El.readD xs = none) := by show _ = _; rw [HG.out, El.readD_none HNE.out (by unfold El.rd; rw [hrg])]; rfl
        have HRG := Lib.hid hrg
        clear hrg
        go_wp2_with fail
        refine (readGamma1_none _ rest _ (hrd'.rd hA.grown.size) HB2.out HRG.out (by omega)).mono ?_
        rintro e w' ⟨rfl, rfl⟩
        go_wp2
        go_ret2
        rw [HR.out, HN.out]
        exact RetInts.mk rfl (World.ownsRow_nil _ _ _ _) rfl hA.of_nil
      | some p =>
        obtain ⟨kk, m⟩ := p
        have hp := El.rg_pos hrg
        have hk1 := El.rg_ge hrg HB2.out
        have hk2 := El.rg_le hrg
        have HRG := Lib.hid hrg
        have HRD : Hid (El.rd rest = (El.numRes 1 (rest.drop m) (kk - 1).toNat).map fun n => (n, m + (kk - 1).toNat)) := by show _ = _; unfold El.rd; rw [hrg]
        clear hrg
        go_wp2_with fail
        refine (readGamma1_some w.heap.size _ rest _ kk m hrd' hA.grown.size HB2.out HRG.out (by omega)).mono ?_
        rintro e w' ⟨v', rfl, hrd2, hbel⟩
        have hA1 := hA.later hbel
        obtain ⟨j, hj⟩ : ∃ j : Nat, kk = (j : Int) + 1 := ⟨(kk - 1).toNat, by omega⟩
        subst hj
        have ej : ((j : Int) + 1 - 1).toNat = j := by omega
        rw [ej] at HRD
        have ej2 : (j : Int) + 1 - 1 = (j : Int) := by omega
        have HJ := Lib.hid ej2
        clear ej ej2
        go_wp2_with fail
        try simp only [HJ.out]
        refine (number_any _ (rest.drop m) j _ (hrd2.rd hA1.grown.size) (bits_drop HB2.out m) (by omega)).mono ?_
        rintro e w'' ⟨rfl, rfl⟩
        cases hnum : El.numRes 1 (rest.drop m) j with
        | none =>
          have HN : Hid (El.readD xs = none) := by show _ = _; rw [HG.out, El.readD_none HNE.out (by rw [HRD.out, hnum]; rfl)]; rfl
          simp only [El.numV]
          clear hnum
          go_wp2
          go_ret2
          rw [HR.out, HN.out]
          exact RetInts.mk rfl (World.ownsRow_nil _ _ _ _) rfl hA1.of_nil
        | some n =>
          have hjl : j ≤ (rest.drop m).length := by
            unfold El.numRes at hnum
            split at hnum
            · cases hnum
            · omega
          have HRDS : Hid (El.rd rest = some (n, m + j)) := by show _ = _; rw [HRD.out, hnum]; rfl
          have HN : Hid (El.readD xs = (El.readD (rest.drop (m + j))).map ((acc ++ [n]) ++ ·)) := by
            show _ = _
            rw [HG.out, El.readD_some HNE.out HRDS.out]
            cases El.readD (rest.drop (m + j)) <;> simp
          simp only [El.numV]
          clear hnum
          have hrd3 := hrd2
          obtain ⟨a3, c3, rfl, hnc3, hcm3, h03, hcell3⟩ := hrd3
          unfold maxLen at hcm3
          clear h03 hcell3
          obtain ⟨a4, hrun, hr4⟩ := slice_from (P := Tryd.prog) 36 und_ints sized_ints hrd2 (by simp [ints]) j hjl
          rw [ints_drop, List.drop_drop] at hr4
          rw [List.length_drop] at hrun
          have HR4 := Lib.hid hr4
          clear hr4
          have hjl' : j ≤ rest.length - m := by simpa using hjl
          have w1 : IntKind.i64.wrap (j : Int) = j := IntWalk.i64_in _ (by omega)
          have hlen4 := Lib.hid (show (rest.drop m).length - j = (rest.drop (m + j)).length by simp; omega)
          go_wp2
          try simp only [HJ.out]
          go_region_law ((refine step_app _ _ _ (hA1.drew.alloc _) w'.heap.size _ (World.alloc_heap_new _ _) rfl rfl Tryd.underlying36 hi hz0 hz1 hz2 rfl (by decide) rfl rfl rfl (by simp [Value.oneCell']) (by decide) (by omega) (by omega) ?_; intro v2 w2 hA2 hne2 hst2; have hst2' := ((Below.refl w.heap.size w').drew.alloc hA1.grown.size _).trans hst2))
          all_goals
            clear w1
            go_wp2
            go_roundw
            case rel =>
              have hn4 : RdB w.heap.size w2 (.slice a4 (rest.length - m - j) (c3 - j)) (rest.drop (m + j)).length (ints (rest.drop (m + j))) := by
                have := HR4.out
                rw [hlen4.out, List.length_drop] at this
                have e4 : rest.length - m - j = rest.length - (m + j) := by omega
                rw [e4, List.length_drop]
                rw [e4] at *
                exact this.later hst2'
              exact ⟨_, _, _, _, ⟨rest.drop (m + j), hn4, acc ++ [n], by simpa using hA2, HN, by simp; omega, bits_drop HB2.out _⟩, rfl, rfl, rfl, rfl⟩
            case measure => simp [lenOf]; omega
    · have hz : rest = [] := List.eq_nil_of_length_eq_zero (by omega)
      have HN : Hid (El.readD xs = some acc) := by show _ = _; rw [HG.out, hz, El.readD_nil]; simp
      have hle : (rest.length : Int) ≤ 0 := by omega
      clear hz
      go_wp2
      go_ret2
      rw [HR.out, HN.out]
      exact RetInts.mk rfl hA.own rfl hA.of_nil

end Go.Proofs.YtlfinlfmlnclhaaDoor
