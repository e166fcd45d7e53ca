/- What the document's functions that read codes return: the walks. Conditions: none. -/
import Derived.Test.YtlfinlfmlnclhaaDoorRefElias2
namespace Go.Proofs.YtlfinlfmlnclhaaDoor
open Go.RowKit

set_option maxRecDepth 100000 in
set_option maxHeartbeats 2000000 in
theorem refReadGamma_any (v : Value) (xs : List Int) (w : World) (hr : Rd w v xs.length (ints xs)) :
    Calls Tryd.prog 26 #[v] w (RetInts w (El.ReadGamma xs).1 (.int .i64 ((El.ReadGamma xs).2 : Nat))) := by
  obtain ⟨i0, hi, hz0, hz1, hz2⟩ := info_parts info_int
  have hr0 := hr
  obtain ⟨a, c, rfl, hnc, hcm, h0, hcell⟩ := hr0
  unfold maxLen at hcm
  clear h0 hcell
  by_cases hc : El.chk xs = 0
  · obtain ⟨hl, hb⟩ := El.chk_bits hc
    have HC := Lib.hid hc
    have HR : Hid (El.ReadGamma xs = El.outOf 0 (El.readG xs)) := by show _ = _; rw [El.ReadGamma, hc]
    have HB := Lib.hid hb
    clear hc hb
    go_enter Tryd.func26, Tryd.ntmps26
    go_wp2_with fail
    refine (refBits_any _ xs _ hr).mono ?_
    rintro e w' ⟨rfl, rfl⟩
    rw [HC.out]
    go_wp2
    go_loopw [5, 6] (fun o i wr => ∃ (k : Nat) (acc : List Int), k ≤ xs.length ∧ i = .int .i64 k ∧ AppTo w w.heap.size 3 1 (.slice none 0 0) wr o acc.length (ints acc) ∧ Hid (El.readG xs = (El.readG (xs.drop k)).map (acc ++ ·)) ∧ acc.length ≤ k) (fun _ i _ => xs.length - (intOf i).toNat)
    case atStart => exact ⟨0, [], by omega, rfl, AppTo.refl (World.ownsRow_nil _ _ _ _), by show _ = _; simp, by simp⟩
    case round =>
      obtain ⟨k, acc, hk, rfl, hA, HG, hlen⟩ := hrel
      have hrw := hr.later hA.of_nil
      by_cases hlt : k < xs.length
      · have hne : xs.drop k ≠ [] := by intro e; have := congrArg List.length e; simp at this; omega
        cases hrg : El.rg (xs.drop k) with
        | none =>
          have HN : Hid (El.readG xs = none) := by show _ = _; rw [HG.out, El.readG_none hne hrg]; rfl
          have HO := Lib.hid (El.oneR_none hrg)
          clear hrg hne
          go_wp2_with fail
          refine (refOne_any _ xs k _ hrw HB.out hlt hl).mono ?_
          rintro e w' ⟨rfl, rfl⟩
          rw [HO.out]
          go_wp2
          go_ret2
          rw [HR.out, HN.out]
          exact RetInts.mk rfl (World.ownsRow_nil _ _ _ _) rfl hA.of_nil
        | some p =>
          obtain ⟨n, m⟩ := p
          have hp := El.rg_pos hrg
          simp only [List.length_drop] at hp
          have HN : Hid (El.readG xs = (El.readG (xs.drop (k + m))).map ((acc ++ [n]) ++ ·)) := by
            show _ = _
            rw [HG.out, El.readG_some hne hrg, List.drop_drop]
            cases El.readG (xs.drop (k + m)) <;> simp
          have HO := Lib.hid (El.oneR_some hrg)
          have hm0 : ((m : Int) == 0) = false := by simp; omega
          clear hrg hne
          go_wp2_with (first
            | (go_at_call 62; refine (refOne_any _ xs k _ hrw HB.out hlt hl).mono ?_; rintro e w' ⟨rfl, rfl⟩; rw [HO.out])
            | (at_builtin; go_must (refine wpl_app _ _ _ hA rfl rfl Tryd.underlying36 hi hz0 hz1 hz2 rfl (by decide) rfl rfl rfl (by simp [Value.oneCell']) (by decide) (by omega) (by omega) ?_); intro v2 w2 hA2 hne2 hst2))
          go_roundw
          case rel => exact ⟨k + m, acc ++ [n], by omega, by go_num, by simpa using hA2, HN, by simp; omega⟩
          case measure => simp [intOf]; omega
      · have hz : xs.drop k = [] := List.drop_eq_nil_of_le (by omega)
        have HN : Hid (El.readG xs = some acc) := by show _ = _; rw [HG.out, hz, El.readG_nil]; simp
        clear hz
        go_wp2
        go_ret2
        rw [HR.out, HN.out]
        exact RetInts.mk rfl hA.own rfl hA.of_nil
  · have HR : Hid (El.ReadGamma xs = ([], El.chk xs)) := by show _ = _; unfold El.ReadGamma El.outOf; rw [if_pos hc]
    have hcb : (((El.chk xs : Nat) : Int) != 0) = true := by simp; exact hc
    clear hc
    go_enter Tryd.func26, Tryd.ntmps26
    go_wp2_with fail
    refine (refBits_any _ xs _ hr).mono ?_
    rintro e w' ⟨rfl, rfl⟩
    generalize hce : El.chk xs = cc at *
    go_wp2
    go_ret2
    rw [HR.out]
    exact RetInts.mk rfl (World.ownsRow_nil _ _ _ _) rfl (Below.refl _ _)

set_option maxRecDepth 100000 in
set_option maxHeartbeats 4000000 in
theorem refReadDelta_any (v : Value) (xs : List Int) (w : World) (hr : Rd w v xs.length (ints xs)) :
    Calls Tryd.prog 28 #[v] w (RetInts w (El.ReadDelta xs).1 (.int .i64 ((El.ReadDelta xs).2 : Nat))) := by
  obtain ⟨i0, hi, hz0, hz1, hz2⟩ := info_parts info_int
  have hr0 := hr
  obtain ⟨a, c, rfl, hnc, hcm, h0, hcell0⟩ := hr0
  unfold maxLen at hcm
  clear h0
  by_cases hc : El.chk xs = 0
  · obtain ⟨hl, hb⟩ := El.chk_bits hc
    have HC := Lib.hid hc
    have HR : Hid (El.ReadDelta xs = El.outOf 0 (El.readD xs)) := by show _ = _; rw [El.ReadDelta, hc]
    have HB := Lib.hid hb
    clear hc hb
    go_enter Tryd.func28, Tryd.ntmps28
    go_wp2_with fail
    refine (refBits_any _ xs _ hr).mono ?_
    rintro e w' ⟨rfl, rfl⟩
    rw [HC.out]
    go_wp2
    go_loopw [5, 6] (fun o i wr => ∃ (k : Nat) (acc : List Int), k ≤ xs.length ∧ i = .int .i64 k ∧ AppTo w w.heap.size 3 1 (.slice none 0 0) wr o acc.length (ints acc) ∧ Hid (El.readD xs = (El.readD (xs.drop k)).map (acc ++ ·)) ∧ acc.length ≤ k) (fun _ i _ => xs.length - (intOf i).toNat)
    case atStart => exact ⟨0, [], by omega, rfl, AppTo.refl (World.ownsRow_nil _ _ _ _), by show _ = _; simp, by simp⟩
    case round =>
      obtain ⟨k, acc, hk, rfl, hA, HG, hlen⟩ := hrel
      have hrw := hr.later hA.of_nil
      by_cases hlt : k < xs.length
      · have hne : xs.drop k ≠ [] := by intro e; have := congrArg List.length e; simp at this; omega
        cases hrg : El.rg (xs.drop k) with
        | none =>
          have HN : Hid (El.readD xs = none) := by show _ = _; rw [HG.out, El.readD_none hne (by unfold El.rd; rw [hrg])]; rfl
          have HO := Lib.hid (El.oneR_none hrg)
          clear hrg hne
          go_wp2_with fail
          refine (refOne_any _ xs k _ hrw HB.out hlt hl).mono ?_
          rintro e w' ⟨rfl, rfl⟩
          rw [HO.out]
          go_wp2
          go_ret2
          rw [HR.out, HN.out]
          exact RetInts.mk rfl (World.ownsRow_nil _ _ _ _) rfl hA.of_nil
        | some p =>
          obtain ⟨kk, m⟩ := p
          have hp := El.rg_pos hrg
          simp only [List.length_drop] at hp
          have hk1 := El.rg_ge hrg (bits_drop HB.out k)
          have hk2 := El.rg_le hrg
          have HO := Lib.hid (El.oneR_some hrg)
          have hm0 : ((m : Int) == 0) = false := by simp; omega
          obtain ⟨jj, hjj⟩ : ∃ jj : Nat, kk = (jj : Int) + 1 := ⟨(kk - 1).toNat, by omega⟩
          have ej : (kk - 1).toNat = jj := by omega
          have HJ := Lib.hid hjj
          have HD : Hid (El.rd (xs.drop k) = (El.numRes 1 (xs.drop (k + m)) jj).map fun n => (n, m + jj)) := by
            show _ = _; unfold El.rd; rw [hrg]; simp only [ej, List.drop_drop]
          have HNE := Lib.hid hne
          have hj6 : jj ≤ 1000000 := by omega
          clear hrg hne ej hjj
          by_cases hsh : xs.length < k + m + jj
          · have HN : Hid (El.readD xs = none) := by
              show _ = _
              rw [HG.out, El.readD_none HNE.out (by rw [HD.out, El.numRes, if_pos (by simp; omega)]; rfl)]; rfl
            have hsh' : (xs.length : Int) < (k : Int) + (m : Int) + kk - 1 := by have := HJ.out; omega
            clear hsh
            go_wp2_with fail
            refine (refOne_any _ xs k _ hrw HB.out hlt hl).mono ?_
            rintro e w' ⟨rfl, rfl⟩
            rw [HO.out]
            go_wp2
            go_ret2
            rw [HR.out, HN.out]
            exact RetInts.mk rfl (World.ownsRow_nil _ _ _ _) rfl hA.of_nil
          · have hsh' : (k : Int) + (m : Int) + kk - 1 ≤ (xs.length : Int) := by have := HJ.out; omega
            have hkl : k + m + jj ≤ xs.length := by omega
            clear hsh
            obtain ⟨zs, HZ, HZL, HZB⟩ : ∃ zs : List Int, Hid (El.rd (xs.drop k) = (El.num 1 zs).map fun n => (n, m + jj)) ∧ Hid (zs.length = jj) ∧ Hid (∀ (j : Nat) (h : j < zs.length) (h2 : k + m + j < xs.length), zs[j] = xs[k + m + j]) :=
              ⟨(xs.drop (k + m)).take jj, by show _ = _; rw [HD.out, El.numRes, if_neg (by simp; omega)], by show _ = _; simp; omega, fun j h h2 => by rw [List.getElem_take, List.getElem_drop]⟩
            obtain ⟨b, off, rfl, hbb, hcl⟩ := hcell0 (by omega)
            go_wp2_with fail
            refine (refOne_any _ xs k _ hrw HB.out hlt hl).mono ?_
            rintro e w' ⟨rfl, rfl⟩
            rw [HO.out]
            go_wp2
            go_loop [9, 10] (fun n i => ∃ (j : Nat) (mm : Int), j ≤ jj ∧ i = .int .i64 j ∧ n = .int .i64 mm ∧ 0 ≤ mm ∧ mm ≤ 1000000 ∧ El.num 1 zs = El.num mm (zs.drop j)) (fun _ i => jj - (intOf i).toNat)
            case atStart => exact ⟨0, 1, by omega, rfl, rfl, by omega, by omega, by simp⟩
            case round =>
              obtain ⟨j, mm, hj, rfl, rfl, hm0', hm1, hnum⟩ := hrel
              have HNU := Lib.hid hnum
              clear hnum
              by_cases hlt2 : j < jj
              · have hjk : (j : Int) < kk - 1 := by have := HJ.out; omega
                have hjx : k + m + j < xs.length := by omega
                have hcj := (hA.of_nil.cell (p := ⟨b, off + (k + m + j), none⟩) hbb).trans (hcl (k + m + j) _ (ints_get hjx))
                have hjz : j < zs.length := by rw [HZL.out]; exact hlt2
                have hzj := HZB.out j hjz hjx
                obtain ⟨hx0, hx1⟩ := HB.out _ hjx
                have HS : Hid (El.num mm (zs.drop j) = if 1000000 < 2 * mm + xs[k + m + j] then none else El.num (2 * mm + xs[k + m + j]) (zs.drop (j + 1))) := by
                  show _ = _
                  rw [List.drop_eq_getElem_cons hjz, El.num, hzj]
                clear hzj
                by_cases hbig : 1000000 < 2 * mm + xs[k + m + j]
                · have HN : Hid (El.readD xs = none) := by
                    show _ = _
                    have e1 := HS.out
                    rw [if_pos hbig] at e1
                    rw [HG.out, El.readD_none HNE.out (by rw [HZ.out, HNU.out, e1]; rfl)]; rfl
                  go_wp2
                  go_ret2
                  rw [HR.out, HN.out]
                  exact RetInts.mk rfl (World.ownsRow_nil _ _ _ _) rfl hA.of_nil
                · have hbig' : 2 * mm + xs[k + m + j] ≤ 1000000 := by omega
                  have e1 := Lib.hid (HS.out.trans (if_neg hbig))
                  clear hbig HS
                  go_wp2
                  go_round
                  case rel => exact ⟨j + 1, _, by omega, by go_num, rfl, by omega, by omega, HNU.out.trans e1.out⟩
                  case measure => simp [intOf]; omega
              · have ejj : j = jj := by omega
                have hjk : kk - 1 ≤ (j : Int) := by have := HJ.out; omega
                have HN : Hid (El.readD xs = (El.readD (xs.drop (k + m + jj))).map ((acc ++ [mm]) ++ ·)) := by
                  show _ = _
                  have e1 : El.rd (xs.drop k) = some (mm, m + jj) := by
                    rw [HZ.out, HNU.out, List.drop_eq_nil_of_le (by rw [HZL.out]; omega)]; rfl
                  rw [HG.out, El.readD_some HNE.out e1, List.drop_drop, ← Nat.add_assoc]
                  cases El.readD (xs.drop (k + m + jj)) <;> simp
                go_wp2_with (at_builtin; go_must (refine wpl_app _ _ _ hA rfl rfl Tryd.underlying36 hi hz0 hz1 hz2 rfl (by decide) rfl rfl rfl (by simp [Value.oneCell']) (by decide) (by omega) (by omega) ?_); intro v2 w2 hA2 hne2 hst2)
                go_roundw
                case rel => exact ⟨k + m + jj, acc ++ [mm], by omega, by have := HJ.out; go_num, by simpa using hA2, HN, by simp; omega⟩
                case measure => simp [intOf]; omega
      · have hz : xs.drop k = [] := List.drop_eq_nil_of_le (by omega)
        have HN : Hid (El.readD xs = some acc) := by show _ = _; rw [HG.out, hz, El.readD_nil]; simp
        clear hz
        go_wp2
        go_ret2
        rw [HR.out, HN.out]
        exact RetInts.mk rfl hA.own rfl hA.of_nil
  · have HR : Hid (El.ReadDelta xs = ([], El.chk xs)) := by show _ = _; unfold El.ReadDelta El.outOf; rw [if_pos hc]
    have hcb : (((El.chk xs : Nat) : Int) != 0) = true := by simp; exact hc
    clear hc
    go_enter Tryd.func28, Tryd.ntmps28
    go_wp2_with fail
    refine (refBits_any _ xs _ hr).mono ?_
    rintro e w' ⟨rfl, rfl⟩
    generalize hce : El.chk xs = cc at *
    go_wp2
    go_ret2
    rw [HR.out]
    exact RetInts.mk rfl (World.ownsRow_nil _ _ _ _) rfl (Below.refl _ _)

end Go.Proofs.YtlfinlfmlnclhaaDoor
