/- What the document's functions that read bits return: the walks. Conditions: in each statement. -/
import Derived.Test.YtlfinlfmlnclhaaDoorRefElias
namespace Go.Proofs.YtlfinlfmlnclhaaDoor
open Go.RowKit
namespace El
/-- what R.one hands back: the number and how many bits it has, or twice 0 -/
def oneR (xs : List Int) : Int × Nat := match rg xs with | some p => p | none => (0, 0)
theorem oneR_none {xs : List Int} (h : rg xs = none) : oneR xs = (0, 0) := by unfold oneR; rw [h]
theorem oneR_some {xs : List Int} {n : Int} {m : Nat} (h : rg xs = some (n, m)) : oneR xs = (n, m) := by unfold oneR; rw [h]
/-- the number in k + 1 bits behind k noughts -/
theorem rg_num0 {xs : List Int} {k : Nat} (hl : lead xs = k) (hk : 2 * k < xs.length) (h1 : xs[k]'(by omega) = 1) :
    rg xs = (num 0 ((xs.drop k).take (k + 1))).map fun n => (n, 2 * k + 1) := by
  unfold rg numRes
  rw [hl, if_neg (by omega), if_neg (by simp; omega)]
  congr 1
  rw [List.drop_eq_getElem_cons (show k < xs.length by omega), List.take_succ_cons, num, h1, if_neg (by omega)]
  rfl
theorem rg_short {xs : List Int} {k : Nat} (hl : lead xs = k) (hk : xs.length ≤ 2 * k) : rg xs = none := by
  unfold rg numRes
  rw [hl]
  split
  · rfl
  · rename_i h
    have := lead_le xs
    rw [if_pos (by simp; omega)]; rfl
end El

set_option maxRecDepth 100000 in
set_option maxHeartbeats 2000000 in
theorem refOne_any (v : Value) (xs : List Int) (at' : Nat) (w : World) (hr : Rd w v xs.length (ints xs)) (hb : ∀ (j : Nat) (h : j < xs.length), 0 ≤ xs[j] ∧ xs[j] ≤ 1) (hat : at' < xs.length) (hl : xs.length ≤ 600) :
    Calls Tryd.prog 62 #[v, .int .i64 at'] w fun e w' => e = .returned (.tuple #[.int .i64 (El.oneR (xs.drop at')).1, .int .i64 ((El.oneR (xs.drop at')).2 : Nat)]) ∧ w = w' := by
  obtain ⟨a, c, rfl, hnc, hcm, h0, hcell⟩ := hr
  unfold maxLen at hcm
  clear h0
  have HB := Lib.hid hb
  clear hb
  obtain ⟨b, off, rfl, hbb, hc⟩ := hcell (by omega)
  have hdl : (xs.drop at').length = xs.length - at' := by simp
  go_enter Tryd.func62, Tryd.ntmps62
  go_wp2
  go_loop [6] (fun i => ∃ (k : Nat), at' + k ≤ xs.length ∧ i = .int .i64 k ∧ ∀ j (hj : j < (xs.drop at').length), j < k → (xs.drop at')[j] = 0) (fun i => xs.length - (intOf i).toNat)
  case atStart => exact ⟨0, by omega, rfl, fun j _ h => by omega⟩
  case round =>
    obtain ⟨k, hk, rfl, hz⟩ := hrel
    have HZ := Lib.hid hz
    clear hz
    have ek : IntKind.i64.wrap ((at' : Int) + (k : Int)) = ((at' + k : Nat) : Int) := by rw [IntWalk.i64_in _ (by omega)]; omega
    have e2 : IntKind.i64.wrap (2 * (k : Int)) = 2 * k := IntWalk.i64_in _ (by omega)
    by_cases hlt : at' + k < xs.length
    · have hck := hc (at' + k) _ (ints_get hlt)
      have hkd : k < (xs.drop at').length := by omega
      have HX0 : Hid ((xs.drop at')[k] = xs[at' + k]) := by show _ = _; rw [List.getElem_drop]
      by_cases hx : xs[at' + k] = 0
      · have hb1 : (xs[at' + k] == 0) = true := by simp [hx]
        have HX := Lib.hid (El.lead_step (xs.drop at') k hkd HZ.out (HX0.out.trans hx))
        clear hx
        go_wp2
        go_round
        case rel => exact ⟨k + 1, by omega, by go_num, HX.out⟩
        case measure => simp [intOf]; omega
      · have hb1 : (xs[at' + k] == 0) = false := by simp [hx]
        have hbit := HB.out _ hlt
        have HL := Lib.hid (El.lead_of (xs.drop at') k hkd HZ.out (by rw [HX0.out]; exact hx))
        have HX1 : Hid ((xs.drop at')[k] = 1) := by show _ = _; rw [HX0.out]; omega
        clear hx hbit
        by_cases hsh : xs.length ≤ at' + 2 * k
        · have HN := Lib.hid (El.oneR_none (El.rg_short HL.out (show (xs.drop at').length ≤ 2 * k by omega)))
          go_wp2
          go_ret2
          exact ⟨by rw [HN.out]; rfl, rfl⟩
        · obtain ⟨zs, HR, HZL, HZB⟩ : ∃ zs : List Int, Hid (El.rg (xs.drop at') = (El.num 0 zs).map fun n => (n, 2 * k + 1)) ∧ Hid (zs.length = k + 1) ∧ Hid (∀ (j : Nat) (h : j < zs.length) (h2 : at' + (k + j) < xs.length), zs[j] = xs[at' + (k + j)]) :=
            ⟨_, El.rg_num0 HL.out (show 2 * k < (xs.drop at').length by omega) HX1.out, by show _ = _; simp; omega, fun j h h2 => by rw [List.getElem_take, List.getElem_drop, List.getElem_drop]⟩
          have w2k : IntKind.i64.wrap (2 * (k : Int) + 1) = 2 * k + 1 := IntWalk.i64_in _ (by omega)
          go_wp2
          go_loop [7, 8] (fun n i => ∃ (j : Nat) (m : Int), j ≤ k + 1 ∧ i = .int .i64 ((k + j : Nat) : Int) ∧ n = .int .i64 m ∧ 0 ≤ m ∧ m ≤ 1000000 ∧ El.num 0 zs = El.num m (zs.drop j)) (fun _ i => 2 * k + 1 - (intOf i).toNat)
          case atStart => exact ⟨0, 0, by omega, rfl, rfl, by omega, by omega, by simp⟩
          case round =>
            obtain ⟨j, m, hj, rfl, rfl, hm0, hm1, hnum⟩ := hrel
            have HN := Lib.hid hnum
            clear hnum
            by_cases hlt2 : j < k + 1
            · have ej : IntKind.i64.wrap ((at' : Int) + ((k + j : Nat) : Int)) = ((at' + (k + j) : Nat) : Int) := by rw [IntWalk.i64_in _ (by omega)]; omega
              have hjx : at' + (k + j) < xs.length := by omega
              have hcj := hc (at' + (k + j)) _ (ints_get hjx)
              have hjz : j < zs.length := by rw [HZL.out]; exact hlt2
              have hzj := HZB.out j hjz hjx
              obtain ⟨hx0, hx1⟩ := HB.out _ hjx
              have HS : Hid (El.num m (zs.drop j) = if 1000000 < 2 * m + xs[at' + (k + j)] then none else El.num (2 * m + xs[at' + (k + j)]) (zs.drop (j + 1))) := by
                show _ = _
                rw [List.drop_eq_getElem_cons hjz, El.num, hzj]
              clear hzj
              have hle : ((k + j : Nat) : Int) ≤ 2 * (k : Int) := by omega
              by_cases hbig : 1000000 < 2 * m + xs[at' + (k + j)]
              · have HO : Hid (El.rg (xs.drop at') = none) := by
                  show _ = _
                  have e1 := HS.out
                  rw [if_pos hbig] at e1
                  rw [HR.out, HN.out, e1]; rfl
                have HO2 := Lib.hid (El.oneR_none HO.out)
                go_wp2
                go_ret2
                exact ⟨by rw [HO2.out]; rfl, rfl⟩
              · have hbig' : 2 * m + xs[at' + (k + j)] ≤ 1000000 := by omega
                have e1 := Lib.hid (HS.out.trans (if_neg hbig))
                clear hbig HS
                go_wp2
                go_round
                case rel => exact ⟨j + 1, _, by omega, by go_num, rfl, by omega, by omega, HN.out.trans e1.out⟩
                case measure => simp [intOf]; omega
            · have ej : j = k + 1 := by omega
              have hgt : 2 * (k : Int) < ((k + j : Nat) : Int) := by omega
              have HO : Hid (El.oneR (xs.drop at') = (m, 2 * k + 1)) := by
                show _ = _
                refine El.oneR_some ?_
                rw [HR.out, HN.out, List.drop_eq_nil_of_le (by rw [HZL.out]; omega)]; rfl
              go_wp2
              go_ret2
              exact ⟨by rw [HO.out]; exact ret_val (by simp), rfl⟩
    · have hke : k = xs.length - at' := by omega
      have hll : El.lead (xs.drop at') = (xs.drop at').length := El.lead_all _ fun j hj => HZ.out j hj (by omega)
      have HN := Lib.hid (El.oneR_none (El.rg_short hll (by omega)))
      have hsh : xs.length ≤ at' + 2 * k := by omega
      go_wp2
      go_ret2
      exact ⟨by rw [HN.out]; rfl, rfl⟩

end Go.Proofs.YtlfinlfmlnclhaaDoor
