/- What the reading functions of package elias return: the walks. Conditions: in each statement. -/
import Derived.Test.YtlfinlfmlnclhaaDoorElias
namespace Go.Proofs.YtlfinlfmlnclhaaDoor
open Go.RowKit

theorem elem_ints : Tryd.prog.elem 36 = 3 := by kernel_rfl
theorem und_ints : Tryd.prog.underlying 36 = some (.slice (Tryd.prog.elem 36)) := by kernel_rfl
theorem sized_ints (w : World) : (sizeOf (Tryd.prog.elem 36)).run Tryd.prog w = .ok 1 w := by rw [elem_ints]; exact sized_of info_int w

theorem ints_length (xs : List Int) : (ints xs).length = xs.length := by simp [ints]
theorem ints_drop (xs : List Int) (k : Nat) : (ints xs).drop (k * 1) = ints (xs.drop k) := by simp [ints, List.map_drop]
theorem ints_take (xs : List Int) (k : Nat) : (ints xs).take (k * 1) = ints (xs.take k) := by simp [ints, List.map_take]

open El (allIn)

set_option maxHeartbeats 400000 in
theorem check_any (v : Value) (xs : List Int) (w : World) (hr : Rd w v xs.length (ints xs)) :
    Calls Tryd.prog 63 #[v] w fun e w' => e = .returned (errOf (El.chk xs)) ∧ w = w' := by
  have hr' := hr
  obtain ⟨a, c, rfl, hnc, hcm, h0, hcell⟩ := hr
  unfold maxLen at hcm
  clear h0 hcell
  by_cases hl : 600 < xs.length
  · have hl' : (600 : Int) < (xs.length : Int) := by omega
    go_enter Tryd.func63, Tryd.ntmps63
    go_wp2
    go_ret
    exact ⟨by simp [El.chk, hl, errOf], rfl⟩
  · have hl' : (xs.length : Int) ≤ (600 : Int) := by omega
    cases hall : allIn xs 0 1
    all_goals
      have HA := Lib.hid hall
      clear hall
      go_enter Tryd.func63, Tryd.ntmps63
      go_wp2_with fail
      refine (all_any _ _ xs 0 1 _ hr' rfl).mono ?_
      rintro e w' ⟨rfl, rfl⟩
      rw [HA.out]
      go_wp2
      go_ret
      exact ⟨by simp [El.chk, hl, errOf, HA.out], rfl⟩

/-- what 'number' hands back, as a value -/
def El.numV : Option Int → Value
  | some n => .tuple #[.int .i64 n, .bool true]
  | none => .tuple #[.int .i64 0, .bool false]

set_option maxHeartbeats 400000 in
theorem number_any (v : Value) (xs : List Int) (many : Nat) (w : World) (hr : Rd w v xs.length (ints xs)) (hb : ∀ (j : Nat) (h : j < xs.length), 0 ≤ xs[j] ∧ xs[j] ≤ 1) (hm : many < 9223372036854775807) :
    Calls Tryd.prog 65 #[.int .i64 1, v, .int .i64 many] w fun e w' =>
      e = .returned (El.numV (El.numRes 1 xs many)) ∧ w = w' := by
  have hr' := hr
  obtain ⟨a, c, rfl, hnc, hcm, h0, hcell⟩ := hr
  unfold maxLen at hcm
  clear h0
  by_cases hl : xs.length < many
  · have hl' : (xs.length : Int) < (many : Int) := by omega
    go_enter Tryd.func65, Tryd.ntmps65
    go_wp2
    go_ret2
    exact ⟨ret_val (by simp [El.numRes, hl, El.numV]), rfl⟩
  · have hl' : (many : Int) ≤ (xs.length : Int) := by omega
    obtain ⟨a', hrun, hr2⟩ := slice_to (P := Tryd.prog) (B := w.heap.size) 36 und_ints sized_ints hr' many (by omega)
    rw [ints_take] at hr2
    obtain ⟨_, _, hv, hnc2, hcm2, h02, hcell2⟩ := hr2
    cases hv
    clear h02 hcell hr'
    have hlen : (xs.take many).length = many := by simp; omega
    have HR : Hid (El.numRes 1 xs many = El.num 1 (xs.take many)) := by show _ = _; simp [El.numRes, hl]
    have hb2 : ∀ (j : Nat) (h : j < (xs.take many).length), 0 ≤ (xs.take many)[j] ∧ (xs.take many)[j] ≤ 1 := fun j h => by
      rw [List.getElem_take]; exact hb j (by omega)
    generalize xs.take many = ys at *
    have HL := Lib.hid hlen
    clear hlen hb
    go_enter Tryd.func65, Tryd.ntmps65
    go_wp2
    go_loop [8, 20] (fun u i => ∃ (k : Nat) (n : Int), k ≤ many ∧ i = .int .i64 k ∧ u = .int .i64 n ∧ 0 ≤ n ∧ n ≤ 1000000 ∧ El.num 1 ys = El.num n (ys.drop k)) (fun _ i => many - (intOf i).toNat)
    case atStart => exact ⟨0, 1, by omega, rfl, rfl, by omega, by omega, by simp⟩
    case round =>
      obtain ⟨k, n, hk, rfl, rfl, hn0, hn1, hnum⟩ := hrel
      have HN := Lib.hid hnum
      clear hnum
      by_cases hlt : k < many
      · obtain ⟨b, off, rfl, hbb, hc⟩ := hcell2 (by omega)
        have hkx : k < ys.length := by rw [HL.out]; exact hlt
        have hck := hc k _ (ints_get hkx)
        obtain ⟨hx0, hx1⟩ := hb2 k hkx
        have HS : Hid (El.num n (ys.drop k) = if 1000000 < 2 * n + ys[k] then none else El.num (2 * n + ys[k]) (ys.drop (k + 1))) := by
          show _ = _
          rw [List.drop_eq_getElem_cons hkx]; rfl
        by_cases hbig : 1000000 < 2 * n + ys[k]
        · go_wp2
          go_ret2
          have e1 := HS.out
          rw [if_pos hbig] at e1
          exact ⟨ret_val (by rw [HR.out, HN.out, e1]; rfl), rfl⟩
        · have hbig' : 2 * n + ys[k] ≤ 1000000 := by omega
          have e1 := Lib.hid (HS.out.trans (if_neg hbig))
          clear hbig HS
          go_wp2
          go_round
          case rel => exact ⟨k + 1, _, by omega, by go_num, rfl, by omega, by omega, HN.out.trans e1.out⟩
          case measure => simp [intOf]; omega
      · go_wp2
        go_ret2
        have e2 : ys.drop k = [] := List.drop_eq_nil_of_le (by rw [HL.out]; omega)
        exact ⟨ret_val (by rw [HR.out, HN.out, e2]; rfl), rfl⟩


/-- what a list of bits begins with, walked -/
theorem El.lead_step (xs : List Int) (k : Nat) (h : k < xs.length) (h0 : ∀ j (hj : j < xs.length), j < k → xs[j] = 0) (h1 : xs[k] = 0) : ∀ j (hj : j < xs.length), j < k + 1 → xs[j] = 0 := by
  intro j hj hlt
  by_cases e : j = k
  · subst e; exact h1
  · exact h0 j hj (by omega)

set_option maxHeartbeats 1000000 in
theorem readGamma1_none (v : Value) (xs : List Int) (w : World) (hr : Rd w v xs.length (ints xs)) (hb : ∀ (j : Nat) (h : j < xs.length), 0 ≤ xs[j] ∧ xs[j] ≤ 1) (hrg : El.rg xs = none) (hl : xs.length ≤ 100000) :
    Calls Tryd.prog 64 #[v] w fun e w' => e = .returned (.tuple #[.int .i64 0, .slice none 0 0, .bool false]) ∧ w = w' := by
  have hr' := hr
  obtain ⟨a, c, rfl, hnc, hcm, h0, hcell⟩ := hr
  unfold maxLen at hcm
  clear h0
  have HG := Lib.hid hrg
  have HB := Lib.hid hb
  clear hrg hb
  go_enter Tryd.func64, Tryd.ntmps64
  go_wp2
  go_loop [5] (fun i => ∃ (k : Nat), k ≤ xs.length ∧ i = .int .i64 k ∧ ∀ j (hj : j < xs.length), j < k → xs[j] = 0) (fun i => xs.length - (intOf i).toNat)
  case atStart => exact ⟨0, by omega, rfl, fun j _ h => by omega⟩
  case round =>
    obtain ⟨k, hk, rfl, hz⟩ := hrel
    have HZ := Lib.hid hz
    clear hz
    by_cases hlt : k < xs.length
    · obtain ⟨b, off, rfl, hbb, hc⟩ := hcell (by omega)
      have hck := hc k _ (ints_get hlt)
      by_cases hx : xs[k] = 0
      · have hb1 : (xs[k] == 0) = true := by simp [hx]
        have HX := Lib.hid hx
        clear hx
        go_wp2
        go_round
        case rel => exact ⟨k + 1, by omega, by go_num, El.lead_step xs k hlt HZ.out HX.out⟩
        case measure => simp [intOf]; omega
      · have hb1 : (xs[k] == 0) = false := by simp [hx]
        have hL := El.lead_of xs k hlt HZ.out hx
        have HN : Hid (El.numRes 1 (xs.drop (k + 1)) k = none) := by
          have := HG.out
          rw [El.rg, hL, if_neg (by omega)] at this
          show _ = _
          simpa using this
        clear hL hx
        obtain ⟨a', hrun, hr2⟩ := slice_from (P := Tryd.prog) (B := w.heap.size) 36 und_ints sized_ints hr' (by simp [ints]) (k + 1) (by omega)
        rw [ints_drop] at hr2
        have hlen : (xs.drop (k + 1)).length = xs.length - (k + 1) := by simp
        have HR := Lib.hid hr2
        have ek : ((k + 1 : Nat) : Int) = (k : Int) + 1 := by omega
        rw [ek] at hrun
        have hne : ((k : Int) == (xs.length : Int)) = false := by simp; omega
        have HL := Lib.hid hlen
        clear ek hr2 hlen hr'
        go_wp2_with fail
        refine (number_any _ (xs.drop (k + 1)) k _ (by rw [HL.out]; exact HR.out) (fun j h => by rw [List.getElem_drop]; exact HB.out _ _) (by omega)).mono ?_
        rintro e w' ⟨rfl, rfl⟩
        rw [HN.out]
        simp only [El.numV]
        go_wp2
        go_ret3
        exact ⟨rfl, rfl⟩
    · have hne : ((k : Int) == (xs.length : Int)) = true := by simp; omega
      have hge : (xs.length : Int) ≤ (k : Int) := by omega
      go_wp2
      go_ret3
      exact ⟨rfl, rfl⟩

set_option maxHeartbeats 1000000 in
theorem readGamma1_some (B : Nat) (v : Value) (xs : List Int) (w : World) (n : Int) (m : Nat) (hrB : RdB B w v xs.length (ints xs)) (hB : B ≤ w.heap.size) (hb : ∀ (j : Nat) (h : j < xs.length), 0 ≤ xs[j] ∧ xs[j] ≤ 1) (hrg : El.rg xs = some (n, m)) (hl : xs.length ≤ 100000) :
    Calls Tryd.prog 64 #[v] w fun e w' => ∃ v', e = .returned (.tuple #[.int .i64 n, v', .bool true]) ∧ RdB B w' v' (xs.drop m).length (ints (xs.drop m)) ∧ Below w.heap.size w w' := by
  have hr' := hrB
  obtain ⟨a, c, rfl, hnc, hcm, h0, hcell⟩ := hrB
  unfold maxLen at hcm
  clear h0
  have HG := Lib.hid hrg
  have HB := Lib.hid hb
  clear hrg hb
  go_enter Tryd.func64, Tryd.ntmps64
  go_wp2
  go_loop [5] (fun i => ∃ (k : Nat), k ≤ xs.length ∧ i = .int .i64 k ∧ ∀ j (hj : j < xs.length), j < k → xs[j] = 0) (fun i => xs.length - (intOf i).toNat)
  case atStart => exact ⟨0, by omega, rfl, fun j _ h => by omega⟩
  case round =>
    obtain ⟨k, hk, rfl, hz⟩ := hrel
    have HZ := Lib.hid hz
    clear hz
    by_cases hlt : k < xs.length
    · obtain ⟨b, off, rfl, hbb, hc⟩ := hcell (by omega)
      have hck := hc k _ (ints_get hlt)
      by_cases hx : xs[k] = 0
      · have hb1 : (xs[k] == 0) = true := by simp [hx]
        have HX := Lib.hid hx
        clear hx
        go_wp2
        go_round
        case rel => exact ⟨k + 1, by omega, by go_num, El.lead_step xs k hlt HZ.out HX.out⟩
        case measure => simp [intOf]; omega
      · have hb1 : (xs[k] == 0) = false := by simp [hx]
        have hL := El.lead_of xs k hlt HZ.out hx
        have HN : Hid (El.numRes 1 (xs.drop (k + 1)) k = some n ∧ m = 2 * k + 1) := by
          have := HG.out
          rw [El.rg, hL, if_neg (by omega)] at this
          show _ ∧ _
          simp at this
          obtain ⟨a0, h1, h2, h3⟩ := this
          exact ⟨by rw [h1, h2], h3.symm⟩
        have hnot : 2 * k + 1 ≤ xs.length := by
          have := HN.out.1
          unfold El.numRes at this
          split at this
          · cases this
          · rename_i h; simp at h; omega
        clear hL hx
        obtain ⟨a', hrun, hr2⟩ := slice_from (P := Tryd.prog) 36 und_ints sized_ints hr' (by simp [ints]) (k + 1) (by omega)
        rw [ints_drop] at hr2
        obtain ⟨a2, hrun2, hr3⟩ := slice_from (P := Tryd.prog) 36 und_ints sized_ints hr' (by simp [ints]) (2 * k + 1) hnot
        rw [ints_drop] at hr3
        have hlen : (xs.drop (k + 1)).length = xs.length - (k + 1) := by simp
        have HR := Lib.hid hr2
        have HR3 := Lib.hid hr3
        have ek : ((k + 1 : Nat) : Int) = (k : Int) + 1 := by omega
        rw [ek] at hrun
        have ek2 : ((2 * k + 1 : Nat) : Int) = 2 * (k : Int) + 1 := by omega
        rw [ek2] at hrun2
        have hne : ((k : Int) == (xs.length : Int)) = false := by simp; omega
        have HL := Lib.hid hlen
        clear ek ek2 hr2 hlen hr' hr3
        go_wp2_with fail
        refine (number_any _ (xs.drop (k + 1)) k _ (by rw [HL.out]; exact (HR.out).rd hB) (fun j h => by rw [List.getElem_drop]; exact HB.out _ _) (by omega)).mono ?_
        rintro e w' ⟨rfl, rfl⟩
        rw [HN.out.1]
        simp only [El.numV]
        have w1 : IntKind.i64.wrap (2 * (k : Int)) = 2 * k := IntWalk.i64_in _ (by omega)
        have w2 : IntKind.i64.wrap (2 * (k : Int) + 1) = 2 * k + 1 := IntWalk.i64_in _ (by omega)
        go_wp2
        go_quiet (fail)
        clear w1 w2
        go_wp2
        go_ret3
        refine ⟨_, rfl, ?_, below_drewN' _ _⟩
        have e2 := HN.out.2
        subst e2
        have := HR3.out
        simp only [List.length_drop]
        exact this.later ((below_drewN' _ _).mono hB)
    · exfalso
      have := HG.out
      have e : El.lead xs = xs.length := El.lead_all xs fun j hj => HZ.out j hj (by omega)
      rw [El.rg, if_pos e] at this
      cases this

end Go.Proofs.YtlfinlfmlnclhaaDoor
