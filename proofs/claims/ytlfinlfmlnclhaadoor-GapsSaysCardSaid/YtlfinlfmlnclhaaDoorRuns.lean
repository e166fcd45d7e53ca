/- What gaps.Runs returns: the walk. Conditions: in each statement. -/
import Derived.Test.YtlfinlfmlnclhaaDoorGapsFact
import Derived.Test.YtlfinlfmlnclhaaDoorRunsP
import Derived.Test.YtlfinlfmlnclhaaDoorQueue
import Derived.Test.YtlfinlfmlnclhaaDoorFlex
namespace Go.Proofs.YtlfinlfmlnclhaaDoor
open Go.RowKit
open El (at0 gAt gapsErr GapsOk lastOf bump runsUp runsOf)

theorem info_pair : (Tryd.prog.info? 68).map (fun i => (i.zero, i.size, i.bytes)) = some (some (.agg #[.int .i64 0, .int .i64 0]), 2, 16) := by kernel_rfl

/-- two cells each -/
abbrev pairsV (r : List (Int × Int)) : List Value := r.flatMap fun p => [.int .i64 p.1, .int .i64 p.2]
theorem pairsV_length (r : List (Int × Int)) : (pairsV r).length = r.length * 2 := by
  induction r with
  | nil => rfl
  | cons p r ih => simp only [pairsV, List.flatMap_cons, List.length_append] at ih ⊢; rw [ih]; simp; omega
theorem pairsV_append (a b : List (Int × Int)) : pairsV (a ++ b) = pairsV a ++ pairsV b := by simp [pairsV]
theorem pairsV_get : ∀ (r : List (Int × Int)) (k : Nat) (p : Int × Int), r[k]? = some p → (pairsV r)[k * 2]? = some (.int .i64 p.1) ∧ (pairsV r)[k * 2 + 1]? = some (.int .i64 p.2) := by
  intro r
  induction r with
  | nil => intro k p h; simp at h
  | cons a r ih =>
    intro k p h
    cases k with
    | zero => simp at h; subst h; simp [pairsV]
    | succ k =>
      have := ih k p (by simpa using h)
      have e : ∀ j, (pairsV (a :: r))[j + 2]? = (pairsV r)[j]? := fun j => by simp [pairsV]
      rw [show (k + 1) * 2 = k * 2 + 2 from by omega, show k * 2 + 2 + 1 = k * 2 + 1 + 2 from by omega, e, e]
      exact this
theorem pairsV_set (r : List (Int × Int)) (k : Nat) (p : Int × Int) (x : Int) (h : r[k]? = some p) : (pairsV r).set (k * 2 + 1) (.int .i64 x) = pairsV (r.set k (p.1, x)) := by
  induction r generalizing k with
  | nil => simp at h
  | cons a r ih =>
    cases k with
    | zero => simp at h; subst h; simp [pairsV]
    | succ k =>
      have := ih k (by simpa using h)
      have e : ∀ (b : Int × Int) (s : List (Int × Int)), pairsV (b :: s) = .int .i64 b.1 :: .int .i64 b.2 :: pairsV s := fun b s => by simp [pairsV]
      rw [List.set_cons_succ, e, e, show (k + 1) * 2 + 1 = (k * 2 + 1) + 1 + 1 from by omega, List.set_cons_succ, List.set_cons_succ, this]

theorem pairs_in {w : World} {a : Option Addr} {n c : Nat} {r : List (Int × Int)} (h : Rd w (.slice a n c) n (pairsV r)) (_ : r.length = n) (hn : 0 < n) :
    ∃ b off, a = some ⟨b, off, none⟩ ∧ n ≤ c ∧ c ≤ 9223372036854775807 ∧ ∀ i p, r[i]? = some p → w.cell? ⟨b, off + i * 2, none⟩ = some (.int .i64 p.1) ∧ w.cell? ⟨b, off + i * 2 + 1, none⟩ = some (.int .i64 p.2) := by
  obtain ⟨_, _, hv, h1, h2, _, hcell⟩ := h
  cases hv
  unfold maxLen at h2
  obtain ⟨b, off, rfl, hblt, hcl⟩ := hcell hn
  refine ⟨b, off, rfl, h1, by omega, fun i p hp => ?_⟩
  obtain ⟨g1, g2⟩ := pairsV_get r i p hp
  exact ⟨hcl _ _ g1, hcl _ _ g2⟩

set_option maxRecDepth 100000 in
set_option maxHeartbeats 1000000 in
theorem runs_bad (v : Value) (xs : List Int) (w : World) (hr : Rd w v xs.length (ints xs)) (he : gapsErr xs ≠ 0) :
    Calls Tryd.prog 43 #[v] w fun e w' => e = .returned (.tuple #[.slice none 0 0, errV (gapsErr xs)]) ∧ w = w' := by
  have HE := Lib.hid (gerr_pos he)
  clear he
  go_enter Tryd.func43, Tryd.ntmps43
  go_wp2_with fail
  refine (gapsCheck_any _ xs _ hr).mono ?_
  rintro e w' ⟨rfl, rfl⟩
  rw [HE.out]
  go_wp2
  go_ret2
  exact ⟨rfl, rfl⟩

set_option maxRecDepth 100000 in
set_option maxHeartbeats 2000000 in
theorem runs_ok (v : Value) (xs : List Int) (w : World) (hr : Rd w v xs.length (ints xs)) (hg : GapsOk xs) :
    Calls Tryd.prog 43 #[v] w fun e w' => ∃ u, e = .returned (.tuple #[u, .nilIface]) ∧ w'.ownsRow w.heap.size 68 2 u (runsOf xs).length (pairsV (runsOf xs)) ∧ Below w.heap.size w w' := by
  obtain ⟨i0, hi, hz0, hz1, hz2⟩ := info_parts info_pair
  obtain ⟨a, c, rfl, hc1, hc2⟩ := rd_form hr
  have HE : Hid (errOf (gapsErr xs) = .nilIface) := by show _ = _; rw [El.gapsErr_ok hg]; rfl
  have HG := Lib.hid hg
  have HI := Lib.hid (El.runs_inv hg)
  have hl30 := hg.len
  clear hg
  go_enter Tryd.func43, Tryd.ntmps43
  go_wp2_with fail
  refine (gapsCheck_any _ xs _ hr).mono ?_
  rintro e w' ⟨rfl, rfl⟩
  rw [HE.out]
  go_wp2_with fail
  go_loopw [5, 15] (fun o i wr => ∃ k : Nat, k ≤ xs.length ∧ i = .int .i64 k ∧ wr.ownsRow w.heap.size 68 2 o (runsUp xs k).length (pairsV (runsUp xs k)) ∧ Below w.heap.size w wr) (fun _ i _ => xs.length - (intOf i).toNat)
  case atStart => exact ⟨0, by omega, rfl, World.ownsRow_nil _ _ _ _, Below.refl _ _⟩
  case round =>
    obtain ⟨k, hk, rfl, ho, hB⟩ := hrel
    by_cases hlt : k < xs.length
    · have hki : (k : Int) < (xs.length : Int) := by omega
      obtain ⟨b, off, rfl, _, _, hb, hcx⟩ := rd_cells0 hr rfl (by omega)
      have hck := (hB.cell (p := ⟨b, off + k, none⟩) hb).trans (hcx k hlt)
      have hfew := (HI.out k hk).few
      have hbs := hB.size
      rcases Nat.eq_zero_or_pos k with h0 | h0
      · subst h0
        rw [Nat.add_zero] at hck
        have HR : Hid (runsUp xs (0 + 1) = runsUp xs 0 ++ [(at0 xs 0, 1)]) := by show _ = _; simp only [runsUp]; rw [if_neg (by omega)]
        have hk0 : ¬ (0 : Int) < 0 := by omega
        clear hcx
        go_wp2_with (at_builtin; go_must (refine wpl_app _ _ _ (AppTo.refl ho) rfl rfl Tryd.underlying66 hi hz0 hz1 hz2 rfl (by decide) rfl rfl rfl (by simp [Value.oneCell']) (by decide) (by omega) hbs ?_); intro v3 w3 hA3 hne3 hst3)
        go_roundw
        case rel => exact ⟨1, by omega, by go_num, by rw [HR.out, pairsV_append]; simpa [pairsV] using hA3.own, hB.trans hst3⟩
        case measure => simp [intOf]; omega
      · obtain ⟨j, rfl⟩ : ∃ j, k = j + 1 := ⟨k - 1, by omega⟩
        have hcj := (hB.cell (p := ⟨b, off + j, none⟩) hb).trans (hcx j (by omega))
        have hji : (j : Int) < (xs.length : Int) := by omega
        have hjp : 0 < ((j + 1 : Nat) : Int) := by omega
        have wj : IntKind.i64.wrap (((j + 1 : Nat) : Int) - 1) = (j : Int) := by rw [IntWalk.i64_in _ (by omega)]; omega
        have wj2 : IntKind.i64.wrap ((j : Int) + 1 - 1) = (j : Int) := by rw [IntWalk.i64_in _ (by omega)]; omega
        obtain ⟨a1, a2, _⟩ := El.gAt_zero (HG.out.all j (by omega))
        have wx : IntKind.i64.wrap (at0 xs j + 1) = at0 xs j + 1 := IntWalk.i64_in _ (by omega)
        clear hcx
        by_cases hc : at0 xs j + 1 = at0 xs (j + 1)
        · have HR : Hid (runsUp xs (j + 1 + 1) = bump (runsUp xs (j + 1))) := by show _ = _; simp only [runsUp]; rw [if_pos ⟨by omega, hc⟩]
          have hcb : (at0 xs j + 1 == at0 xs (j + 1)) = true := by simp [hc]
          obtain ⟨q, p, hq, hp⟩ := (HI.out (j + 1) hk).some h0
          have hpc := (HI.out (j + 1) hk).count p (by rw [hq]; simp)
          generalize runsUp xs (j + 1) = r at *
          have hlr : r.length = q.length + 1 := by rw [hq]; simp
          have hrn : r[q.length]? = some p := by rw [hq]; simp
          have hbump : bump r = r.set q.length (p.1, p.2 + 1) := by
            unfold El.bump
            rw [hlr, Nat.add_sub_cancel, hrn]; rfl
          have HBM := Lib.hid hbump
          have hg2 := (pairsV_get r q.length p hrn).2
          have hsv := pairsV_set r q.length p (p.2 + 1) hrn
          rw [hlr] at ho hfew
          obtain ⟨g, cap, rfl, hgw, hgl⟩ := owns_form ho (by omega)
          have hcap : q.length + 1 ≤ cap ∧ cap ≤ 9223372036854775807 := by
            have := rd_of_owns ho
            obtain ⟨a', c', e, h1, h2, _⟩ := this
            cases e
            unfold maxLen at h2
            exact ⟨h1, by omega⟩
          have hcell := ho.cellAt (q.length * 2 + 1) (by omega)
          rw [hg2] at hcell
          have hfr := ho.frozenAt (q.length * 2 + 1)
          have hst := (ho.stored (q.length * 2 + 1) (.int .i64 (p.2 + 1))).1
          rw [hsv] at hst
          generalize hn : q.length = n at *
          have hni : (n : Int) < ((n + 1 : Nat) : Int) := by omega
          have hni' : (n : Int) < (n : Int) + 1 := by omega
          have wn : IntKind.i64.wrap (((n + 1 : Nat) : Int) - 1) = (n : Int) := by rw [IntWalk.i64_in _ (by omega)]; omega
          have wn2 : IntKind.i64.wrap ((n : Int) + 1 - 1) = (n : Int) := by rw [IntWalk.i64_in _ (by omega)]; omega
          have wn3 : IntKind.i64.wrap (n : Int) = (n : Int) := IntWalk.i64_in _ (by omega)
          have wp : IntKind.i64.wrap (p.2 + 1) = p.2 + 1 := IntWalk.i64_in _ (by omega)
          clear hc hq hp hrn hbump hg2 hsv a1 a2
          generalize at0 xs (j + 1) = x at *
          generalize at0 xs j = y at *
          go_wp2_with fail
          refine wp_region_still_tail 10 (by kernel_rfl) (by kernel_rfl) ?_
          simp only [List.take_succ_cons, List.take_zero, List.drop_succ_cons, List.drop_zero]
          change wpStill _ _ (World.drew _) _ _ _
          repeat still_step
          refine wpStill_nil ?_
          change wpList _ _ _ _ _ (World.drew _)
          go_wp2
          go_roundw
          case rel =>
            refine ⟨j + 1 + 1, by omega, by go_num, ?_, (hB.setCell (p := ⟨g, n * 2 + 1, none⟩) hgw _).drew⟩
            rw [HR.out, HBM.out, List.length_set, hlr]
            exact hst.drew
          case measure => simp [intOf]; omega
        · have HR : Hid (runsUp xs (j + 1 + 1) = runsUp xs (j + 1) ++ [(at0 xs (j + 1), 1)]) := by show _ = _; simp only [runsUp]; rw [if_neg (fun h => hc h.2)]
          have hcb : (at0 xs j + 1 == at0 xs (j + 1)) = false := by simp [hc]
          clear hc a1 a2
          generalize at0 xs (j + 1) = x at *
          generalize at0 xs j = y at *
          go_wp2_with (at_builtin; go_must (refine wpl_app _ _ _ (AppTo.refl ho) rfl rfl Tryd.underlying66 hi hz0 hz1 hz2 rfl (by decide) rfl rfl rfl (by simp [Value.oneCell']) (by decide) (by omega) hbs ?_); intro v3 w3 hA3 hne3 hst3)
          go_roundw
          case rel => exact ⟨j + 1 + 1, by omega, by go_num, by rw [HR.out, pairsV_append]; simpa [pairsV] using hA3.own, hB.trans hst3⟩
          case measure => simp [intOf]; omega
    · have hke : k = xs.length := by omega
      subst hke
      go_wp2
      go_ret2
      exact ⟨_, rfl, ho, hB⟩

end Go.Proofs.YtlfinlfmlnclhaaDoor
