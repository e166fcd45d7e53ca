/- What R.lined returns: the walk. Conditions: in each statement. -/
import Derived.Test.YtoomdnbbbaooeaaDoorRefTrail
namespace Go.Proofs.YtoomdnbbbaooeaaDoor
open Go.RowKit Gr

theorem far_conn {O : List Nat} {n a : Nat} (hO : Bounded n O) (v : Nat) : 0 ≤ farF O n a v ↔ Conn O a v := by
  constructor
  · intro h
    have hs := far_sound n a v h
    generalize (farF O n a v).toNat = t at hs
    induction hs with
    | refl => exact fun T h0 _ => h0
    | step _ e ih => exact fun T h0 hT => hT _ _ (ih (by
        rename_i u v' t' hst
        exact (far_full n a u _ (steps_wk hO hst)).1) T h0 hT) e
  · intro h
    exact h (fun v => 0 ≤ farF O n a v) (by rw [far_diag]; omega) (fun u v hu huv => (far_full n a v _ (steps_wk hO ((far_sound n a u hu).step huv))).1)

set_option maxRecDepth 100000 in
set_option maxHeartbeats 2000000 in
theorem refLined_ok (n : Nat) (v : Value) (ls : List Ln) (a : Nat) (w : World) (hr : LinesRd w v ls) (hg : GoodG n ls) (ha : a < n) :
    Calls Tryd.prog 22 #[.int .i64 (n : Int), v, .int .i64 (a : Int)] w fun e w' => ∃ b : Bool, e = .returned (.bool b) ∧ (b = true ↔ Joined n ls a) ∧ Below w.heap.size w w' := by
  have HG := Lib.hid hg
  have hl24 := hg.2.2.1
  have hn8 := hg.2.1
  have HJ : Hid (Joined n ls a ↔ ∀ i, (h : i < ls.length) → 0 ≤ farF (beside n ls) n a ls[i].1.toNat) := by
    show _ ↔ _
    unfold Joined
    constructor
    · intro h i hi
      exact (far_conn (adj_bounded HG.out) _).2 (h _ (List.getElem_mem hi))
    · intro h l hl
      obtain ⟨i, hi, rfl⟩ := List.mem_iff_getElem.1 hl
      exact (far_conn (adj_bounded HG.out) _).1 (h i hi)
  have KF := refFar_ok n v ls w hr hg
  clear hg
  obtain ⟨av, cv, rfl, _⟩ := id hr
  go_enter Tryd.func22, Tryd.ntmps22
  go_wp2_with fail
  refine KF.mono ?_
  rintro e w1 ⟨vo, G, rfl, hGl, hM⟩
  have hGp : 0 < G.length := by omega
  obtain ⟨go, co, rfl⟩ := owns_some' hM.out hGp
  have haG : a < G.length := by omega
  have ca := owns_at hM.out (k := a) (u := .slice (some ⟨G[a], 0, none⟩) n n) (by simp [haG])
  have hgo := (hM.out.lt go rfl).2
  have hrow := hM.rows a haG
  have hB1 := hM.below
  rw [hGl]
  generalize G[a] = ga at *
  have hga := (hrow.lt ga rfl).2
  have HROW : Hid (∀ x, x < n → w1.cell? ⟨ga, x, none⟩ = some (.int .i64 (farF (beside n ls) n a x))) := fun x hx => owns_at hrow (by simp [hx])
  have hai : (a : Int) < (n : Int) := by omega
  clear hM hGl hGp haG hrow KF
  go_wp2_with fail
  go_loopw [8] (fun ii wr => ∃ k : Nat, k ≤ ls.length ∧ ii = .int .i64 k ∧ Hid (∀ i, (h : i < ls.length) → i < k → 0 ≤ farF (beside n ls) n a ls[i].1.toNat) ∧ Below w1.heap.size w1 wr) (fun ii _ => ls.length - (intOf ii).toNat)
  case atStart => exact ⟨0, by omega, rfl, fun i _ h => absurd h (by omega), Below.refl _ _⟩
  case round =>
    obtain ⟨k, hk, rfl, HA, hB⟩ := hrel
    have hB0 := below_c hB1 hB
    by_cases hlt : k < ls.length
    · have hki : (k : Int) < (ls.length : Int) := by omega
      obtain ⟨_, _, e, _, _, _, hcell⟩ := hr.later hB0
      cases e
      obtain ⟨bv, ov, rfl, hbv, hcx⟩ := hcell (by omega)
      obtain ⟨g1, g2⟩ := lines_at hcx hlt
      obtain ⟨x, y, hxy, h1, h2, h3, h4⟩ := good_line HG.out (List.getElem_mem hlt)
      rw [hxy] at g1
      simp only at g1
      have hxi : (x : Int) < (n : Int) := by omega
      have c1 := (hB.cell (p := ⟨go, a, none⟩) hgo).trans ca
      have c2 := (hB.cell (p := ⟨ga, x, none⟩) hga).trans (HROW.out x h3)
      have hfx : farF (beside n ls) n a ls[k].1.toNat = farF (beside n ls) n a x := by rw [hxy]; simp
      have HN : Hid (0 ≤ farF (beside n ls) n a x → ∀ i, (h : i < ls.length) → i < k + 1 → 0 ≤ farF (beside n ls) n a ls[i].1.toNat) := fun hd i hi hik => by
        by_cases e : i = k
        · subst e; rw [hfx]; exact hd
        · exact HA.out i hi (by omega)
      have HY : Hid (farF (beside n ls) n a x < 0 → ¬ Joined n ls a) := fun hd hj => by
        have := HJ.out.1 hj k hlt
        rw [hfx] at this; omega
      clear hcx hcell g2 hxy h1 hfx
      generalize farF (beside n ls) n a x = d at *
      by_cases hd : d < 0
      · have HY2 := Lib.hid (HY.out hd)
        have hdd : decide (d < 0) = true := by simp; exact hd
        go_wp2
        go_quiet (fail)
        go_wp2
        go_ret
        exact ⟨false, rfl, ⟨fun h => (by cases h), fun h => absurd h HY2.out⟩, below_c hB0 (below_drewN' _ _)⟩
      · have HN2 := Lib.hid (HN.out (by omega))
        have hdd : decide (d < 0) = false := by simp; omega
        go_wp2
        go_quiet (fail)
        go_wp2
        go_roundw
        case rel => exact ⟨k + 1, by omega, by go_num, HN2, hB.trans ((below_drewN' _ _).mono hB.size)⟩
        case measure => simp [intOf]; omega
    · go_wp2
      go_ret
      exact ⟨true, rfl, ⟨fun _ => HJ.out.2 (fun i hi => HA.out i hi (by omega)), fun _ => rfl⟩, hB0⟩

end Go.Proofs.YtoomdnbbbaooeaaDoor
