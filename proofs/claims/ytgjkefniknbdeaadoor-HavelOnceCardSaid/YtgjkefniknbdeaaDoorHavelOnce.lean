/- HavelOnce returns true for every input: the walk. Conditions: the listed variable holds its handle. -/
import Derived.Test.YtgjkefniknbdeaaDoorHavelFact
import Derived.Test.YtgjkefniknbdeaaDoorMadeP
namespace Go.Proofs.YtgjkefniknbdeaaDoor
open Go.RowKit Gr

theorem nats_intsO (N : List Nat) : nats N = ints (N.map fun (i : Nat) => (i : Int)) := by simp [nats, ints, List.map_map]
theorem falls_perm (N : List Nat) : (sortD N).Perm N ∧ (sortD N).Pairwise fun x y => y ≤ x := ⟨sortD_perm N, sortD_falls N⟩

theorem ints_sameN (v1 v2 : Value) (n : Nat) (xs : List Int) (w : World) (hx : xs.length = n) (hr1 : Rd w v1 n (ints xs)) (hr2 : Rd w v2 n (ints xs)) :
    Calls Tryd.prog 15 #[v1, v2] w fun e w' => e = .returned (.bool true) ∧ Below w.heap.size w w' := by
  subst hx
  exact ints_same' v1 v2 xs w hr1 hr2

theorem make_n (v : Value) (n : Nat) (N : List Nat) (w : World) (hr : Rd w v n (nats N)) (hN : N.length = n) (h1 : 1 ≤ n) (h8 : n ≤ 8) (h7 : ∀ x ∈ N, x ≤ 7) :
    Calls Tryd.prog 10 #[v] w (MadeR (hav (N.sum + 1) N) w.heap.size w) := by
  obtain ⟨m, rfl⟩ : ∃ m, n = m + 1 := ⟨n - 1, by omega⟩
  exact make_ok v m N w hr hN (by omega) h7

set_option maxRecDepth 100000 in
set_option maxHeartbeats 1000000 in
theorem havelOnce_bad {w : World} (hh : Handle w) (n : Int) {v : Value} {ls : List Ln} (hr : LinesRd w v ls) (hc : chk n ls ≠ 0) :
    Calls Tryd.prog 4 #[.int .i64 n, v] w fun e w' => e = .returned (.bool true) ∧ Below w.heap.size w w' := by
  have K := fun w hr => degOf_bad n v ls w hr hc
  clear hc
  go_enter Tryd.func4, Tryd.ntmps4
  go_wp2_with fail
  refine (havelFact_any _ hh).mono ?_
  rintro e w1 ⟨rfl, hB1⟩
  go_wp2_with fail
  refine (K _ (hr.later hB1)).mono ?_
  rintro e w2 ⟨rfl, hB2⟩
  have hB := below_c hB1 hB2
  clear K
  go_wp2
  go_ret
  exact ⟨rfl, hB⟩

set_option maxRecDepth 100000 in
set_option maxHeartbeats 4000000 in
theorem havelOnce_ok {w : World} (hh : Handle w) (n : Nat) {v : Value} {ls : List Ln} (hr : LinesRd w v ls) (hg : GoodG n ls) (hc : chk n ls = 0) :
    Calls Tryd.prog 4 #[.int .i64 (n : Int), v] w fun e w' => e = .returned (.bool true) ∧ Below w.heap.size w w' := by
  have KD := fun w hr => degOf_ok n v ls w hr hg hc
  have hn1 := hg.1
  have hn8 := hg.2.1
  have hNl := degN_length n ls
  have h7 : ∀ x ∈ degN n ls, x ≤ 7 := fun x hx => by
    obtain ⟨a, ha, rfl⟩ := List.mem_map.1 hx
    have := dg_lt (rN_irr hg) (List.mem_range.1 ha)
    omega
  obtain ⟨L, hL⟩ := can_hav ((degN n ls).sum + 1) (degN n ls) (by omega) (by omega) h7 ⟨sortD (degN n ls), sortD_perm _, sortD_falls _, canN_graph (rN_symm ls) (rN_irr hg) (sortD_perm _)⟩ (by omega)
  have hM := hav_made _ _ _ (by omega) hL
  have KM := fun v w hr => make_n v n (degN n ls) w hr hNl hn1 hn8 h7
  rw [hL] at KM
  have hDN : ints (degI n ls) = nats (degN n ls) := (nats_intsO _).symm
  have hdeg : degI n L = degI n ls := by
    unfold degI degN
    congr 1
    refine List.map_congr_left fun i hi => ?_
    have hi' := List.mem_range.1 hi
    have h1 := hM.deg i (by omega)
    rw [hNl, val_lt (by omega)] at h1
    rw [h1]
    simp [degN]
  have hDl := degI_length n ls
  have HG : Hid (L.length ≤ 24 → GoodG n L) := fun hl => by
    have := made_good (by omega) (by omega) hM hl
    rwa [hNl] at this
  clear hc hg hL hM h7
  generalize degI n ls = D at *
  generalize degN n ls = N at *
  go_enter Tryd.func4, Tryd.ntmps4
  go_wp2_with fail
  refine (havelFact_any _ hh).mono ?_
  rintro e w1 ⟨rfl, hB1⟩
  go_wp2_with fail
  refine (KD _ (hr.later hB1)).mono ?_
  rintro e w2 ⟨ad, cd, rfl, od, hB2⟩
  have hB02 := below_c hB1 hB2
  have rd2 := rd_of_owns od
  rw [hDN, hDl] at rd2
  rw [hDl]
  clear od KD
  go_wp2_with fail
  refine (KM _ _ rd2).mono ?_
  rintro e w3 (⟨e, _⟩ | ⟨L', am, cm, e, rfl, om, hB3⟩)
  · cases e
  cases e
  have hB03 := below_c hB02 hB3
  have rm : LinesRd w3 (.slice am L.length cm) L := rd_of_owns om
  have rd3 := rd2.later hB3
  clear om rd2 KM
  by_cases hl : 24 < L.length
  · have hd : decide ((L.length : Int) > 24) = true := by simp; omega
    have hd' : (24 : Int) < (L.length : Int) := by omega
    go_wp2
    go_ret
    exact ⟨rfl, hB03⟩
  · have hd : decide ((L.length : Int) > 24) = false := by simp; omega
    have hd' : ¬ (24 : Int) < (L.length : Int) := by omega
    have hgL := HG.out (by omega)
    have KD2 := degOf_ok n _ L w3 rm hgL (chk_good hgL)
    clear hgL hl
    go_wp2_with fail
    refine KD2.mono ?_
    rintro e w4 ⟨ak, ck, rfl, ok, hB4⟩
    have hB04 := below_c hB03 hB4
    have rk := rd_of_owns ok
    rw [hdeg, hDl] at rk
    rw [hdeg, hDl]
    rw [← hDN] at rd3
    have rd4 := rd3.later hB4
    go_wp2_with fail
    refine (ints_sameN _ _ n D _ hDl rk rd4).mono ?_
    rintro e w5 ⟨rfl, hB5⟩
    have hB05 := below_c hB04 hB5
    go_wp2
    go_ret
    exact ⟨rfl, hB05⟩

theorem havelOnce_any {w : World} (hh : Handle w) (n : Int) {v : Value} {ls : List Ln} (hr : LinesRd w v ls) :
    Calls Tryd.prog 4 #[.int .i64 n, v] w fun e w' => e = .returned (.bool true) ∧ Below w.heap.size w w' := by
  by_cases hc : chk n ls = 0
  · obtain ⟨k, rfl, hg⟩ := good_of hc
    exact havelOnce_ok hh k hr hg hc
  · exact havelOnce_bad hh n hr hc
end Go.Proofs.YtgjkefniknbdeaaDoor
