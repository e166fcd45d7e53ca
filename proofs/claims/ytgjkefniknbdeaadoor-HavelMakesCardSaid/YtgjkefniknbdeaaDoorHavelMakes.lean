/- HavelMakes returns true for every input: the walk. Conditions: the listed variable holds its handle. -/
import Derived.Test.YtgjkefniknbdeaaDoorDegreeSays
import Derived.Test.YtgjkefniknbdeaaDoorHavelFact
import Derived.Test.YtgjkefniknbdeaaDoorBetw
import Derived.Deep.RegionHeld3
namespace Go.Proofs.YtgjkefniknbdeaaDoor
open Go.RowKit Gr

theorem made_betw {N : List Nat} {L : List Ln} (h : Made N L) {k : Nat} (hk : k < L.length) : betw L L[k].1 L[k].2 = 1 := by
  obtain ⟨a, b, hab, _, _, _, e⟩ := h.ends _ (List.getElem_mem hk)
  have h1 : L.filter (betw1 L[k].1 L[k].2) = L.filter fun l => l == L[k] := List.filter_congr fun l hl => by
    obtain ⟨x, y, hxy, _, _, _, rfl⟩ := h.ends l hl
    rw [e]
    unfold betw1
    rw [Bool.eq_iff_iff]
    simp only [Bool.or_eq_true, Bool.and_eq_true, beq_iff_eq, Prod.mk.injEq]
    omega
  unfold betw
  rw [h1, ← List.countP_eq_length_filter]
  have := List.Nodup.count h.once (a := L[k])
  rw [if_pos (List.getElem_mem hk), List.count_eq_countP] at this
  exact this

set_option maxRecDepth 100000 in
set_option maxHeartbeats 4000000 in
theorem havelMakes_bad {w : World} (hh : Handle w) {v : Value} {xs : List Int} (hr : Rd w v xs.length (ints xs)) (hc : degChk xs ≠ 0) :
    Calls Tryd.prog 7 #[v] w fun e w' => e = .returned (.bool true) ∧ Below w.heap.size w w' := by
  have KC := fun w hr => can_bad v xs.length xs w hr rfl hc
  have KM := fun w hr => make_bad v xs.length xs w hr rfl hc
  generalize degChk xs = q at *
  clear hc
  go_enter Tryd.func7, Tryd.ntmps7
  go_wp2_with fail
  refine (havelFact_any _ hh).mono ?_
  rintro e w1 ⟨rfl, hB1⟩
  have hr1 := hr.later hB1
  go_wp2_with fail
  refine (KC _ hr1).mono ?_
  rintro e w' ⟨rfl, rfl⟩
  go_wp2_with fail
  refine (KM _ hr1).mono ?_
  rintro e w' ⟨rfl, rfl⟩
  clear KC KM
  go_wp2
  go_ret
  exact ⟨rfl, hB1⟩

set_option maxRecDepth 100000 in
set_option maxHeartbeats 8000000 in
theorem havelMakes_ok {w : World} (hh : Handle w) {v : Value} {n : Nat} {N : List Nat} (hr : Rd w v n (nats N)) (hN : N.length = n) (hn1 : 1 ≤ n) (hn8 : n ≤ 8) (h7 : ∀ x ∈ N, x ≤ 7) :
    Calls Tryd.prog 7 #[v] w fun e w' => e = .returned (.bool true) ∧ Below w.heap.size w w' := by
  have hl : (N.map fun (i : Nat) => (i : Int)).length = n := by simp [hN]
  have h7i : ∀ x ∈ (N.map fun (i : Nat) => (i : Int)), 0 ≤ x ∧ x ≤ 7 := fun x hx => by
    obtain ⟨y, hy, rfl⟩ := List.mem_map.1 hx
    have := h7 y hy
    omega
  have hni := nats_intsH N
  have KC := fun w (hr : Rd w v n (nats N)) => can_ok v n (N.map fun (i : Nat) => (i : Int)) w (by rw [← hni]; exact hr) hl (by omega) hn8 h7i
  rw [can_hav_is (by omega) (by omega) h7] at KC
  have KM : ∀ w', Rd w' v n (nats N) → Calls Tryd.prog 10 #[v] w' (MadeR (hav (N.sum + 1) N) w'.heap.size w') := fun w' hr' => by
    obtain ⟨m, rfl⟩ : ∃ m, n = m + 1 := ⟨n - 1, by omega⟩
    exact make_ok v m N w' hr' hN (by omega) h7
  have KS := fun w (hr : Rd w v n (nats N)) => sum_ok v n (N.map fun (i : Nat) => (i : Int)) w (by rw [← hni]; exact hr) hl (by omega) (fun x hx => by have := h7i x hx; omega)
  rw [sum_castS] at KS
  have HMD : Hid (∀ L, hav (N.sum + 1) N = some L → Made N L) := fun L h => hav_made _ _ _ (by omega) h
  have HS56 : N.sum ≤ 56 := by have := sum7 N h7; omega
  generalize hav (N.sum + 1) N = R at *
  obtain ⟨av, cv, rfl, _⟩ := id hr
  clear hl h7i hni
  go_enter Tryd.func7, Tryd.ntmps7
  go_wp2_with fail
  refine (havelFact_any _ hh).mono ?_
  rintro e w1 ⟨rfl, hB1⟩
  have hr1 := hr.later hB1
  go_wp2_with fail
  refine (KC _ hr1).mono ?_
  rintro e w2 ⟨rfl, hB2⟩
  have hB02 := below_c hB1 hB2
  have hr2 := hr1.later hB2
  clear KC hB1 hr1 hB2
  go_wp2_with fail
  refine (KM _ hr2).mono ?_
  rintro e w3 (⟨rfl, rfl, hB3⟩ | ⟨L, aL, cL, rfl, rfl, oL, hB3⟩)
  · have hB03 := below_c hB02 hB3
    clear KM KS HMD
    go_wp2_with fail
    refine (errorSame 5 _ (by omega) (hh.later hB03)).mono ?_
    rintro e w4 ⟨rfl, hB4⟩
    have hB04 := below_c hB03 hB4
    go_wp2
    go_ret
    exact ⟨rfl, hB04⟩
  · have hB03 := below_c hB02 hB3
    have hr3 := hr2.later hB3
    have hrL : LinesRd w3 (.slice aL L.length cL) L := rd_of_owns oL
    have hM := HMD.out L rfl
    have hs := hM.sum
    have KS3 := KS w3 hr3
    rw [← hs] at KS3
    have hcs : ((2 * L.length : Nat) : Int) = 2 * (L.length : Int) := by omega
    rw [hcs] at KS3
    have hL28 : L.length ≤ 28 := by omega
    have HBT : Hid (∀ k (hk : k < L.length), betw L L[k].1 L[k].2 = 1) := fun k hk => made_betw hM hk
    have HEN : Hid (∀ k (hk : k < L.length), ∃ a b : Nat, a < b ∧ b < n ∧ L[k] = ((a : Int), (b : Int))) := fun k hk => by
      obtain ⟨a, b, h1, h2, _, _, e⟩ := hM.ends _ (List.getElem_mem hk)
      exact ⟨a, b, h1, by omega, e⟩
    have HNR : Hid (∀ i : Nat, i < n → (nearU L (i : Int) n).length = val N i) := fun i hi => by
      have := hM.deg i (by omega)
      rw [hN] at this
      rw [near_dg]; exact this
    have wn1 : IntKind.i64.wrap ((n : Int) - 1) = (n : Int) - 1 := IntWalk.i64_in _ (by omega)
    have hne : ((2 * (L.length : Int)) != 2 * (L.length : Int)) = false := by simp
    clear KM KS HMD hM oL hr hr2 hs hcs hB02
    go_wp2_with fail
    refine KS3.mono ?_
    rintro e w' ⟨rfl, rfl⟩
    clear KS3
    go_wp2_with fail
    go_loopw [8] (fun ii wr => ∃ k : Nat, k ≤ L.length ∧ ii = .int .i64 k ∧ Below w3.heap.size w3 wr) (fun ii _ => L.length - (intOf ii).toNat)
    case atStart => exact ⟨0, by omega, rfl, Below.refl _ _⟩
    case round =>
      obtain ⟨k, hk, rfl, hB⟩ := hrel
      by_cases hlt : k < L.length
      · have hki : (k : Int) < (L.length : Int) := by omega
        have hBd := below_c hB (below_drewN' wr 1)
        obtain ⟨_, _, e, _, _, _, hcx⟩ := hrL.later hB
        cases e
        obtain ⟨bl, ol, rfl, hbl, hcl⟩ := hcx (by omega)
        obtain ⟨g1, g2⟩ := lines_at hcl hlt
        have hbt := HBT.out k hlt
        have KB := between_ok _ L L[k].1 L[k].2 wr.drew (hrL.later hBd) (by omega)
        obtain ⟨a, b, hab, hbn, e⟩ := HEN.out k hlt
        rw [hbt] at KB
        rw [e] at g1 g2 KB
        simp only at g1 g2 KB
        have KI1 : Hid (decide ((0 : Int) ≤ (a : Int) ∧ (a : Int) ≤ (n : Int) - 1) = true) := decide_eq_true (by omega)
        have KI2 : Hid (decide ((a : Int) + 1 ≤ (b : Int) ∧ (b : Int) ≤ (n : Int) - 1) = true) := decide_eq_true (by omega)
        have wa1 : IntKind.i64.wrap ((a : Int) + 1) = (a : Int) + 1 := IntWalk.i64_in _ (by omega)
        clear e hbt hcl hcx
        go_wp2_with fail
        go_region_held3 (fun w' => w'.cell? ⟨bl, ol + k * 2, none⟩ = some (.int .i64 (a : Int)) ∧ w'.cell? ⟨bl, ol + k * 2 + 1, none⟩ = some (.int .i64 (b : Int))) (first | go_keep | exact ⟨g1, g2⟩)
          (first
            | (go_at_call 26; refine (in_any _ _ _ _).mono ?_; rintro e w' ⟨rfl, rfl⟩; first | rw [KI1.out] | rw [KI2.out] | (rw [wn1]; first | rw [KI1.out] | rw [KI2.out]))
            | (go_at_call 21; refine KB.mono ?_; rintro e w' ⟨rfl, rfl⟩))
        all_goals
          go_wp2
          go_roundw
          case rel => exact ⟨k + 1, by omega, by go_num, hBd⟩
          case measure => simp [intOf]; omega
      · obtain rfl : k = L.length := by omega
        have hB0q := below_c hB03 hB
        have hrq := hr3.later hB
        have hrLq := hrL.later hB
        obtain ⟨wq, hwq⟩ : ∃ wq, wq = wr := ⟨wr, rfl⟩
        subst hwq
        clear hr3 hrL hB hB03 HEN HBT
        go_wp2_with fail
        go_loopw [9] (fun ii wr => ∃ k : Nat, k ≤ n ∧ ii = .int .i64 k ∧ Below wq.heap.size wq wr) (fun ii _ => n - (intOf ii).toNat)
        case atStart => exact ⟨0, by omega, rfl, Below.refl _ _⟩
        case round =>
          obtain ⟨k, hk, rfl, hB⟩ := hrel
          by_cases hlt : k < n
          · have hki : (k : Int) < (n : Int) := by omega
            have hB0k := below_c hB0q hB
            have hBd := below_c hB (below_drewN' wr 1)
            have KN := refNear_any n _ L (k : Int) wr.drew (hrLq.later hBd) hn8
            have hnr := HNR.out k hlt
            obtain ⟨bn, on, e, hbn, _, _, hcn⟩ := rd_nat (hrq.later hB) hN (by omega)
            cases e
            have ck := hcn k hlt
            generalize val N k = x at *
            rw [hnr] at KN
            have hBd1 := below_drewN' wr 1
            have hbn1 : bn < wr.drew.heap.size := Nat.lt_of_lt_of_le hbn hBd1.size
            have hxx : ((x : Int) != (x : Int)) = false := by simp
            clear hnr hcn
            go_wp2_with fail
            go_region_held3 (fun w' => w'.cell? ⟨bn, on + k, none⟩ = some (.int .i64 (x : Int))) (first | go_keep | exact (hB5.cell (p := ⟨bn, on + k, none⟩) hbn1).trans ck)
              (first | (go_simp; refine KN.mono ?_; rintro e w5 ⟨a5, c5, rfl, _, hB5⟩))
            all_goals
              have hB05 := below_c hBd hB5
              go_wp2
              go_roundw
              case rel => exact ⟨k + 1, by omega, by go_num, hB05⟩
              case measure => simp [intOf]; omega
          · obtain rfl : k = n := by omega
            have hB0k := below_c hB0q hB
            go_wp2
            go_ret
            exact ⟨rfl, hB0k⟩

theorem havelMakes_any {w : World} (hh : Handle w) {v : Value} {xs : List Int} (hr : Rd w v xs.length (ints xs)) :
    Calls Tryd.prog 7 #[v] w fun e w' => e = .returned (.bool true) ∧ Below w.heap.size w w' := by
  by_cases hc : degChk xs = 0
  · obtain ⟨m, N, rfl, hN, hm, h7⟩ := nat_of hc
    rw [← nats_intsH, List.length_map, hN] at hr
    exact havelMakes_ok hh hr hN (by omega) (by omega) h7
  · exact havelMakes_bad hh hr hc
end Go.Proofs.YtgjkefniknbdeaaDoor
