/- DegreeSame returns true for every input: the walk. Conditions: none. -/
import Derived.Test.YtmkdkjdbmnocoaaDegFact
namespace Go.Proofs.Ytmkdkjdbmnocoaa
open Go.RowKit Gr

set_option maxRecDepth 100000 in
set_option maxHeartbeats 2000000 in
theorem twice_true (v : Value) (n : Nat) (xs : List Int) (w : World) (hr : Rd w v n (ints xs)) (hx : xs.length = n) (h : ¬ xs.Nodup) :
    Calls Try.prog 14 #[v] w fun e w' => e = .returned (.bool true) ∧ Below w.heap.size w w' := by
  have HX := Lib.hid hx
  have HN := Lib.hid h
  obtain ⟨a, c, rfl, hnc, hcm, h0, hcell⟩ := id hr
  unfold maxLen at hcm
  clear hx h h0
  go_enter Try.func14, Try.ntmps14
  go_wp2_with fail
  go_loopw [3] (fun ii wr => ∃ k : Nat, k ≤ n ∧ ii = .int .i64 k ∧ Hid ((xs.take k).Nodup) ∧ Below w.heap.size w wr) (fun ii _ => n - (intOf ii).toNat)
  case atStart => exact ⟨0, by omega, rfl, Lib.hid (by simp), Below.refl _ _⟩
  case round =>
    obtain ⟨k, hk, rfl, HK, hB⟩ := hrel
    by_cases hlt : k < n
    · have hki : (k : Int) < (n : Int) := by omega
      have hkx : k < xs.length := by rw [HX.out]; exact hlt
      obtain ⟨b, off, rfl, hb, hc⟩ := hcell (by omega)
      have ck := (hB.cell (p := ⟨b, off + k, none⟩) hb).trans (hc k _ (ints_get hkx))
      have hrk : Rd wr (.slice (some ⟨b, off, none⟩) k c) (xs.take k).length (ints (xs.take k)) := by
        have h1 := rd_take (hr.later hB) hk
        have e : (xs.take k).length = k := by simp; omega
        rw [e]
        have e2 : ints (xs.take k) = (ints xs).take k := by unfold ints; exact List.map_take
        rw [e2]
        exact h1
      have HS : Hid (¬ (xs[k] ∈ xs.take k) → (xs.take (k + 1)).Nodup) := fun hn => by
        rw [List.take_succ_eq_append_getElem hkx]
        exact List.nodup_append.2 ⟨HK.out, by simp, fun x hx y hy e => hn (by rw [List.mem_singleton] at hy; subst hy; subst e; exact hx)⟩
      generalize xs[k] = x at *
      cases hm : decide (x ∈ xs.take k) with
      | true =>
        have HM := Lib.hid hm
        clear hm hc hcell HS
        go_wp2_with fail
        go_quiet ((go_at_call 25; refine (refHas_any _ (xs.take k) x _ (hrk.drewN _)).mono ?_; rintro e w' ⟨rfl, rfl⟩; exact ⟨ret_bool HM.out, _, rfl⟩))
        go_wp2
        go_ret
        exact ⟨rfl, hB.trans ((below_drewN' _ _).mono hB.size)⟩
      | false =>
        have HM := Lib.hid hm
        have HK2 := Lib.hid (HS.out (of_decide_eq_false hm))
        clear hm hc hcell HS
        go_wp2_with fail
        go_quiet ((go_at_call 25; refine (refHas_any _ (xs.take k) x _ (hrk.drewN _)).mono ?_; rintro e w' ⟨rfl, rfl⟩; exact ⟨ret_bool HM.out, _, rfl⟩))
        go_wp2
        go_roundw
        case rel => exact ⟨k + 1, by omega, by go_num, HK2, hB.trans ((below_drewN' _ _).mono hB.size)⟩
        case measure => simp [intOf]; omega
    · have h1 := HK.out
      rw [List.take_of_length_le (by rw [HX.out]; omega)] at h1
      exact absurd h1 HN.out

set_option maxRecDepth 100000 in
set_option maxHeartbeats 1000000 in
theorem degreeSame_bad (n : Int) {v : Value} {ls : List Ln} {w : World} (hr : LinesRd w v ls) (hc : chk n ls ≠ 0) :
    Calls Try.prog 5 #[.int .i64 n, v] w fun e w' => e = .returned (.bool true) ∧ Below w.heap.size w w' := by
  have K := fun w hr => degOf_bad n v ls w hr hc
  clear hc
  go_enter Try.func5, Try.ntmps5
  go_wp2_with fail
  refine (degreeFact_any _).mono ?_
  rintro e w1 ⟨rfl, hB1⟩
  go_wp2_with fail
  refine (K _ (hr.later hB1)).mono ?_
  rintro e w2 ⟨rfl, hB2⟩
  have hB := below_c hB1 hB2
  clear K
  go_wp2
  go_ret
  exact ⟨rfl, hB⟩

theorem nodup_cast {l : List Nat} (h : ¬ l.Nodup) : ¬ (l.map fun (i : Nat) => (i : Int)).Nodup := fun hn =>
  h ((List.pairwise_map.1 hn).imp fun hab e => hab (by rw [e]))

set_option maxRecDepth 100000 in
set_option maxHeartbeats 2000000 in
theorem degreeSame_ok (n : Nat) {v : Value} {ls : List Ln} {w : World} (hr : LinesRd w v ls) (hg : GoodG n ls) (hc : chk n ls = 0) :
    Calls Try.prog 5 #[.int .i64 (n : Int), v] w fun e w' => e = .returned (.bool true) ∧ Below w.heap.size w w' := by
  have K := fun w hr => degOf_ok n v ls w hr hg hc
  have HN : Hid (2 ≤ n → ¬ (degI n ls).Nodup) := fun h2 => nodup_cast (same_deg (rN_symm ls) (rN_irr hg) h2)
  have hDl := degI_length n ls
  have hn8 := hg.2.1
  clear hc hg
  go_enter Try.func5, Try.ntmps5
  go_wp2_with fail
  refine (degreeFact_any _).mono ?_
  rintro e w1 ⟨rfl, hB1⟩
  go_wp2_with fail
  refine (K _ (hr.later hB1)).mono ?_
  rintro e w2 ⟨ad, cd, rfl, od, hB2⟩
  have hB02 := below_c hB1 hB2
  have rd2 := rd_of_owns od
  rw [hDl] at rd2 ⊢
  clear od K
  have hnn : ((n : Int) == (n : Int)) = true := by simp
  by_cases h2 : n < 2
  · have hd : decide ((n : Int) < 2) = true := by simp; omega
    have hi2 : (n : Int) < 2 := by omega
    clear h2
    go_wp2
    go_ret
    exact ⟨rfl, hB02⟩
  · have hd : decide ((n : Int) < 2) = false := by simp; omega
    have hi2 : ¬ (n : Int) < 2 := by omega
    have KT := twice_true (.slice ad n cd) n (degI n ls) w2 rd2 hDl (HN.out (by omega))
    clear h2
    go_wp2_with fail
    refine KT.mono ?_
    rintro e w3 ⟨rfl, hB3⟩
    have hB03 := below_c hB02 hB3
    go_wp2
    go_ret
    exact ⟨rfl, hB03⟩

theorem degreeSame_any (n : Int) {v : Value} {ls : List Ln} {w : World} (hr : LinesRd w v ls) :
    Calls Try.prog 5 #[.int .i64 n, v] w fun e w' => e = .returned (.bool true) ∧ Below w.heap.size w w' := by
  by_cases hc : chk n ls = 0
  · obtain ⟨m, rfl, hg⟩ := good_of hc
    exact degreeSame_ok m hr hg hc
  · exact degreeSame_bad n hr hc
end Go.Proofs.Ytmkdkjdbmnocoaa
