/- What core.Check and graph.Check return: the walks. Conditions: in each statement. -/
import Derived.Test.YtjeafgnaoncphaaCore
namespace Go.Proofs.Ytjeafgnaoncphaa
open Go.RowKit Gr

/-- v is a slice of lines -/
abbrev LinesRd (w : World) (v : Value) (ls : List Ln) : Prop := Rd w v ls.length (cellsOf ls)

theorem rd_two {w : World} {a b : Int} {e : TypeId} {g : Nat} (hg : g = w.heap.size) : Rd (w.alloc (.cells #[.int .i64 a, .int .i64 b] e)) (.slice (some ⟨g, 0, none⟩) 2 2) 2 (ints [a, b]) := by
  subst hg
  exact rd_lit (ints [a, b]) rfl (by decide) (by simp)

theorem lines_at {W : World} {b off : Nat} {ls : List Ln} (hc : ∀ j u, (cellsOf ls)[j]? = some u → W.cell? ⟨b, off + j, none⟩ = some u) {k : Nat} (h : k < ls.length) :
    W.cell? ⟨b, off + k * 2, none⟩ = some (.int .i64 (ls[k]).1) ∧ W.cell? ⟨b, off + k * 2 + 1, none⟩ = some (.int .i64 (ls[k]).2) := by
  obtain ⟨g1, g2⟩ := cellsOf_get ls k h
  have h1 := hc _ _ g1
  have h2 := hc _ _ g2
  rw [Nat.mul_comm] at h1
  rw [Nat.mul_comm, ← Nat.add_assoc] at h2
  exact ⟨h1, h2⟩

theorem lnErr_range {n : Int} {l : Ln} (h : El.allIn [l.1, l.2] 0 (n - 1) = false) : lnErr n l = 1 := by
  unfold lnErr
  rw [if_pos]
  intro h2
  simp [El.allIn] at h
  omega
theorem lnErr_shape {n : Int} {l : Ln} (h : El.allIn [l.1, l.2] 0 (n - 1) = true) (h2 : l.1 = l.2) : lnErr n l = 3 := by
  unfold lnErr
  simp [El.allIn] at h
  rw [if_neg (by omega), if_pos h2]
theorem lnErr_none {n : Int} {l : Ln} (h : El.allIn [l.1, l.2] 0 (n - 1) = true) (h2 : l.1 ≠ l.2) : lnErr n l = 0 := by
  unfold lnErr
  simp [El.allIn] at h
  rw [if_neg (by omega), if_neg h2]

theorem errOf_pos {k : Nat} (h : k ≠ 0) : errOf k = errV k := by rw [errOf, if_neg h]

set_option maxHeartbeats 1000000 in
theorem coreCheck_any (n : Int) (v : Value) (ls : List Ln) (w : World) (hr : LinesRd w v ls) :
    Calls Try.prog 62 #[.int .i64 n, v] w fun e w' => e = .returned (errOf (chk n ls)) ∧ Below w.heap.size w w' := by
  have hr0 := hr
  obtain ⟨a, c, rfl, hnc, hcm, _, hcell⟩ := hr0
  unfold maxLen at hcm
  by_cases hn : 1 ≤ n ∧ n ≤ 8
  · have HN := Lib.hid (decide_eq_true hn)
    obtain ⟨hn1, hn2⟩ := hn
    by_cases hl : 24 < ls.length
    · have hl' : (24 : Int) < (ls.length : Int) := by omega
      go_enter Try.func62, Try.ntmps62
      go_wp2_with fail
      refine (within_any _ _ _ _).mono ?_
      rintro e w' ⟨rfl, rfl⟩
      rw [HN.out]
      go_wp2
      go_ret
      exact ⟨ret_val (by rw [chk, if_neg (by omega), if_pos hl]; rfl), Below.refl _ _⟩
    · have hl' : (ls.length : Int) ≤ (24 : Int) := by omega
      have HC : Hid (chk n ls = chkLines n ls) := by show _ = _; rw [chk, if_neg (by omega), if_neg hl]
      go_enter Try.func62, Try.ntmps62
      go_wp2_with fail
      refine (within_any _ _ _ _).mono ?_
      rintro e w' ⟨rfl, rfl⟩
      rw [HN.out]
      go_wp2_with fail
      go_loopw [17] (fun i wr => ∃ k : Nat, k ≤ ls.length ∧ i = .int .i64 k ∧ Hid (chkLines n (ls.take k) = 0) ∧ Below w.heap.size w wr) (fun i _ => ls.length - (intOf i).toNat)
      case atStart => exact ⟨0, by omega, rfl, rfl, Below.refl _ _⟩
      case round =>
        obtain ⟨k, hk, rfl, HK, hbr⟩ := hrel
        by_cases hlt : k < ls.length
        · obtain ⟨b, off, rfl, hbb, hc⟩ := hcell (by omega)
          obtain ⟨g1, g2⟩ := lines_at hc hlt
          have hc1 := (hbr.cell (p := ⟨b, off + k * 2, none⟩) hbb).trans g1
          have hc2 := (hbr.cell (p := ⟨b, off + k * 2 + 1, none⟩) hbb).trans g2
          clear g1 g2 hc
          cases hall : El.allIn [(ls[k]).1, (ls[k]).2] 0 (n - 1) with
          | false =>
            have HE := Lib.hid (lnErr_range hall)
            have HA := Lib.hid hall
            clear hall
            go_wp2_with fail
            refine (all_any _ _ [(ls[k]).1, (ls[k]).2] 0 (n - 1) _ (rd_two (by simp)) rfl).mono ?_
            rintro e w' ⟨rfl, rfl⟩
            rw [HA.out]
            go_wp2
            go_ret
            exact ⟨ret_val (by rw [HC.out, chkLines_eq n ls k hlt HK.out (by rw [HE.out]; decide), HE.out]; rfl), below_c (below_c hbr (below_alloc' _ _)) (below_alloc' _ _)⟩
          | true =>
            have HA := Lib.hid hall
            by_cases heq : (ls[k]).1 = (ls[k]).2
            · have HE := Lib.hid (lnErr_shape hall heq)
              have hb : ((ls[k]).1 == (ls[k]).2) = true := by simp [heq]
              clear hall heq
              go_wp2_with fail
              refine (all_any _ _ [(ls[k]).1, (ls[k]).2] 0 (n - 1) _ (rd_two (by simp)) rfl).mono ?_
              rintro e w' ⟨rfl, rfl⟩
              rw [HA.out]
              go_wp2
              go_ret
              exact ⟨ret_val (by rw [HC.out, chkLines_eq n ls k hlt HK.out (by rw [HE.out]; decide), HE.out]; rfl), below_c (below_c hbr (below_alloc' _ _)) (below_alloc' _ _)⟩
            · have HE := Lib.hid (lnErr_none hall heq)
              have hb : ((ls[k]).1 == (ls[k]).2) = false := by simp [heq]
              clear hall heq
              go_wp2_with fail
              refine (all_any _ _ [(ls[k]).1, (ls[k]).2] 0 (n - 1) _ (rd_two (by simp)) rfl).mono ?_
              rintro e w' ⟨rfl, rfl⟩
              rw [HA.out]
              go_wp2
              go_roundw
              case rel => exact ⟨k + 1, by omega, by go_num, chkLines_snoc n ls k hlt HK.out HE.out, below_c (below_c hbr (below_alloc' _ _)) (below_alloc' _ _)⟩
              case measure => simp [intOf]; omega
        · go_wp2
          go_ret
          exact ⟨ret_val (by rw [HC.out]; have := HK.out; rw [List.take_of_length_le (by omega)] at this; rw [this]; rfl), hbr⟩
  · have HN := Lib.hid (decide_eq_false hn)
    have HC : Hid (chk n ls = 1) := by show _ = _; rw [chk, if_pos hn]
    clear hn
    go_enter Try.func62, Try.ntmps62
    go_wp2_with fail
    refine (within_any _ _ _ _).mono ?_
    rintro e w' ⟨rfl, rfl⟩
    rw [HN.out]
    go_wp2
    go_ret
    exact ⟨ret_val (by rw [HC.out]; rfl), Below.refl _ _⟩

end Go.Proofs.Ytjeafgnaoncphaa
