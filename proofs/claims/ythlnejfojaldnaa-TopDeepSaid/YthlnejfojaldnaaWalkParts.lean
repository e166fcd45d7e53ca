/- WalkParts returns true for every input: the walk. Conditions: none. -/
import Derived.Test.YthlnejfojaldnaaParts
namespace Go.Proofs.Ythlnejfojaldnaa
open Go.RowKit Gr

theorem rd_cells {w : World} {n : Nat} {a : Option Addr} {c : Nat} {d : List Int} (h : Rd w (.slice a n c) n (ints d)) (hl : d.length = n) (hn : 0 < n) :
    ∃ b off, a = some ⟨b, off, none⟩ ∧ n ≤ c ∧ c ≤ maxLen ∧ ∀ i, i < n → w.cell? ⟨b, off + i, none⟩ = some (.int .i64 (at1 d i)) := by
  obtain ⟨_, hmc, hcm⟩ := h.bounds
  obtain ⟨_, _, hv, _, _, _, hcell⟩ := h
  cases hv
  obtain ⟨b, off, rfl, hblt, hcl⟩ := hcell (by omega)
  refine ⟨b, off, rfl, hmc, hcm, fun i hi => ?_⟩
  have hid : i < d.length := by omega
  rw [hcl i _ (ints_get hid)]
  have e := at1_lt hid
  rw [List.getElem?_eq_getElem hid] at e
  simp at e
  rw [e]

theorem beside_symm {n : Nat} {ls : List Ln} (hg : GoodG n ls) : Symm (beside n ls) := fun _ _ h => adj_symm hg h

set_option maxRecDepth 100000 in
set_option maxHeartbeats 4000000 in
theorem walkParts_any (n : Int) {v : Value} {ls : List Ln} {w : World} (hr : LinesRd w v ls) (a b c : Int) :
    Calls Try.prog 9 #[.int .i64 n, v, .int .i64 a, .int .i64 b, .int .i64 c] w fun e w' => e = .returned (.bool true) ∧ Below w.heap.size w w' := by
  by_cases hc : chk n ls = 0
  · obtain ⟨m, rfl, hg⟩ := good_of hc
    have HG := Lib.hid hg
    have hm8 := hg.2.1
    have hm1 := hg.1
    have w1' : IntKind.i64.wrap ((m : Int) - 1) = (m : Int) - 1 := IntWalk.i64_in _ (by omega)
    have hmm : ((m : Int) != (m : Int)) = false := by simp
    clear hc hg
    by_cases hab : (0 ≤ a ∧ a ≤ (m : Int) - 1) ∧ (0 ≤ b ∧ b ≤ (m : Int) - 1) ∧ (0 ≤ c ∧ c ≤ (m : Int) - 1)
    · obtain ⟨hfa, hfb, hfc⟩ := hab
      have HFa := Lib.hid (decide_eq_true hfa)
      have HFb := Lib.hid (decide_eq_true hfb)
      have HFc := Lib.hid (decide_eq_true hfc)
      obtain ⟨a, rfl⟩ := Int.eq_ofNat_of_zero_le hfa.1
      obtain ⟨b, rfl⟩ := Int.eq_ofNat_of_zero_le hfb.1
      obtain ⟨c, rfl⟩ := Int.eq_ofNat_of_zero_le hfc.1
      have ham : a < m := by omega
      have hbm : b < m := by omega
      have hcm : c < m := by omega
      clear hfa hfb hfc
      go_enter Try.func9, Try.ntmps9
      go_wp2_with fail
      refine (walkFact_any _).mono ?_
      rintro e w1 ⟨rfl, hB1⟩
      go_wp2_with fail
      refine (parts_ok m _ ls _ (hr.later hB1) HG.out).mono ?_
      rintro e w2 ⟨p, ap, cp, rfl, hp, hrp, hB2⟩
      have hB12 := below_c hB1 hB2
      go_wp2_with fail
      refine (in_any _ _ _ _).mono ?_
      rintro e w3 ⟨rfl, rfl⟩
      first | rw [HFa.out] | (rw [w1', HFa.out])
      go_wp2_with fail
      refine (in_any _ _ _ _).mono ?_
      rintro e w3 ⟨rfl, rfl⟩
      first | rw [HFb.out] | (rw [w1', HFb.out])
      go_wp2_with fail
      refine (in_any _ _ _ _).mono ?_
      rintro e w3 ⟨rfl, rfl⟩
      first | rw [HFc.out] | (rw [w1', HFc.out])
      go_wp2_with fail
      refine (from_ok m a _ ls _ (hr.later hB12) HG.out ham).mono ?_
      rintro e w4 ⟨x, ax, cx, rfl, hx, hrx, hB4⟩
      have hB14 := below_c hB12 hB4
      go_wp2_with fail
      refine (from_ok m b _ ls _ (hr.later hB14) HG.out hbm).mono ?_
      rintro e w5 ⟨y, ay, cy, rfl, hy, hry, hB5⟩
      have hB15 := below_c hB14 hB5
      have hO := adj_bounded HG.out
      have hsy := beside_symm HG.out
      have hrp5 := (hrp.later hB4).later hB5
      have hrx5 := hrx.later hB5
      have hd1 := dist_symm hm8 hO hsy hx hy
      have hd2 := parts_dist hm8 hO hsy hp hx ham hbm
      have hd3 := parts_le hp ham
      have hd4 := fun h => dist_tri hx hy h (at1 y c).toNat c
      have hxs := hx.small b
      have hys := hy.small c
      have hxl := hx.lo b
      have hyl := hy.lo c
      obtain ⟨bp, op, rfl, hcp1, hcp2, hcp⟩ := rd_cells hrp5 hp.len hm1
      obtain ⟨bx, ox, rfl, hcx1, hcx2, hcx⟩ := rd_cells hrx5 hx.len hm1
      obtain ⟨by', oy, rfl, hcy1, hcy2, hcy⟩ := rd_cells hry hy.len hm1
      have cpa := hcp a ham
      have cpb := hcp b hbm
      have cxb := hcx b hbm
      have cxc := hcx c hcm
      have cya := hcy a ham
      have cyc := hcy c hcm
      rw [← hd1] at cya
      clear hcp hcx hcy hrp hrx hry hrp5 hrx5 hp hx hy hsy hO hd1 hB1 hB2 hB4 hB5
      generalize at1 p a = pa at *
      generalize at1 p b = pb at *
      generalize at1 x b = xb at *
      generalize at1 x c = xc at *
      generalize at1 y c = yc at *
      have hai : (a : Int) < (m : Int) := by omega
      have hbi : (b : Int) < (m : Int) := by omega
      have hci : (c : Int) < (m : Int) := by omega
      unfold maxLen at hcp2 hcx2 hcy2
      have hww : IntKind.i64.wrap (xb + yc) = xb + yc := IntWalk.i64_in _ (by omega)
      have HIn := Lib.hid (decide_eq_true hd3)
      have e0 : (xb != xb) = false := by simp
      rcases Int.lt_or_le xb 0 with hxb | hxb
      · have e1 : (pa == pb) = false := by simp; intro h; have := hd2.1 h; omega
        have e2 : decide (xb ≥ 0) = false := by simp; omega
        have e2' : decide (0 ≤ xb) = false := by simp; omega
        have e3 : decide (xb < 0) = true := by simp; omega
        clear hd4 hd2 hd3 hxb
        go_wp2
        go_quiet ((go_at_call 15; refine (in_any _ _ _ _).mono ?_; rintro e w' ⟨rfl, rfl⟩; exact ⟨ret_bool HIn.out, _, rfl⟩))
        go_wp2
        go_quiet (fail)
        go_wp2
        go_ret
        exact ⟨rfl, below_c (below_c hB15 (below_drewN' _ _)) (below_drewN' _ _)⟩
      · have e1 : (pa == pb) = true := by simp; exact hd2.2 hxb
        have e2 : decide (xb ≥ 0) = true := by simp; omega
        have e2' : decide (0 ≤ xb) = true := by simp; omega
        have e3 : decide (xb < 0) = false := by simp; omega
        have hd5 := hd4 hxb
        clear hd4 hd2 hd3
        rcases Int.lt_or_le yc 0 with hyc | hyc
        · have e4 : decide (yc < 0) = true := by simp; omega
          clear hxb hyc hd5
          go_wp2
          go_quiet ((go_at_call 15; refine (in_any _ _ _ _).mono ?_; rintro e w' ⟨rfl, rfl⟩; exact ⟨ret_bool HIn.out, _, rfl⟩))
          go_wp2
          go_quiet (fail)
          go_wp2
          go_ret
          exact ⟨rfl, below_c (below_c hB15 (below_drewN' _ _)) (below_drewN' _ _)⟩
        · have hd6 := hd5 (by omega)
          have e4 : decide (yc < 0) = false := by simp; omega
          have e5 : decide (xc ≥ 0) = true := by simp; omega
          have e5' : decide (0 ≤ xc) = true := by simp; omega
          have e6 : decide (xc ≤ xb + yc) = true := by simp; omega
          clear hxb hyc hd5 hd6
          go_wp2
          go_quiet ((go_at_call 15; refine (in_any _ _ _ _).mono ?_; rintro e w' ⟨rfl, rfl⟩; exact ⟨ret_bool HIn.out, _, rfl⟩))
          go_wp2
          go_quiet (fail)
          go_wp2
          go_ret
          exact ⟨rfl, below_c (below_c hB15 (below_drewN' _ _)) (below_drewN' _ _)⟩
    · go_enter Try.func9, Try.ntmps9
      go_wp2_with fail
      refine (walkFact_any _).mono ?_
      rintro e w1 ⟨rfl, hB1⟩
      go_wp2_with fail
      refine (parts_ok m _ ls _ (hr.later hB1) HG.out).mono ?_
      rintro e w2 ⟨p, ap, cp, rfl, hp, hrp, hB2⟩
      have hB12 := below_c hB1 hB2
      clear hp hrp hB1 hB2
      by_cases h1 : 0 ≤ a ∧ a ≤ (m : Int) - 1
      · have H1 := Lib.hid (decide_eq_true h1)
        by_cases h2 : 0 ≤ b ∧ b ≤ (m : Int) - 1
        · have H2 := Lib.hid (decide_eq_true h2)
          have H3 := Lib.hid (decide_eq_false (fun h3 => hab ⟨h1, h2, h3⟩))
          clear h1 h2 hab
          go_wp2_with fail
          refine (in_any _ _ _ _).mono ?_
          rintro e w3 ⟨rfl, rfl⟩
          first | rw [H1.out] | (rw [w1', H1.out])
          go_wp2_with fail
          refine (in_any _ _ _ _).mono ?_
          rintro e w3 ⟨rfl, rfl⟩
          first | rw [H2.out] | (rw [w1', H2.out])
          go_wp2_with fail
          refine (in_any _ _ _ _).mono ?_
          rintro e w3 ⟨rfl, rfl⟩
          first | rw [H3.out] | (rw [w1', H3.out])
          go_wp2
          go_ret
          exact ⟨ret_bool (by simp), hB12⟩
        · have H2 := Lib.hid (decide_eq_false h2)
          clear h1 h2 hab
          go_wp2_with fail
          refine (in_any _ _ _ _).mono ?_
          rintro e w3 ⟨rfl, rfl⟩
          first | rw [H1.out] | (rw [w1', H1.out])
          go_wp2_with fail
          refine (in_any _ _ _ _).mono ?_
          rintro e w3 ⟨rfl, rfl⟩
          first | rw [H2.out] | (rw [w1', H2.out])
          go_wp2
          go_ret
          exact ⟨ret_bool (by simp), hB12⟩
      · have H1 := Lib.hid (decide_eq_false h1)
        clear h1 hab
        go_wp2_with fail
        refine (in_any _ _ _ _).mono ?_
        rintro e w3 ⟨rfl, rfl⟩
        first | rw [H1.out] | (rw [w1', H1.out])
        go_wp2
        go_ret
        exact ⟨ret_bool (by simp), hB12⟩
  · go_enter Try.func9, Try.ntmps9
    go_wp2_with fail
    refine (walkFact_any _).mono ?_
    rintro e w1 ⟨rfl, hB1⟩
    go_wp2_with fail
    refine (parts_bad n _ ls _ (hr.later hB1) hc).mono ?_
    rintro e w2 ⟨rfl, hB2⟩
    go_wp2
    go_ret
    exact ⟨rfl, below_c hB1 hB2⟩

end Go.Proofs.Ythlnejfojaldnaa
