/- DeepBack returns true for every input: the walk. Conditions: none. -/
import Derived.Test.YthlnejfojaldnaaDeepFact
import Derived.Test.YthlnejfojaldnaaWalkParts
namespace Go.Proofs.Ythlnejfojaldnaa
open Go.RowKit Gr

theorem rdAt {w : World} {n b off c i : Nat} {d : List Int} (h : Rd w (.slice (some ⟨b, off, none⟩) n c) n (ints d)) (hl : d.length = n) (hi : i < n) :
    w.cell? ⟨b, off + i, none⟩ = some (.int .i64 (at1 d i)) := by
  obtain ⟨b', off', e, _, _, h⟩ := rd_cells h hl (by omega)
  cases e
  exact h i hi

set_option maxRecDepth 100000 in
set_option maxHeartbeats 4000000 in
theorem deepBack_any (n : Int) {v : Value} {ls : List Ln} {w : World} (hr : LinesRd w v ls) :
    Calls Try.prog 4 #[.int .i64 n, v] w fun e w' => e = .returned (.bool true) ∧ Below w.heap.size w w' := by
  by_cases hc : chk n ls = 0
  · obtain ⟨m, rfl, hg⟩ := good_of hc
    have HG := Lib.hid hg
    have hm8 := hg.2.1
    have hm1 := hg.1
    have hl24 := hg.2.2.1
    have HD := Lib.hid (deepWalk_is hm8 (adj_bounded hg) (fun _ _ h => adj_symm hg h))
    have HL : Hid (∀ (k : Nat) (h : k < ls.length), ∃ x y : Nat, ls[k] = ((x : Int), (y : Int)) ∧ x < m ∧ y < m ∧ adjS (beside m ls) x y ∧ x ≠ y) := by
      intro k h
      have hi := hg.2.2.2 ls[k] (List.getElem_mem h)
      have hn : near ls (ls[k]).1 (ls[k]).2 = true := near_iff.2 ⟨ls[k], List.getElem_mem h, .inl ⟨rfl, rfl⟩⟩
      generalize ls[k] = l at *
      obtain ⟨a, b⟩ := l
      simp only at hi hn
      obtain ⟨x, rfl⟩ := Int.eq_ofNat_of_zero_le hi.1
      obtain ⟨y, rfl⟩ := Int.eq_ofNat_of_zero_le hi.2.2.1
      exact ⟨x, y, rfl, by omega, by omega, (adj_near hg x y).2 hn, by omega⟩
    have hmm : ((m : Int) != (m : Int)) = false := by simp
    clear hc hg
    have hv : ∃ av cv, v = .slice av ls.length cv := by obtain ⟨av, cv, hv, _⟩ := hr; exact ⟨av, cv, hv⟩
    obtain ⟨av, cv, rfl⟩ := hv
    go_enter Try.func4, Try.ntmps4
    go_wp2_with fail
    refine (deepFact_any _).mono ?_
    rintro e w1 ⟨rfl, hB1⟩
    go_wp2_with fail
    refine (deep_ok m _ ls _ (hr.later hB1) HG.out).mono ?_
    rintro e w2 ⟨a1, c1, a2, c2, a3, c3, rfl, r1, r2, r3, hB2⟩
    have hB12 := below_c hB1 hB2
    generalize deepWalk (beside m ls) m = D at *
    obtain ⟨ba, oa, rfl, hca1, hca2, _⟩ := rd_cells r1 HD.out.lm hm1
    obtain ⟨bb, ob, rfl, hcb1, hcb2, _⟩ := rd_cells r2 HD.out.ll hm1
    obtain ⟨bl, ol, e, hcl1, hcl2, _⟩ : ∃ av' cv', (Value.slice av ls.length cv) = .slice av' ls.length cv' ∧ ls.length ≤ cv ∧ cv ≤ maxLen ∧ True := by
      obtain ⟨a', c', e, h1, h2, _⟩ := hr; cases e; exact ⟨_, _, rfl, h1, h2, trivial⟩
    cases e
    unfold maxLen at hca2 hcb2 hcl2
    clear r3 hB1 hB2
    go_wp2_with fail
    go_loopw [10] (fun i wr => ∃ k : Nat, k ≤ ls.length ∧ i = .int .i64 k ∧ Below w2.heap.size w2 wr) (fun i _ => ls.length - (intOf i).toNat)
    case atStart => exact ⟨0, by omega, rfl, Below.refl _ _⟩
    case round =>
      obtain ⟨k, hk, rfl, hbr⟩ := hrel
      by_cases hlt : k < ls.length
      · have hki : (k : Int) < (ls.length : Int) := by omega
        have hrr := (hr.later hB12).later hbr
        obtain ⟨a', c', e, _, _, _, hcell⟩ := hrr
        cases e
        obtain ⟨bv, ov, rfl, hbv, hcx⟩ := hcell (by omega)
        obtain ⟨g1, g2⟩ := lines_at hcx hlt
        obtain ⟨x, y, hxy, hx, hy, hadj, hne⟩ := HL.out k hlt
        rw [hxy] at g1 g2
        simp only at g1 g2
        have hxi : (x : Int) < (m : Int) := by omega
        have hyi : (y : Int) < (m : Int) := by omega
        have cax := rdAt (r1.later hbr) HD.out.lm hx
        have cay := rdAt (r1.later hbr) HD.out.lm hy
        have cbx := rdAt (r2.later hbr) HD.out.ll hx
        have cby := rdAt (r2.later hbr) HD.out.ll hy
        have hl := HD.out.line x y hadj hne
        clear hcx hcell hadj hne
        generalize at1 D.met x = ax at *
        generalize at1 D.met y = ay at *
        generalize at1 D.left x = bx at *
        generalize at1 D.left y = by' at *
        by_cases h1 : ax < ay ∧ by' < bx
        · have e1 : decide (ax < ay) = true := by simp [h1]
          have e2 : decide (by' < bx) = true := by simp [h1]
          clear hl h1
          go_wp2
          go_quiet (fail)
          go_wp2
          go_roundw
          case rel => exact ⟨k + 1, by omega, by go_num, hbr.trans ((below_drewN' _ _).mono hbr.size)⟩
          case measure => simp [intOf]; omega
        · have e1 : decide (ax < ay) = false := by simp; omega
          have e3 : decide (ay < ax) = true := by simp; omega
          have e4 : decide (bx < by') = true := by simp; omega
          clear hl h1
          go_wp2
          go_quiet (fail)
          go_wp2
          go_roundw
          case rel => exact ⟨k + 1, by omega, by go_num, hbr.trans ((below_drewN' _ _).mono hbr.size)⟩
          case measure => simp [intOf]; omega
      · go_wp2
        go_ret
        exact ⟨rfl, below_c hB12 hbr⟩
  · go_enter Try.func4, Try.ntmps4
    go_wp2_with fail
    refine (deepFact_any _).mono ?_
    rintro e w1 ⟨rfl, hB1⟩
    go_wp2_with fail
    refine (deep_bad n _ ls _ (hr.later hB1) hc).mono ?_
    rintro e w2 ⟨rfl, hB2⟩
    go_wp2
    go_ret
    exact ⟨rfl, below_c hB1 hB2⟩

end Go.Proofs.Ythlnejfojaldnaa
