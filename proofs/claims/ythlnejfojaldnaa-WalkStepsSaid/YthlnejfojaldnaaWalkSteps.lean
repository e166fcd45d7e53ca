/- WalkSteps returns true for every input: the walk. Conditions: none. -/
import Derived.Test.YthlnejfojaldnaaWalkFact
namespace Go.Proofs.Ythlnejfojaldnaa
open Go.RowKit Gr

set_option maxRecDepth 100000 in
set_option maxHeartbeats 4000000 in
theorem walkSteps_any (n : Int) {v : Value} {ls : List Ln} {w : World} (hr : LinesRd w v ls) (f : Int) :
    Calls Try.prog 6 #[.int .i64 n, v, .int .i64 f] w fun e w' => e = .returned (.bool true) ∧ Below w.heap.size w w' := by
  by_cases hc : chk n ls = 0
  · obtain ⟨m, rfl, hg⟩ := good_of hc
    have HG := Lib.hid hg
    have hm8 := hg.2.1
    have hm1 := hg.1
    have w1' : IntKind.i64.wrap ((m : Int) - 1) = (m : Int) - 1 := IntWalk.i64_in _ (by omega)
    clear hc hg
    by_cases hf : 0 ≤ f ∧ f ≤ (m : Int) - 1
    · have HF := Lib.hid (decide_eq_true hf)
      obtain ⟨f, rfl⟩ := Int.eq_ofNat_of_zero_le hf.1
      have hfm : f < m := by omega
      clear hf
      go_enter Try.func6, Try.ntmps6
      go_wp2_with fail
      refine (walkFact_any _).mono ?_
      rintro e w1 ⟨rfl, hB1⟩
      go_wp2_with fail
      refine (from_ok m f _ ls _ (hr.later hB1) HG.out hfm).mono ?_
      rintro e w2 ⟨d, a, c, rfl, hd, hrd, hB2⟩
      have hB12 := below_c hB1 hB2
      have hr2 := hr.later hB12
      have HD := Lib.hid hd
      clear hd hB1 hB2
      have hmm : ((m : Int) != (m : Int)) = false := by simp
      obtain ⟨_, hmc, hcm⟩ := hrd.bounds
      unfold maxLen at hcm
      obtain ⟨_, _, hv, _, _, _, hcell⟩ := hrd
      cases hv
      obtain ⟨b, off, rfl, hblt, hcl⟩ := hcell (by omega)
      have hdl := HD.out.len
      have hat : ∀ i, i < m → w2.cell? ⟨b, off + i, none⟩ = some (.int .i64 (at1 d i)) := by
        intro i hi
        have hid : i < d.length := by omega
        have := hcl i _ (ints_get hid)
        rw [this]
        have e := at1_lt hid
        rw [List.getElem?_eq_getElem hid] at e
        simp at e
        rw [e]
      have HAT := Lib.hid hat
      clear hat hcl
      go_wp2_with fail
      refine (in_any _ _ _ _).mono ?_
      rintro e w3 ⟨rfl, rfl⟩
      first | rw [HF.out] | (rw [w1', HF.out])
      go_wp2_with fail
      go_loopw [10, 11] (fun i _ wr => ∃ k q : Nat, k ≤ m ∧ i = .int .i64 k ∧ wr = w2.drewN q) (fun i _ _ => m - (intOf i).toNat)
      case atStart => exact ⟨0, 0, by omega, rfl, rfl⟩
      case round =>
        obtain ⟨i, q, hi, rfl, rfl⟩ := hrel
        by_cases hlt : i < m
        · have hci := HAT.out i hlt
          have hiI : (i : Int) < (m : Int) := by omega
          have hlo := HD.out.lo i
          have hsm := HD.out.small i
          have hdi : at1 d i < m := hsm
          go_wp2
          go_loopw [12, 11] (fun j one wr => ∃ k q' : Nat, k ≤ m ∧ j = .int .i64 k ∧ wr = w2.drewN q' ∧ ∃ o : Bool, one = .bool o ∧ Hid (o = true ↔ (at1 d i < 1 ∨ ∃ j', j' < k ∧ near ls i (j' : Int) = true ∧ at1 d j' = at1 d i - 1))) (fun j _ _ => m - (intOf j).toNat)
          case atStart =>
            refine ⟨0, q, by omega, rfl, rfl, _, rfl, ?_⟩
            show _ ↔ _
            constructor
            · intro h; exact .inl (by simpa using h)
            · rintro (h | ⟨j, h, _⟩)
              · simpa using h
              · omega
          case round =>
            obtain ⟨j, q', hj, rfl, rfl, o, rfl, HO⟩ := hrel
            by_cases hltj : j < m
            · have hcj := HAT.out j hltj
              have hjI : (j : Int) < (m : Int) := by omega
              have hloj := HD.out.lo j
              have hsmj := HD.out.small j
              cases hnear : near ls i j with
              | false =>
                have HNr := Lib.hid hnear
                have HO' : Hid (o = true ↔ (at1 d i < 1 ∨ ∃ j', j' < j + 1 ∧ near ls i (j' : Int) = true ∧ at1 d j' = at1 d i - 1)) := by
                  show _ ↔ _
                  rw [HO.out]
                  constructor
                  · rintro (h | ⟨j', h1, h2⟩)
                    · exact .inl h
                    · exact .inr ⟨j', by omega, h2⟩
                  · rintro (h | ⟨j', h1, h2, h3⟩)
                    · exact .inl h
                    · by_cases e : j' = j
                      · subst e; rw [HNr.out] at h2; cases h2
                      · exact .inr ⟨j', by omega, h2, h3⟩
                clear hnear
                go_wp2_with fail
                refine (refBeside_any _ ls i j _ (hr2.drewN _)).mono ?_
                rintro e w4 ⟨rfl, rfl⟩
                rw [HNr.out]
                go_wp2
                go_roundw
                case rel => exact ⟨j + 1, q', by omega, by go_num, rfl, o, rfl, HO'⟩
                case measure => simp [intOf]; omega
              | true =>
                have HNr := Lib.hid hnear
                have hadj := (adj_near HG.out i j).2 hnear
                have he1 := HD.out.edge i j hadj
                have he2 := HD.out.edge j i (adj_symm HG.out hadj)
                have hw1 : IntKind.i64.wrap (at1 d i - at1 d j) = at1 d i - at1 d j := IntWalk.i64_in _ (by omega)
                have hw2 : IntKind.i64.wrap (at1 d j - at1 d i) = at1 d j - at1 d i := IntWalk.i64_in _ (by omega)
                have hw3 : IntKind.i64.wrap (at1 d i - 1) = at1 d i - 1 := IntWalk.i64_in _ (by omega)
                have hle1 : at1 d i - at1 d j ≤ 1 := by
                  by_cases h : 0 ≤ at1 d j
                  · have := he2 h; omega
                  · by_cases h' : 0 ≤ at1 d i
                    · have := he1 h'; omega
                    · omega
                have hle2 : at1 d j - at1 d i ≤ 1 := by
                  by_cases h : 0 ≤ at1 d i
                  · have := he1 h; omega
                  · by_cases h' : 0 ≤ at1 d j
                    · have := he2 h'; omega
                    · omega
                have hsg : (at1 d i < 0) ↔ (at1 d j < 0) := by
                  constructor
                  · intro h
                    rcases Int.lt_or_le (at1 d j) 0 with h' | h'
                    · exact h'
                    · have := (he2 h').1; omega
                  · intro h
                    rcases Int.lt_or_le (at1 d i) 0 with h' | h'
                    · exact h'
                    · have := (he1 h').1; omega
                have HO1 : Hid ((at1 d i < 1 ∨ ∃ j', j' < j + 1 ∧ near ls i (j' : Int) = true ∧ at1 d j' = at1 d i - 1) ↔ (o = true ∨ at1 d j = at1 d i - 1)) := by
                  show _ ↔ _
                  rw [HO.out]
                  constructor
                  · rintro (h | ⟨j', h1, h2, h3⟩)
                    · exact .inl (.inl h)
                    · by_cases e : j' = j
                      · subst e; exact .inr h3
                      · exact .inl (.inr ⟨j', by omega, h2, h3⟩)
                  · rintro ((h | ⟨j', h1, h2⟩) | h)
                    · exact .inl h
                    · exact .inr ⟨j', by omega, h2⟩
                    · exact .inr ⟨j, by omega, HNr.out, h⟩
                clear hnear hadj he1 he2
                have hs2 : (decide (at1 d i < 0) = true ∧ decide (at1 d j < 0) = true) ∨ (decide (at1 d i < 0) = false ∧ decide (at1 d j < 0) = false) := by
                  rcases Int.lt_or_le (at1 d i) 0 with h | h
                  · exact .inl ⟨decide_eq_true h, decide_eq_true (hsg.1 h)⟩
                  · exact .inr ⟨decide_eq_false (by omega), decide_eq_false (fun h' => by have := hsg.2 h'; omega)⟩
                clear hsg
                rcases hs2 with ⟨hsi, hsj⟩ | ⟨hsi, hsj⟩ <;> cases o
                all_goals
                  go_wp2_with fail
                  refine (refBeside_any _ ls i j _ (hr2.drewN _)).mono ?_
                  rintro e w4 ⟨rfl, rfl⟩
                  rw [HNr.out]
                  go_wp2
                  go_quiet (fail)
                  go_wp2
                  go_quiet (fail)
                  go_wp2
                  go_roundw
                  case rel => exact ⟨j + 1, _, by omega, by go_num, rfl, _, rfl, by show _ ↔ _; rw [HO1.out]; simp⟩
                  case measure => simp [intOf]; omega
            · have e : j = m := by omega
              rw [e] at HO ⊢
              have ho : o = true := by
                rw [HO.out]
                by_cases h : at1 d i < 1
                · exact .inl h
                · obtain ⟨j', h1, h2⟩ := HD.out.pre i (by omega)
                  have hj' := adj_bounded HG.out _ _ h1
                  exact .inr ⟨j', hj'.1, by rw [near_symm]; exact (adj_near HG.out j' i).1 h1, h2⟩
              subst ho
              clear e hltj hj HO
              by_cases hif : i = f
              · have hz0 : at1 d i = 0 := by rw [hif]; exact HD.out.src
                have hz1 : (at1 d i == 0) = true := by simp [hz0]
                have hz2 : ((i : Int) == (f : Int)) = true := by simp [hif]
                clear hif hz0
                go_wp2
                go_roundw
                case rel => exact ⟨i + 1, q', by omega, by go_num, rfl⟩
                case measure => simp [intOf]; omega
              · have hz0 : at1 d i ≠ 0 := fun e => hif (HD.out.zero i e)
                have hz1 : (at1 d i == 0) = false := by simp [hz0]
                have hz2 : ((i : Int) == (f : Int)) = false := by simp; omega
                clear hif hz0
                go_wp2
                go_roundw
                case rel => exact ⟨i + 1, q', by omega, by go_num, rfl⟩
                case measure => simp [intOf]; omega
        · go_wp2
          go_ret
          exact ⟨rfl, below_c hB12 (below_drewN' _ _)⟩
    · go_enter Try.func6, Try.ntmps6
      go_wp2_with fail
      refine (walkFact_any _).mono ?_
      rintro e w1 ⟨rfl, hB1⟩
      go_wp2_with fail
      refine (from_out m _ ls f _ (hr.later hB1) HG.out hf).mono ?_
      rintro e w2 ⟨rfl, hB2⟩
      go_wp2
      go_ret
      exact ⟨rfl, below_c hB1 hB2⟩
  · go_enter Try.func6, Try.ntmps6
    go_wp2_with fail
    refine (walkFact_any _).mono ?_
    rintro e w1 ⟨rfl, hB1⟩
    go_wp2_with fail
    refine (from_bad n _ ls f _ (hr.later hB1) hc).mono ?_
    rintro e w2 ⟨rfl, hB2⟩
    go_wp2
    go_ret
    exact ⟨rfl, below_c hB1 hB2⟩

end Go.Proofs.Ythlnejfojaldnaa
