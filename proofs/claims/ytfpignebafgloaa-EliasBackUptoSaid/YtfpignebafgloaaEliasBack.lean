/- EliasBack returns true for every list of at most 1048576 numbers: the walk. Conditions: the list's length. -/
import Derived.Test.YtfpignebafgloaaEliasOnly
namespace Go.Proofs.Ytfpignebafgloaa
open Go.RowKit

theorem El.gamma_short {n : Nat} (h : n ≤ 1000000) : (El.gamma n).length ≤ 59 := by
  have := El.log2_le_of n 29 (by omega); rw [El.gamma_length]; omega
theorem El.delta_short {n : Nat} (h : n ≤ 1000000) : (El.delta n).length ≤ 100 := by
  have := El.log2_le_of n 29 (by omega)
  have := El.log2_le_of (n.log2 + 1) 29 (by omega)
  rw [El.delta_length]; omega
theorem El.gammas_short (l : List Int) (h : ∀ x ∈ l, 1 ≤ x ∧ x ≤ 1000000) : (El.gammas l).length ≤ 100 * l.length := by
  induction l with
  | nil => simp [El.gammas]
  | cons a l ih =>
    have h1 := ih fun x hx => h x (List.mem_cons_of_mem _ hx)
    have h2 := h a List.mem_cons_self
    have h3 := El.gamma_short (show a.toNat ≤ 1000000 by omega)
    have e : El.gammas (a :: l) = El.gamma a.toNat ++ El.gammas l := by simp [El.gammas]
    rw [e, List.length_append, List.length_cons]; omega
theorem El.deltas_short (l : List Int) (h : ∀ x ∈ l, 1 ≤ x ∧ x ≤ 1000000) : (El.deltas l).length ≤ 100 * l.length := by
  induction l with
  | nil => simp [El.deltas]
  | cons a l ih =>
    have h1 := ih fun x hx => h x (List.mem_cons_of_mem _ hx)
    have h2 := h a List.mem_cons_self
    have h3 := El.delta_short (show a.toNat ≤ 1000000 by omega)
    have e : El.deltas (a :: l) = El.delta a.toNat ++ El.deltas l := by simp [El.deltas]
    rw [e, List.length_append, List.length_cons]; omega

theorem in_take_succ {l : List Int} {k : Nat} (hk : k < l.length) (h : ∀ x ∈ l.take k, 1 ≤ x ∧ x ≤ 1000000) (h2 : 1 ≤ l[k] ∧ l[k] ≤ 1000000) : ∀ x ∈ l.take (k + 1), 1 ≤ x ∧ x ≤ 1000000 := by
  intro x hx
  rw [List.take_succ_eq_append_getElem hk, List.mem_append] at hx
  rcases hx with hx | hx
  · exact h x hx
  · simp at hx; subst hx; exact h2

-- behind the reading of the gamma codes: the delta codes

set_option maxRecDepth 100000 in
set_option maxHeartbeats 8000000 in
theorem eliasBack_walk {v : Value} {xs : List Int} {w : World} (hr : Rd w v xs.length (ints xs)) (hlen : xs.length ≤ 1048576) :
    Calls Try.prog 10 #[v] w fun e w' => e = .returned (.bool true) ∧ Below w.heap.size w w' := by
  obtain ⟨i0, hi, hz0, hz1, hz2⟩ := info_parts info_int
  have hr0 := hr
  obtain ⟨a, c, rfl, hnc, hcm, _, hcell⟩ := hr0
  unfold maxLen at hcm
  go_enter Try.func10, Try.ntmps10
  go_wp2_with fail
  refine (eliasFact_any _).mono ?_
  rintro e w1 ⟨rfl, hb1⟩
  go_wp2_with fail
  go_loopw [4, 5, 6] (fun g d i wr => ∃ k : Nat, k ≤ xs.length ∧ i = .int .i64 k ∧ Hid (∀ x ∈ xs.take k, 1 ≤ x ∧ x ≤ 1000000) ∧
      wr.ownsRow w1.heap.size 3 1 g (El.gammas (xs.take k)).length (ints (El.gammas (xs.take k))) ∧ wr.ownsRow w1.heap.size 3 1 d (El.deltas (xs.take k)).length (ints (El.deltas (xs.take k))) ∧
      (g.ownBlock = none ∨ g.ownBlock ≠ d.ownBlock) ∧ Below w1.heap.size w1 wr) (fun _ _ i _ => xs.length - (intOf i).toNat)
  case atStart => exact ⟨0, by omega, rfl, fun x hx => by simp at hx, World.ownsRow_nil _ _ _ _, World.ownsRow_nil _ _ _ _, .inl rfl, Below.refl _ _⟩
  case round =>
    obtain ⟨k, hk, rfl, HIN, hog, hod, hne, hbr⟩ := hrel
    have hlg := El.gammas_short _ HIN.out
    have hld := El.deltas_short _ HIN.out
    have hlt0 : (xs.take k).length ≤ 1048576 := by simp; omega
    by_cases hlt : k < xs.length
    · obtain ⟨b, off, rfl, hbb, hc⟩ := hcell (by omega)
      have hck := ((hb1.trans (hbr.mono hb1.size)).cell (p := ⟨b, off + k, none⟩) hbb).trans (hc k _ (ints_get hlt))
      by_cases hin : 1 ≤ xs[k] ∧ xs[k] ≤ 1000000
      · have HIN2 := Lib.hid (in_take_succ hlt HIN.out hin)
        have hsg := El.gamma_short (show (xs[k]).toNat ≤ 1000000 by omega)
        have hsd := El.delta_short (show (xs[k]).toNat ≤ 1000000 by omega)
        have HTG := Lib.hid (El.gammas_take xs k hlt)
        have HTD := Lib.hid (El.deltas_take xs k hlt)
        go_wp2_with fail
        refine (Gamma_in _ _ hin.1 hin.2).mono ?_
        rintro e w2 ⟨a2, c2, rfl, ho2, hb2⟩
        have hck2 := (hb2.cell (p := ⟨b, off + k, none⟩) (by show b < _; have := hb1.size; have := hbr.size; omega)).trans hck
        clear hck
        go_wp2_with fail
        refine (Delta_in _ _ hin.1 hin.2).mono ?_
        rintro e w3 ⟨a3, c3, rfl, ho3, hb3⟩
        have hr2 := (rd_of_owns ho2).later hb3
        have hne3 := apart_new hog ho3 hb2.size
        have hog3 := owns_later (owns_later hog hb2) hb3
        have hod3 := owns_later (owns_later hod hb2) hb3
        have hbr3 := below_c (below_c hbr hb2) hb3
        have hpg := El.gamma_pos (xs[k]).toNat
        have hpd := El.delta_pos (xs[k]).toNat
        have hsz3 := hbr3.size
        clear hog hod ho2 hb2 hb3 hck2
        have tok : True := trivial
        go_wp2_with (first | (at_builtin; have _t := tok; refine wpl_appL _ _ _ (AppTo.refl hog3) hr2 (by simp [ints]) hpg rfl rfl Try.underlying27 hi hz0 hz1 hz2 rfl (by decide) rfl rfl (ints_one _) (by decide) (by omega) hsz3 ?_; intro g' w4 hA4 hne4 hst4; clear tok; have hsz4 := hA4.grown.size; obtain ⟨hod4, hne5⟩ := owns_beside hA4 hod3 hne; have hr34 := rd_of_owns (owns_beside hA4 ho3 hne3).1; have hog4 := hA4.own; have hbr4 : Below w1.heap.size w1 w4 := hbr3.trans hst4; clear hod3 hog3 ho3 hr2) | (at_builtin; go_must (refine wpl_appL _ _ _ (AppTo.refl hod4) hr34 (by simp [ints]) hpd rfl rfl Try.underlying27 hi hz0 hz1 hz2 rfl (by decide) rfl rfl (ints_one _) (by decide) (by omega) (by omega) ?_); intro d' w5 hA5 hne6 hst5))
        obtain ⟨hog5, hne7⟩ := owns_beside hA5 hog4 (apart_symm hne5)
        have hod5 := hA5.own
        go_roundw
        case rel => exact ⟨k + 1, by omega, by go_num, HIN2, by rw [HTG.out, List.length_append]; simpa [ints] using hog5, by rw [HTD.out, List.length_append]; simpa [ints] using hod5, apart_symm hne7, hbr4.trans hst5⟩
        case measure => simp [intOf]; omega
      · have HI := Lib.hid hin
        clear hin
        go_wp2_with fail
        refine (gammaE_no _ _ HI.out).mono ?_
        rintro e w2 ⟨rfl, rfl⟩
        go_wp2_with fail
        refine (deltaE_no _ _ HI.out).mono ?_
        rintro e w2 ⟨rfl, rfl⟩
        go_wp2_with fail
        refine (in_any _ _ _ _).mono ?_
        rintro e w4 ⟨rfl, rfl⟩
        rw [decide_eq_false HI.out]
        go_wp2
        go_ret
        exact ⟨rfl, below_c hb1 hbr⟩
    · have hkt : xs.take k = xs := List.take_of_length_le (by omega)
      rw [hkt] at HIN hog hod
      have HX := HIN
      obtain ⟨ag, cg, rfl⟩ := owns_slice hog
      obtain ⟨ad, cd, rfl⟩ := owns_slice hod
      have hrg := rd_of_owns hog
      have hrd := rd_of_owns hod
      have hB := below_c hb1 hbr
      clear hkt hog hod hne hbr hb1 hlg hld
      by_cases hg6 : (El.gammas xs).length ≤ 600
      · have hg6' : ((El.gammas xs).length : Int) ≤ 600 := by omega
        have hcg := El.chk_gammas hg6
        have HRG : Hid (El.ReadGamma (El.gammas xs) = (xs, 0)) := by show _ = _; rw [El.ReadGamma, hcg, El.readG_gammas xs HX.out]; rfl
        go_wp2_with fail
        refine (ReadGamma_ok _ (El.gammas xs) _ hrg hcg).mono ?_
        rw [HRG.out]
        rintro e wg ⟨ag2, cg2, rfl, hog2, hbg2⟩
        simp only [errOf, if_true]
        have hBg := below_c hB hbg2
        have hrg2 := rd_of_owns hog2
        have hrxg := hr.later hBg
        have hrd2 := hrd.later hbg2
        clear hog2 hbg2 hB hrd hrg
        go_wp2_with fail
        refine (ints_b _ _ xs xs _ hrg2 hrxg).mono ?_
        rintro e wy ⟨rfl, hby⟩
        rw [decide_eq_true rfl]
        have hrd3 := hrd2.later hby
        have hBy := below_c hBg hby
        clear hrd2 hby hBg hrg2 hrxg
        by_cases hd6 : (El.deltas xs).length ≤ 600
        · have hd6' : ((El.deltas xs).length : Int) ≤ 600 := by omega
          have hcd := El.chk_deltas hd6
          have HRD : Hid (El.ReadDelta (El.deltas xs) = (xs, 0)) := by show _ = _; rw [El.ReadDelta, hcd, El.readD_deltas xs HX.out]; rfl
          go_wp2_with fail
          refine (ReadDelta_ok _ (El.deltas xs) _ hrd3 hcd).mono ?_
          rw [HRD.out]
          rintro e wq ⟨aq, cq, rfl, hoq, hbq⟩
          simp only [errOf, if_true]
          have hBq := below_c hBy hbq
          have hrq := rd_of_owns hoq
          have hrxq := hr.later hBq
          clear hoq hbq
          go_wp2_with fail
          refine (ints_b _ _ xs xs _ hrq hrxq).mono ?_
          rintro e wz ⟨rfl, hbz⟩
          rw [decide_eq_true rfl]
          go_wp2
          go_ret
          exact ⟨rfl, below_c hBq hbz⟩
        · have hd6' : 600 < ((El.deltas xs).length : Int) := by omega
          go_wp2
          go_ret
          exact ⟨rfl, hBy⟩
      · have hg6' : 600 < ((El.gammas xs).length : Int) := by omega
        by_cases hd6 : (El.deltas xs).length ≤ 600
        · have hd6' : ((El.deltas xs).length : Int) ≤ 600 := by omega
          have hcd := El.chk_deltas hd6
          have HRD : Hid (El.ReadDelta (El.deltas xs) = (xs, 0)) := by show _ = _; rw [El.ReadDelta, hcd, El.readD_deltas xs HX.out]; rfl
          go_wp2_with fail
          refine (ReadDelta_ok _ (El.deltas xs) _ hrd hcd).mono ?_
          rw [HRD.out]
          rintro e wq ⟨aq, cq, rfl, hoq, hbq⟩
          simp only [errOf, if_true]
          have hBq := below_c hB hbq
          have hrq := rd_of_owns hoq
          have hrxq := hr.later hBq
          clear hoq hbq
          go_wp2_with fail
          refine (ints_b _ _ xs xs _ hrq hrxq).mono ?_
          rintro e wz ⟨rfl, hbz⟩
          rw [decide_eq_true rfl]
          go_wp2
          go_ret
          exact ⟨rfl, below_c hBq hbz⟩
        · have hd6' : 600 < ((El.deltas xs).length : Int) := by omega
          go_wp2
          go_ret
          exact ⟨rfl, hB⟩

end Go.Proofs.Ytfpignebafgloaa
