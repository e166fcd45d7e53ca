/- DeepBrackets returns true for every input: the walk. Conditions: none. -/
import Derived.Test.YthlnejfojaldnaaDeepBack
import Derived.Test.YthlnejfojaldnaaRising
namespace Go.Proofs.Ythlnejfojaldnaa
open Go.RowKit Gr

/-- all times of the first k points -/
def timesL (m l : List Int) (k : Nat) : List Int := (List.range k).flatMap fun i => [at1 m i, at1 l i]
theorem timesL_succ (m l : List Int) (k : Nat) : timesL m l (k + 1) = timesL m l k ++ [at1 m k] ++ [at1 l k] := by
  unfold timesL; rw [List.range_succ, List.flatMap_append]; simp
theorem timesL_length (m l : List Int) (k : Nat) : (timesL m l k).length = 2 * k := by
  induction k with
  | zero => rfl
  | succ k ih => rw [timesL_succ]; simp [ih]; omega

theorem times_nodup {O : List Nat} {n : Nat} {m l c : List Int} (h : IsDeep O n m l c) : ∀ k, k ≤ n → (timesL m l k).Nodup ∧ ∀ y ∈ timesL m l k, ∃ i, i < k ∧ (y = at1 m i ∨ y = at1 l i) := by
  intro k
  induction k with
  | zero => intro _; exact ⟨List.nodup_nil, by simp [timesL]⟩
  | succ k ih =>
    intro hk
    obtain ⟨h1, h2⟩ := ih (by omega)
    have ht := h.times k (by omega)
    have hne : ∀ y ∈ timesL m l k, y ≠ at1 m k ∧ y ≠ at1 l k := by
      intro y hy
      obtain ⟨i, hi, hyi⟩ := h2 y hy
      have ti := h.times i (by omega)
      have := h.nest i k (by omega) (by omega) (by omega)
      rcases hyi with rfl | rfl <;> constructor <;> omega
    rw [timesL_succ]
    constructor
    · rw [List.nodup_append]
      refine ⟨?_, by simp, ?_⟩
      · rw [List.nodup_append]
        exact ⟨h1, by simp, fun a ha b hb => by rw [List.mem_singleton] at hb; subst hb; exact (hne a ha).1⟩
      · intro a ha b hb
        rw [List.mem_singleton] at hb; subst hb
        rcases List.mem_append.1 ha with h3 | h3
        · exact (hne a h3).2
        · rw [List.mem_singleton] at h3; subst h3; omega
    · intro y hy
      rcases List.mem_append.1 hy with h3 | h3
      · rcases List.mem_append.1 h3 with h4 | h4
        · obtain ⟨i, hi, hyi⟩ := h2 y h4; exact ⟨i, by omega, hyi⟩
        · rw [List.mem_singleton] at h4; exact ⟨k, by omega, .inl h4⟩
      · rw [List.mem_singleton] at h3; exact ⟨k, by omega, .inr h3⟩

theorem times_places {O : List Nat} {n : Nat} {m l c ys : List Int} (h : IsDeep O n m l c) (hp : ys.Perm (timesL m l n)) (hs : ys.Pairwise (· ≤ ·)) : ∀ k, k < 2 * n → at1 ys k = (k : Int) := by
  obtain ⟨h1, h2⟩ := times_nodup h n (Nat.le_refl _)
  have hl : ys.length = 2 * n := by rw [hp.length_eq, timesL_length]
  have key := rising_places hs (hp.nodup_iff.2 h1) (fun y hy => by
    obtain ⟨i, hi, hyi⟩ := h2 y (hp.mem_iff.1 hy)
    have := h.times i hi
    rcases hyi with rfl | rfl <;> omega)
  intro k hk
  have hk' : k < ys.length := by omega
  have := at1_lt hk'
  rw [List.getElem?_eq_getElem hk', key k hk'] at this
  exact (Option.some.inj this).symm

set_option maxRecDepth 100000 in
set_option maxHeartbeats 8000000 in
theorem deepBrackets_any (n : Int) {v : Value} {ls : List Ln} {w : World} (hr : LinesRd w v ls) :
    Calls Try.prog 3 #[.int .i64 n, v] w fun e w' => e = .returned (.bool true) ∧ Below w.heap.size w w' := by
  by_cases hc : chk n ls = 0
  · obtain ⟨m, rfl, hg⟩ := good_of hc
    have HG := Lib.hid hg
    have hm8 := hg.2.1
    have hm1 := hg.1
    have HD := Lib.hid (deepWalk_is hm8 (adj_bounded hg) (fun _ _ h => adj_symm hg h))
    have hmm : ((m : Int) != (m : Int)) = false := by simp
    have w1' : IntKind.i64.wrap ((m : Int) - 1) = (m : Int) - 1 := IntWalk.i64_in _ (by omega)
    obtain ⟨i0, hi, hz0, hz1, hz2⟩ := info_parts info_int
    clear hc hg
    go_enter Try.func3, Try.ntmps3
    go_wp2_with fail
    refine (deepFact_any _).mono ?_
    rintro e w1 ⟨rfl, hB1⟩
    go_wp2_with fail
    refine (deep_ok m _ ls _ (hr.later hB1) HG.out).mono ?_
    rintro e w2 ⟨a1, c1, a2, c2, a3, c3, rfl, r1, r2, r3, hB2⟩
    have hB12 := below_c hB1 hB2
    generalize deepWalk (beside m ls) m = D at *
    obtain ⟨ba, oa, rfl, hca1, hca2, _⟩ := rd_cells r1 HD.out.lm hm1
    obtain ⟨bb, ob, rfl, hcb1, hcb2, _⟩ := rd_cells r2 HD.out.ll hm1
    obtain ⟨bc, oc, rfl, hcc1, hcc2, _⟩ := rd_cells r3 HD.out.lc hm1
    unfold maxLen at hca2 hcb2 hcc2
    clear hB1 hB2
    go_wp2_with fail
    go_loopw [10, 11] (fun t i wr => ∃ k : Nat, k ≤ m ∧ i = .int .i64 k ∧ wr.ownsRow w2.heap.size 3 1 t (2 * k) (ints (timesL D.met D.left k)) ∧ Below w2.heap.size w2 wr) (fun _ i _ => m - (intOf i).toNat)
    case atStart => exact ⟨0, by omega, rfl, World.ownsRow_nil _ _ _ _, Below.refl _ _⟩
    case round =>
      obtain ⟨k, hk, rfl, hown, hbr⟩ := hrel
      by_cases hlt : k < m
      · have hki : (k : Int) < (m : Int) := by omega
        have cak := rdAt (r1.later hbr) HD.out.lm hlt
        have cbk := rdAt (r2.later hbr) HD.out.ll hlt
        have hbs := hbr.size
        have tok : True := trivial
        go_wp2_with (first
          | (at_builtin; have _t := tok; go_must (refine wpl_app _ _ _ (AppTo.refl hown) rfl rfl Try.underlying24 hi hz0 hz1 hz2 rfl (by decide) rfl rfl rfl (by simp [Value.oneCell']) (by decide) (by omega) hbr.size ?_); intro v3 w3 hA3 hne3 hst3; clear tok; have hb3 := hbr.trans hst3; have cbk3 := rdAt (r2.later hb3) HD.out.ll hlt)
          | (at_builtin; go_must (refine wpl_app _ _ _ (AppTo.refl hA3.own) rfl rfl Try.underlying24 hi hz0 hz1 hz2 rfl (by decide) rfl rfl rfl (by simp [Value.oneCell']) (by decide) (by omega) hb3.size ?_); intro v4 w4 hA4 hne4 hst4))
        have hb4 := hb3.trans hst4
        have hown4 : w4.ownsRow w2.heap.size 3 1 v4 (2 * (k + 1)) (ints (timesL D.met D.left (k + 1))) := by
          have := hA4.own
          rw [timesL_succ]
          simpa [Nat.mul_succ] using this
        clear cak cbk cbk3 hA3 hA4 hne3 hne4 hst3 hst4 hown hb3 hbr hbs
        go_wp2_with fail
        go_loopw [12] (fun i wr => ∃ j : Nat, j ≤ m ∧ i = .int .i64 j ∧ Below w4.heap.size w4 wr) (fun i _ => m - (intOf i).toNat)
        case atStart => exact ⟨0, by omega, rfl, Below.refl _ _⟩
        case round =>
          obtain ⟨j, hj, rfl, hbr⟩ := hrel
          have hb5 := below_c' hb4 hbr hb4.size
          by_cases hlj : j < m
          · have hji : (j : Int) < (m : Int) := by omega
            have cak := rdAt (r1.later hb5) HD.out.lm hlt
            have cbk := rdAt (r2.later hb5) HD.out.ll hlt
            have caj := rdAt (r1.later hb5) HD.out.lm hlj
            have cbj := rdAt (r2.later hb5) HD.out.ll hlj
            have tk := HD.out.times k hlt
            have tj := HD.out.times j hlj
            have hnest : (k = j) ∨ (at1 D.left k < at1 D.met j ∨ at1 D.left j < at1 D.met k) ∨ (at1 D.met k < at1 D.met j ∧ at1 D.left j < at1 D.left k) ∨ (at1 D.met j < at1 D.met k ∧ at1 D.left k < at1 D.left j) := by
              by_cases e : k = j
              · exact .inl e
              · exact .inr (HD.out.nest k j hlt hlj e)
            have hc4 : (at1 D.left k < at1 D.met j) ∨ (at1 D.left j < at1 D.met k) ∨ (at1 D.met k ≤ at1 D.met j ∧ at1 D.left j ≤ at1 D.left k) ∨ (at1 D.met j < at1 D.met k ∧ at1 D.left k < at1 D.left j) := by
              rcases hnest with rfl | h | h | h
              · right; right; left; omega
              · rcases h with h | h
                · exact .inl h
                · exact .inr (.inl h)
              · right; right; left; omega
              · exact .inr (.inr (.inr h))
            clear hnest
            generalize at1 D.met k = ak at *
            generalize at1 D.left k = bk at *
            generalize at1 D.met j = aj at *
            generalize at1 D.left j = bj at *
            have e0 : decide (ak ≥ bk) = false := by simp; omega
            have e0' : decide (bk ≤ ak) = false := by simp; omega
            rcases hc4 with h | h | h | h
            · have e1 : decide (bk < aj) = true := by simp; omega
              have e2 : decide (ak ≤ aj) = true := by simp; omega
              have e3 : decide (bj ≤ bk) = false := by simp; omega
              have e4 : decide (aj ≤ ak) = false := by simp; omega
              clear h tk tj
              go_wp2
              go_quiet (fail)
              go_wp2
              go_quiet (fail)
              go_wp2
              go_quiet (fail)
              go_wp2
              go_roundw
              case rel => exact ⟨j + 1, by omega, by go_num, hbr.trans ((below_drewN' _ _).mono hbr.size)⟩
              case measure => simp [intOf]; omega
            · have e1 : decide (bk < aj) = false := by simp; omega
              have e2 : decide (bj < ak) = true := by simp; omega
              have e3 : decide (ak ≤ aj) = false := by simp; omega
              have e4 : decide (aj ≤ ak) = true := by simp; omega
              have e5 : decide (bk ≤ bj) = false := by simp; omega
              clear h tk tj
              go_wp2
              go_quiet (fail)
              go_wp2
              go_quiet (fail)
              go_wp2
              go_quiet (fail)
              go_wp2
              go_roundw
              case rel => exact ⟨j + 1, by omega, by go_num, hbr.trans ((below_drewN' _ _).mono hbr.size)⟩
              case measure => simp [intOf]; omega
            · have e1 : decide (bk < aj) = false := by simp; omega
              have e2 : decide (bj < ak) = false := by simp; omega
              have e3 : decide (ak ≤ aj) = true := by simp; omega
              have e4 : decide (bj ≤ bk) = true := by simp; omega
              clear h tk tj
              go_wp2
              go_quiet (fail)
              go_wp2
              go_quiet (fail)
              go_wp2
              go_quiet (fail)
              go_wp2
              go_roundw
              case rel => exact ⟨j + 1, by omega, by go_num, hbr.trans ((below_drewN' _ _).mono hbr.size)⟩
              case measure => simp [intOf]; omega
            · have e1 : decide (bk < aj) = false := by simp; omega
              have e2 : decide (bj < ak) = false := by simp; omega
              have e3 : decide (ak ≤ aj) = false := by simp; omega
              have e4 : decide (aj ≤ ak) = true := by simp; omega
              have e5 : decide (bk ≤ bj) = true := by simp; omega
              clear h tk tj
              go_wp2
              go_quiet (fail)
              go_wp2
              go_quiet (fail)
              go_wp2
              go_quiet (fail)
              go_wp2
              go_roundw
              case rel => exact ⟨j + 1, by omega, by go_num, hbr.trans ((below_drewN' _ _).mono hbr.size)⟩
              case measure => simp [intOf]; omega
          · have hown5 := owns_later hown4 hbr
            have hr5 := hr.later (below_c hB12 hb5)
            have cck := rdAt (r3.later hb5) HD.out.lc hlt
            rcases HD.out.tree k hlt with ⟨h1, _⟩ | ⟨p, hp, h1, h2, h3, h4⟩
            · rw [h1] at cck
              clear h1
              go_wp2
              go_quiet (fail)
              go_wp2
              go_roundw
              case rel => exact ⟨k + 1, by omega, by go_num, owns_later hown5 (below_drewN' _ _), hb5.trans ((below_drewN' _ _).mono hb5.size)⟩
              case measure => simp [intOf]; omega
            · rw [h1] at cck
              have hpi : (p : Int) < (m : Int) := by omega
              have cak := rdAt (r1.later hb5) HD.out.lm hlt
              have cbk := rdAt (r2.later hb5) HD.out.ll hlt
              have cap := rdAt (r1.later hb5) HD.out.lm hp
              have cbp := rdAt (r2.later hb5) HD.out.ll hp
              have hnr : near ls (k : Int) (p : Int) = true := by rw [near_symm]; exact (adj_near HG.out p k).1 h2
              have HN := Lib.hid hnr
              have HI := Lib.hid (decide_eq_true (show (0 : Int) ≤ (p : Int) ∧ (p : Int) ≤ (m : Int) - 1 by omega))
              generalize at1 D.met k = ak at *
              generalize at1 D.left k = bk at *
              generalize at1 D.met p = ap at *
              generalize at1 D.left p = bp at *
              have e0 : decide ((p : Int) ≥ 0) = true := by simp
              have e1 : decide (ap ≥ ak) = false := by simp; omega
              have e1' : decide (ak ≤ ap) = false := by simp; omega
              have e2 : decide (bp ≤ bk) = false := by simp; omega
              clear h1 h2 h3 h4 hnr
              go_wp2
              go_quiet ((first
                | (go_at_call 15; refine (in_any _ _ _ _).mono ?_; rintro e w' ⟨rfl, rfl⟩; exact ⟨ret_bool (by first | exact HI.out | (rw [w1']; exact HI.out)), _, rfl⟩)
                | (go_at_call 16; refine (refBeside_any _ ls k p _ (hr5.drewN _)).mono ?_; rintro e w' ⟨rfl, rfl⟩; exact ⟨ret_bool HN.out, _, rfl⟩)))
              go_wp2
              go_roundw
              case rel => exact ⟨k + 1, by omega, by go_num, owns_later hown5 (below_drewN' _ _), hb5.trans ((below_drewN' _ _).mono hb5.size)⟩
              case measure => simp [intOf]; omega
      · have hke : k = m := by omega
        subst hke
        have hrt := rd_of_owns hown
        rw [← timesL_length D.met D.left k] at hrt
        go_wp2_with fail
        refine (rising_any _ (timesL D.met D.left k) _ hrt (by rw [timesL_length]; omega)).mono ?_
        rintro e w5 ⟨ys, ay, cy, rfl, hperm, hsort, hry, hB5⟩
        have hyl : ys.length = 2 * k := by rw [hperm.length_eq, timesL_length]
        have HK := Lib.hid (times_places HD.out hperm hsort)
        rw [timesL_length] at hry ⊢
        obtain ⟨by', oy, rfl, hcy1, hcy2, _⟩ := rd_cells hry hyl (by omega)
        unfold maxLen at hcy2
        have hb5 := below_c' hbr hB5 hbr.size
        clear hperm hsort hrt
        go_wp2_with fail
        go_loopw [16] (fun i wr => ∃ j : Nat, j ≤ 2 * k ∧ i = .int .i64 j ∧ Below w5.heap.size w5 wr) (fun i _ => 2 * k - (intOf i).toNat)
        case atStart => exact ⟨0, by omega, rfl, Below.refl _ _⟩
        case round =>
          obtain ⟨j, hj, rfl, hbj⟩ := hrel
          by_cases hlj : j < 2 * k
          · have hji : (j : Int) < ((2 * k : Nat) : Int) := by omega
            have hji' : (j : Int) < 2 * (k : Int) := by omega
            have cyj := rdAt (hry.later hbj) hyl hlj
            rw [HK.out j hlj] at cyj
            have hjj : ((j : Int) != (j : Int)) = false := by simp
            go_wp2
            go_roundw
            case rel => exact ⟨j + 1, by omega, by go_num, hbj⟩
            case measure => simp [intOf]; omega
          · have hji' : ¬ (j : Int) < 2 * (k : Int) := by omega
            go_wp2
            go_ret
            exact ⟨rfl, below_c hB12 (below_c' hb5 hbj hb5.size)⟩
  · go_enter Try.func3, Try.ntmps3
    go_wp2_with fail
    refine (deepFact_any _).mono ?_
    rintro e w1 ⟨rfl, hB1⟩
    go_wp2_with fail
    refine (deep_bad n _ ls _ (hr.later hB1) hc).mono ?_
    rintro e w2 ⟨rfl, hB2⟩
    go_wp2
    go_ret
    exact ⟨rfl, below_c hB1 hB2⟩

end Go.Proofs.Ythlnejfojaldnaa
