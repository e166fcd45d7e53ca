/- WalkSays returns true for every input: the walk. Conditions: the listed variable holds its handle. -/
import Derived.Test.YtlfinlfmlnclhaaDoorRefFar
import Derived.Test.YtlfinlfmlnclhaaDoorRefRing
import Derived.Test.YtlfinlfmlnclhaaDoorWalkFact
import Derived.Test.YtlfinlfmlnclhaaDoorParts
import Derived.Test.YtlfinlfmlnclhaaDoorRefLines
import Derived.Test.YtlfinlfmlnclhaaDoorErr
namespace Go.Proofs.YtlfinlfmlnclhaaDoor
open Go.RowKit Gr

/-- k is the first point that i hangs together with -/
def FirstFar (O : List Nat) (n i k : Nat) : Prop := k < n ∧ 0 ≤ farF O n i k ∧ ∀ j, j < k → farF O n i j < 0
theorem parts_far {O : List Nat} {n : Nat} {p : List Int} (hO : Bounded n O) (hp : IsParts O n p) {i k : Nat} (hi : i < n) (h : FirstFar O n i k) : at1 p i = (k : Int) := by
  obtain ⟨s, m, r1, r2, r3, r4⟩ := hp.least i hi
  obtain ⟨h1, h2, h3⟩ := h
  have hin : ∀ v t, Gr.Steps O i v t → s.testBit v = true := by
    intro v t hst
    induction hst with
    | refl => exact r1.src
    | @step u v t _ e ih => exact r1.shut u v ih e ((below_bit n v).2 (hO u v e).2)
  have hk := r4 k (hin k _ (far_sound n i k h2))
  have hm : 0 ≤ farF O n i m := r1.least (fun v => 0 ≤ farF O n i v) (by rw [far_diag]; omega) (fun u v hu huv _ => (far_full n i v _ (steps_wk hO ((far_sound n i u hu).step huv))).1) m r3
  rcases Nat.lt_or_ge m k with h4 | h4
  · have := h3 m h4; omega
  · rw [r2]; omega
theorem parts_list {O : List Nat} {n : Nat} {p Q : List Int} (hO : Bounded n O) (hp : IsParts O n p) (hl : Q.length = n) (h : ∀ i, i < n → ∃ k : Nat, at1 Q i = (k : Int) ∧ FirstFar O n i k) : p = Q := by
  refine List.ext_getElem? fun i => ?_
  by_cases hi : i < n
  · obtain ⟨k, e, hk⟩ := h i hi
    rw [at1_lt (by rw [hp.len]; exact hi), at1_lt (by rw [hl]; exact hi), parts_far hO hp hi hk, e]
  · rw [List.getElem?_eq_none (by rw [hp.len]; omega), List.getElem?_eq_none (by omega)]

/-- what the search over all lengths has found, ahead of m -/
def RingUp (O : List Nat) (n m : Nat) (r : Int) : Prop :=
  (r = 0 ∧ ∀ j, 3 ≤ j → j < m → hasRing O n j = false) ∨ (3 ≤ m - 1 ∧ r = ((m - 1 : Nat) : Int) ∧ hasRing O n (m - 1) = true ∧ ∀ j, 3 ≤ j → j < m - 1 → hasRing O n j = false)
theorem ring_same {O : List Nat} {n m : Nat} {k r : Int} (hn : n ≤ 8) (hl : O.length = n) (hO : Bounded n O) (hs : Symm O) (hi : ∀ i, ¬ adjS O i i) (h : BestIs O n (adjS O) k) (hr : RingUp O n m r) (he : r ≠ 0 ∨ n < m) : k = r := by
  rcases hr with ⟨rfl, h1⟩ | ⟨h0, rfl, h1, h2⟩
  · rcases he with he | he
    · exact absurd rfl he
    · by_cases hk : k = 0
      · exact hk
      · have h3 := ring_three hl hO hi h hk
        have := (hasRing_iff (O := O) (n := n) (m := k.toNat) (by omega)).2 (best_cyc hl hO hs hi h hk)
        rw [h1 k.toNat (by omega) (by omega)] at this
        cases this
  · obtain ⟨hk, hle⟩ := cyc_best hn hl hO hs hi h h0 ((hasRing_iff (by omega)).1 h1)
    have h3 := ring_three hl hO hi h hk
    have := (hasRing_iff (O := O) (n := n) (m := k.toNat) (by omega)).2 (best_cyc hl hO hs hi h hk)
    by_cases hlt : k.toNat < m - 1
    · rw [h2 k.toNat (by omega) hlt] at this; cases this
    · omega

theorem ints_same' (v1 v2 : Value) (xs : List Int) (w : World) (hr1 : Rd w v1 xs.length (ints xs)) (hr2 : Rd w v2 xs.length (ints xs)) :
    Calls Tryd.prog 19 #[v1, v2] w fun e w' => e = .returned (.bool true) ∧ Below w.heap.size w w' := by
  have := ints_b v1 v2 xs xs w hr1 hr2
  rwa [decide_eq_true rfl] at this
theorem ints_nil (w : World) : Calls Tryd.prog 19 #[.slice none 0 0, .slice none 0 0] w fun e w' => e = .returned (.bool true) ∧ Below w.heap.size w w' := ints_same' _ _ [] w (Rd.nil _) (Rd.nil _)
theorem errorSame (q : Nat) (w : World) (hk : q ≠ 0) (hh : Handle w) : Calls Tryd.prog 13 #[errV q, .int .i64 (q : Int)] w fun r w' => r = .returned (.bool true) ∧ Below w.heap.size w w' := by
  have := errorV q q w hk hh
  rwa [decide_eq_true rfl] at this
theorem errorNone (w : World) (hh : Handle w) : Calls Tryd.prog 13 #[.nilIface, .int .i64 0] w fun r w' => r = .returned (.bool true) ∧ Below w.heap.size w w' := by
  have := errorNil 0 w hh
  rwa [decide_eq_true rfl] at this

set_option maxRecDepth 100000 in
set_option maxHeartbeats 4000000 in
theorem walkSays_bad (n f : Int) {v : Value} {ls : List Ln} {w : World} (hh : Handle w) (hr : LinesRd w v ls) (hc : chk n ls ≠ 0) :
    Calls Tryd.prog 7 #[.int .i64 n, v, .int .i64 f] w fun e w' => e = .returned (.bool true) ∧ Below w.heap.size w w' := by
  have HC := Lib.hid hc
  have KP := parts_bad n v ls
  have KG := ring_bad n v ls
  have KF := from_bad n v ls f
  have KR := refLines_any n v ls
  have hci : (((chk n ls : Nat) : Int) == 0) = false := by rw [beq_eq_false_iff_ne]; omega
  generalize chk n ls = q at *
  clear hc
  go_enter Tryd.func7, Tryd.ntmps7
  go_wp2_with fail
  refine (KR _ hr).mono ?_
  rintro e w0 ⟨rfl, hB0⟩
  go_wp2_with fail
  refine (KP _ (hr.later hB0) HC.out).mono ?_
  rintro e w1 ⟨rfl, hB1⟩
  have hB01 := below_c hB0 hB1
  go_wp2_with fail
  refine (errorSame q _ HC.out (hh.later hB01)).mono ?_
  rintro e w2 ⟨rfl, hB2⟩
  have hB02 := below_c hB01 hB2
  go_wp2_with fail
  refine (ints_nil _).mono ?_
  rintro e w3 ⟨rfl, hB3⟩
  have hB03 := below_c hB02 hB3
  go_wp2_with fail
  refine (KG _ (hr.later hB03) HC.out).mono ?_
  rintro e w4 ⟨rfl, hB4⟩
  have hB04 := below_c hB03 hB4
  go_wp2_with fail
  refine (errorSame q _ HC.out (hh.later hB04)).mono ?_
  rintro e w5 ⟨rfl, hB5⟩
  have hB05 := below_c hB04 hB5
  go_wp2_with fail
  refine (KF _ (hr.later hB05) HC.out).mono ?_
  rintro e w6 ⟨rfl, hB6⟩
  have hB06 := below_c hB05 hB6
  go_wp2_with fail
  refine (errorSame q _ HC.out (hh.later hB06)).mono ?_
  rintro e w7 ⟨rfl, hB7⟩
  have hB07 := below_c hB06 hB7
  go_wp2_with fail
  refine (ints_nil _).mono ?_
  rintro e w8 ⟨rfl, hB8⟩
  have hB08 := below_c hB07 hB8
  go_wp2
  go_ret
  exact ⟨rfl, hB08⟩

-- what follows behind the search for a ring

set_option maxRecDepth 100000 in
set_option maxHeartbeats 4000000 in
theorem walkSays_good (n : Nat) (f : Int) {v : Value} {ls : List Ln} {w : World} (hh : Handle w) (hr : LinesRd w v ls) (hg : GoodG n ls) :
    Calls Tryd.prog 7 #[.int .i64 (n : Int), v, .int .i64 f] w fun e w' => e = .returned (.bool true) ∧ Below w.heap.size w w' := by
  obtain ⟨i0, hi, hz0, hz1, hz2⟩ := info_parts info_int
  have hn1 := hg.1
  have hn8 := hg.2.1
  have HG := Lib.hid hg
  have KR := refLines_any (n : Int) v ls
  rw [chk_good hg] at KR
  have HO := Lib.hid (adj_bounded hg)
  have HS : Hid (Symm (beside n ls)) := fun _ _ h => adj_symm hg h
  have HI : Hid (∀ i, ¬ adjS (beside n ls) i i) := fun i h => adj_ne hg h rfl
  have HL := Lib.hid (beside_length n ls)
  clear hg
  go_enter Tryd.func7, Tryd.ntmps7
  go_wp2_with fail
  refine (KR _ hr).mono ?_
  rintro e w0 ⟨rfl, hB0⟩
  go_wp2_with fail
  refine (refFar_ok n v ls _ (hr.later hB0) HG.out).mono ?_
  rintro e w1 ⟨vo, G, rfl, hGl, hM⟩
  have HGl := Lib.hid hGl
  have hGp : 0 < G.length := by omega
  obtain ⟨go, co, rfl⟩ := owns_some' hM.out hGp
  rw [hGl]
  have hMo : w1.ownsRow w0.heap.size 36 1 (.slice (some ⟨go, 0, none⟩) n co) n (G.map fun g => .slice (some ⟨g, 0, none⟩) n n) := by have := hM.out; rwa [hGl] at this
  have hrows := Lib.hid hM.rows
  have hB1 := below_c hB0 hM.below
  have hs1 := hB1.size
  clear hGl hM hGp
  go_wp2_with fail
  go_loopw [8, 12] (fun lo ii wr => ∃ (i : Nat) (Q : List Int), i ≤ n ∧ ii = .int .i64 i ∧ Q.length = i ∧ wr.ownsRow w1.heap.size 3 1 lo i (ints Q) ∧ Hid (∀ j, j < i → ∃ k : Nat, at1 Q j = (k : Int) ∧ FirstFar (beside n ls) n j k) ∧ Below w1.heap.size w1 wr) (fun _ ii _ => n - (intOf ii).toNat)
  case atStart => exact ⟨0, [], by omega, rfl, rfl, World.ownsRow_nil _ _ _ _, fun j hj => absurd hj (by omega), Below.refl _ _⟩
  case round =>
    obtain ⟨i, Q, hi', rfl, hQ, ho, HQ, hB⟩ := hrel
    obtain ⟨wa, hwa⟩ : ∃ wa, wa = wr := ⟨wr, rfl⟩
    subst hwa
    obtain ⟨ao, cq, rfl⟩ := owns_slice ho
    by_cases hlt : i < n
    · have hii : (i : Int) < (n : Int) := by omega
      have hiG : i < G.length := by rw [HGl.out]; exact hlt
      have ci := (hB.cell (p := ⟨go, i, none⟩) (hMo.lt go rfl).2).trans (owns_at hMo (k := i) (u := .slice (some ⟨G[i], 0, none⟩) n n) (by simp [hiG]))
      have HROW : Hid (∀ k, k < n → wa.cell? ⟨G[i], k, none⟩ = some (.int .i64 (farF (beside n ls) n i k))) := fun k hk =>
        (hB.cell (p := ⟨G[i], k, none⟩) ((hrows.out i hiG).lt G[i] rfl).2).trans (owns_at (hrows.out i hiG) (by simp [hk]))
      generalize G[i] = gi at *
      go_wp2_with fail
      go_loopw [13] (fun kk wx => ∃ k : Nat, k ≤ i ∧ kk = .int .i64 k ∧ Hid (∀ j, j < k → farF (beside n ls) n i j < 0) ∧ wx = wa) (fun kk _ => i - (intOf kk).toNat)
      case atStart => exact ⟨0, by omega, rfl, fun j hj => absurd hj (by omega), rfl⟩
      case round =>
        obtain ⟨k, hk, rfl, HK, rfl⟩ := hrel
        have hki : (k : Int) < (n : Int) := by omega
        have ck := HROW.out k (by omega)
        have hdiag := far_diag (beside n ls) n i
        have hkne : farF (beside n ls) n i k < 0 → k ≠ i := fun h e => by rw [e, hdiag] at h; omega
        have HFF : Hid (0 ≤ farF (beside n ls) n i k → FirstFar (beside n ls) n i k) := fun h => ⟨by omega, h, HK.out⟩
        have HNX : Hid (farF (beside n ls) n i k < 0 → ∀ j, j < k + 1 → farF (beside n ls) n i j < 0) := fun h j hj => by
          by_cases e : j = k
          · subst e; exact h
          · exact HK.out j (by omega)
        clear hdiag
        generalize farF (beside n ls) n i k = d at *
        by_cases hd : d < 0
        · have hki2 := hkne hd
          have HN2 := Lib.hid (HNX.out hd)
          go_wp2
          go_roundw
          case rel => exact ⟨k + 1, by omega, by go_num, HN2, by first | rfl | trivial⟩
          case measure => simp [intOf]; omega
        · have HF2 := Lib.hid (HFF.out (by omega))
          have hB2 := hB.size
          go_wp2_with (at_builtin; go_must (refine wpl_app _ _ _ (AppTo.refl ho) rfl rfl Tryd.underlying36 hi hz0 hz1 hz2 rfl (by decide) rfl rfl rfl (by simp [Value.oneCell']) (by decide) (by omega) (by omega) ?_); intro v8 w8 hA8 hne8 hst8)
          go_roundw
          case rel =>
            refine ⟨i + 1, Q ++ [(k : Int)], by omega, by go_num, by simp [hQ], by simpa [ints] using hA8.own, fun j hj => ?_, hA8.below ho hB (Nat.le_refl _) (by omega)⟩
            by_cases e : j = i
            · subst e
              exact ⟨k, by simp [at1, ← hQ], HF2.out⟩
            · obtain ⟨k', e1, e2⟩ := HQ.out j (by omega)
              exact ⟨k', by rw [← e1]; unfold at1; rw [List.getElem?_append_left (by omega)], e2⟩
          case measure => simp [intOf]; omega
    · obtain rfl : n = i := by omega
      have hrQ := rd_of_owns ho
      have hB0a := below_c hB1 hB
      clear ho hrows hMo
      go_wp2_with fail
      go_loopw [10, 14] (fun rg mm wr => ∃ (m : Nat) (r : Int), 3 ≤ m ∧ m ≤ 9 ∧ mm = .int .i64 m ∧ rg = .int .i64 r ∧ Hid (RingUp (beside n ls) n m r) ∧ Below wa.heap.size wa wr) (fun _ mm _ => n + 1 - (intOf mm).toNat)
      case atStart => exact ⟨3, 0, by omega, by omega, rfl, rfl, (show RingUp _ _ _ _ from .inl ⟨rfl, fun j h1 h2 => absurd h2 (by omega)⟩), Below.refl _ _⟩
      case round =>
        obtain ⟨m, r, hm3, hm9, rfl, rfl, HRU, hBr⟩ := hrel
        by_cases hmn : m ≤ n
        · have hmi : (m : Int) ≤ (n : Int) := by omega
          by_cases hr0 : r = 0
          · subst hr0
            have KRG := refRing_ok n v ls _ (hr.later (below_c hB0a hBr)) HG.out m (by omega) (by omega)
            have HT : Hid (hasRing (beside n ls) n m = true → RingUp (beside n ls) n (m + 1) (m : Int)) := fun h => by
              rcases HRU.out with ⟨_, h1⟩ | ⟨h0, h1, _⟩
              · exact .inr ⟨by omega, by simp, by simpa using h, fun j h2 h3 => h1 j h2 (by omega)⟩
              · omega
            have HF : Hid (hasRing (beside n ls) n m = false → RingUp (beside n ls) n (m + 1) 0) := fun h => by
              rcases HRU.out with ⟨_, h1⟩ | ⟨h0, h1, _⟩
              · refine .inl ⟨rfl, fun j h2 h3 => ?_⟩
                by_cases e : j = m
                · subst e; exact h
                · exact h1 j h2 (by omega)
              · omega
            generalize hasRing (beside n ls) n m = b at *
            go_wp2_with fail
            refine KRG.mono ?_
            rintro e w5 ⟨rfl, hB5⟩
            have hB5r := below_c hBr hB5
            cases b with
            | true =>
              have HT2 := Lib.hid (HT.out rfl)
              go_wp2
              go_roundw
              case rel => exact ⟨m + 1, (m : Int), by omega, by omega, by go_num, rfl, HT2, hB5r⟩
              case measure => simp [intOf]; omega
            | false =>
              have HF2 := Lib.hid (HF.out rfl)
              go_wp2
              go_roundw
              case rel => exact ⟨m + 1, 0, by omega, by omega, by go_num, rfl, HF2, hB5r⟩
              case measure => simp [intOf]; omega
          · have hrb : (r == 0) = false := by rw [beq_eq_false_iff_ne]; exact hr0
            have HE : Hid (r ≠ 0 ∨ n < m) := .inl hr0
            clear hr0
            have HR2 := Lib.hid (fun (k : Int) (hk : BestIs (beside n ls) n (adjS (beside n ls)) k) => ring_same hn8 HL.out HO.out HS.out HI.out hk HRU.out HE.out)
            have hBw := below_c hB0a hBr
            have hrQ2 := hrQ.later hBr
            go_wp2_with fail
            refine (parts_ok n v ls _ (hr.later hBw) HG.out).mono ?_
            rintro e w2 ⟨p, ap, cp, rfl, hp, hrp, hB2⟩
            obtain rfl := parts_list HO.out hp hQ HQ.out
            have hBw2 := below_c hBw hB2
            have hrQ3 := hrQ2.later hB2
            go_wp2_with fail
            refine (errorNone _ (hh.later hBw2)).mono ?_
            rintro e w3 ⟨rfl, hB3⟩
            have hBw3 := below_c hBw2 hB3
            have KI := ints_same' (.slice ap n cp) (.slice ao n cq) p w3 (by rw [hQ]; exact hrp.later hB3) (by rw [hQ]; exact hrQ3.later hB3)
            clear hp hrp hrQ2 hrQ3
            go_wp2_with fail
            refine KI.mono ?_
            rintro e w4 ⟨rfl, hB4⟩
            have hBw4 := below_c hBw3 hB4
            go_wp2_with fail
            refine (ring_ok n v ls _ (hr.later hBw4) HG.out).mono ?_
            rintro e w5 ⟨k, rfl, hk, hB5⟩
            have hkr := HR2.out k hk
            subst hkr
            have hBw5 := below_c hBw4 hB5
            go_wp2_with fail
            refine (errorNone _ (hh.later hBw5)).mono ?_
            rintro e w6 ⟨rfl, hB6⟩
            have hBw6 := below_c hBw5 hB6
            have wn1 : IntKind.i64.wrap ((n : Int) - 1) = (n : Int) - 1 := IntWalk.i64_in _ (by omega)
            clear hk HR2 HRU
            go_wp2_with fail
            refine (in_any _ _ _ _).mono ?_
            rintro e w' ⟨rfl, rfl⟩
            by_cases hin : 0 ≤ f ∧ f ≤ (n : Int) - 1
            · rw [decide_eq_true hin]
              obtain ⟨F, rfl⟩ := Int.eq_ofNat_of_zero_le hin.1
              have hF : F < n := by omega
              have hFi : (F : Int) < (n : Int) := by omega
              clear hin
              go_wp2_with fail
              refine (refFar_ok n v ls _ (hr.later hBw6) HG.out).mono ?_
              rintro e w7 ⟨vo2, G2, rfl, hG2, hM2⟩
              have hGp2 : 0 < G2.length := by omega
              obtain ⟨go2, co2, rfl⟩ := owns_some' hM2.out hGp2
              have hFG : F < G2.length := by omega
              have cF := owns_at hM2.out (k := F) (u := .slice (some ⟨G2[F], 0, none⟩) n n) (by simp [hFG])
              have rF := rd_of_owns (hM2.rows F hFG)
              have hBw7 := below_c hBw6 hM2.below
              rw [hG2]
              generalize G2[F] = g2 at *
              clear hM2 hG2 hFG hGp2
              go_wp2_with fail
              refine (from_ok n F v ls _ (hr.later hBw7) HG.out hF).mono ?_
              rintro e w8 ⟨D, aD, cD, rfl, hD, rD, hB8⟩
              have hBw8 := below_c hBw7 hB8
              have rF8 := rF.later hB8
              have eD : (List.range n).map (farF (beside n ls) n F) = D := far_is HO.out hD
              rw [eD] at rF8
              have hDl := hD.len
              clear hD eD rF
              go_wp2_with fail
              refine (errorNone _ (hh.later hBw8)).mono ?_
              rintro e w9 ⟨rfl, hB9⟩
              have hBw9 := below_c hBw8 hB9
              have KI := ints_same' (.slice aD n cD) (.slice (some ⟨g2, 0, none⟩) n n) D w9 (by rw [hDl]; exact rD.later hB9) (by rw [hDl]; exact rF8.later hB9)
              clear rD rF8
              go_wp2_with fail
              refine KI.mono ?_
              rintro e w10 ⟨rfl, hB10⟩
              have hBwt := below_c hBw9 hB10
              go_wp2
              go_ret
              exact ⟨rfl, hBwt⟩
            · rw [decide_eq_false hin]
              have HF := Lib.hid (from_out n v ls f)
              have KF := fun w hw => HF.out w hw HG.out hin
              clear hin
              go_wp2_with fail
              refine (KF _ (hr.later hBw6)).mono ?_
              rintro e w7 ⟨rfl, hB7⟩
              have hBw7 := below_c hBw6 hB7
              go_wp2_with fail
              refine (errorSame 1 _ (by omega) (hh.later hBw7)).mono ?_
              rintro e w8 ⟨rfl, hB8⟩
              have hBw8 := below_c hBw7 hB8
              go_wp2_with fail
              refine (ints_nil _).mono ?_
              rintro e w9 ⟨rfl, hB9⟩
              have hBw9 := below_c hBw8 hB9
              go_wp2
              go_ret
              exact ⟨rfl, hBw9⟩
        · have HE : Hid (r ≠ 0 ∨ n < m) := .inr (by omega)
          have hmi : decide ((m : Int) ≤ (n : Int)) = false := by simp; omega
          have HR2 := Lib.hid (fun (k : Int) (hk : BestIs (beside n ls) n (adjS (beside n ls)) k) => ring_same hn8 HL.out HO.out HS.out HI.out hk HRU.out HE.out)
          have hBw := below_c hB0a hBr
          have hrQ2 := hrQ.later hBr
          go_wp2_with fail
          refine (parts_ok n v ls _ (hr.later hBw) HG.out).mono ?_
          rintro e w2 ⟨p, ap, cp, rfl, hp, hrp, hB2⟩
          obtain rfl := parts_list HO.out hp hQ HQ.out
          have hBw2 := below_c hBw hB2
          have hrQ3 := hrQ2.later hB2
          go_wp2_with fail
          refine (errorNone _ (hh.later hBw2)).mono ?_
          rintro e w3 ⟨rfl, hB3⟩
          have hBw3 := below_c hBw2 hB3
          have KI := ints_same' (.slice ap n cp) (.slice ao n cq) p w3 (by rw [hQ]; exact hrp.later hB3) (by rw [hQ]; exact hrQ3.later hB3)
          clear hp hrp hrQ2 hrQ3
          go_wp2_with fail
          refine KI.mono ?_
          rintro e w4 ⟨rfl, hB4⟩
          have hBw4 := below_c hBw3 hB4
          go_wp2_with fail
          refine (ring_ok n v ls _ (hr.later hBw4) HG.out).mono ?_
          rintro e w5 ⟨k, rfl, hk, hB5⟩
          have hkr := HR2.out k hk
          subst hkr
          have hBw5 := below_c hBw4 hB5
          go_wp2_with fail
          refine (errorNone _ (hh.later hBw5)).mono ?_
          rintro e w6 ⟨rfl, hB6⟩
          have hBw6 := below_c hBw5 hB6
          have wn1 : IntKind.i64.wrap ((n : Int) - 1) = (n : Int) - 1 := IntWalk.i64_in _ (by omega)
          clear hk HR2 HRU
          go_wp2_with fail
          refine (in_any _ _ _ _).mono ?_
          rintro e w' ⟨rfl, rfl⟩
          by_cases hin : 0 ≤ f ∧ f ≤ (n : Int) - 1
          · rw [decide_eq_true hin]
            obtain ⟨F, rfl⟩ := Int.eq_ofNat_of_zero_le hin.1
            have hF : F < n := by omega
            have hFi : (F : Int) < (n : Int) := by omega
            clear hin
            go_wp2_with fail
            refine (refFar_ok n v ls _ (hr.later hBw6) HG.out).mono ?_
            rintro e w7 ⟨vo2, G2, rfl, hG2, hM2⟩
            have hGp2 : 0 < G2.length := by omega
            obtain ⟨go2, co2, rfl⟩ := owns_some' hM2.out hGp2
            have hFG : F < G2.length := by omega
            have cF := owns_at hM2.out (k := F) (u := .slice (some ⟨G2[F], 0, none⟩) n n) (by simp [hFG])
            have rF := rd_of_owns (hM2.rows F hFG)
            have hBw7 := below_c hBw6 hM2.below
            rw [hG2]
            generalize G2[F] = g2 at *
            clear hM2 hG2 hFG hGp2
            go_wp2_with fail
            refine (from_ok n F v ls _ (hr.later hBw7) HG.out hF).mono ?_
            rintro e w8 ⟨D, aD, cD, rfl, hD, rD, hB8⟩
            have hBw8 := below_c hBw7 hB8
            have rF8 := rF.later hB8
            have eD : (List.range n).map (farF (beside n ls) n F) = D := far_is HO.out hD
            rw [eD] at rF8
            have hDl := hD.len
            clear hD eD rF
            go_wp2_with fail
            refine (errorNone _ (hh.later hBw8)).mono ?_
            rintro e w9 ⟨rfl, hB9⟩
            have hBw9 := below_c hBw8 hB9
            have KI := ints_same' (.slice aD n cD) (.slice (some ⟨g2, 0, none⟩) n n) D w9 (by rw [hDl]; exact rD.later hB9) (by rw [hDl]; exact rF8.later hB9)
            clear rD rF8
            go_wp2_with fail
            refine KI.mono ?_
            rintro e w10 ⟨rfl, hB10⟩
            have hBwt := below_c hBw9 hB10
            go_wp2
            go_ret
            exact ⟨rfl, hBwt⟩
          · rw [decide_eq_false hin]
            have HF := Lib.hid (from_out n v ls f)
            have KF := fun w hw => HF.out w hw HG.out hin
            clear hin
            go_wp2_with fail
            refine (KF _ (hr.later hBw6)).mono ?_
            rintro e w7 ⟨rfl, hB7⟩
            have hBw7 := below_c hBw6 hB7
            go_wp2_with fail
            refine (errorSame 1 _ (by omega) (hh.later hBw7)).mono ?_
            rintro e w8 ⟨rfl, hB8⟩
            have hBw8 := below_c hBw7 hB8
            go_wp2_with fail
            refine (ints_nil _).mono ?_
            rintro e w9 ⟨rfl, hB9⟩
            have hBw9 := below_c hBw8 hB9
            go_wp2
            go_ret
            exact ⟨rfl, hBw9⟩

theorem walkSays_any {w : World} (hh : Handle w) (n : Int) {v : Value} {ls : List Ln} (hr : LinesRd w v ls) (f : Int) :
    Calls Tryd.prog 7 #[.int .i64 n, v, .int .i64 f] w fun e w' => e = .returned (.bool true) ∧ Below w.heap.size w w' := by
  by_cases hc : chk n ls = 0
  · obtain ⟨m, rfl, hg⟩ := good_of hc
    exact walkSays_good m f hh hr hg
  · exact walkSays_bad n f hh hr hc

end Go.Proofs.YtlfinlfmlnclhaaDoor
