/- CutsSays returns true for every input: the walk. Conditions: the listed variable holds its handle. -/
import Derived.Test.YtgjkefniknbdeaaDoorCutsSaysQ
import Derived.Test.YtgjkefniknbdeaaDoorBetw
import Derived.Test.YtgjkefniknbdeaaDoorBut
import Derived.Test.YtgjkefniknbdeaaDoorLitA
import Derived.Test.YtgjkefniknbdeaaDoorRefLines
import Derived.Test.YtgjkefniknbdeaaDoorErr
namespace Go.Proofs.YtgjkefniknbdeaaDoor
open Go.RowKit Gr

theorem elem_lines : Tryd.prog.elem 24 = 50 := by kernel_rfl
theorem und_lines : Tryd.prog.underlying 24 = some (.slice (Tryd.prog.elem 24)) := by kernel_rfl
theorem sized_lines (w : World) : (sizeOf (Tryd.prog.elem 24)).run Tryd.prog w = .ok 2 w := by rw [elem_lines]; exact sized_of info_line w
/-- s[lo:hi] of a slice that is read, elements of size cells -/
theorem slice_mid {P : Program} {B : Nat} {w : World} {a : Option Addr} {n c size : Nat} {cs : List Value} (t : TypeId) (ht : P.underlying t = some (.slice (P.elem t)))
    (hsz : ∀ w', (sizeOf (P.elem t)).run P w' = .ok size w') (hr : RdB B w (.slice a n c) n cs) (lo hi : Nat) (h1 : lo < hi) (h2 : hi ≤ n) :
    ∃ a', (∀ w', (Instr.slice t (.slice a n c) (some (.int .i64 (lo : Int))) (some (.int .i64 (hi : Int))) none).run P w' = .ok (.slice a' (hi - lo) (c - lo)) w') ∧ RdB B w (.slice a' (hi - lo) (c - lo)) (hi - lo) ((cs.drop (lo * size)).take ((hi - lo) * size)) := by
  obtain ⟨a0, c0, hv, hnc, hcm, h0, hcell⟩ := hr
  cases hv
  refine ⟨if c = lo then a else a.map (·.add (lo * size)), fun w' => ?_, ?_⟩
  · rw [run_slice_lh w' t a n c ht .i64 .i64 lo hi (by omega) (by omega) (by omega), hsz]
    simp [Result.andThen, sliced]
  · refine ⟨_, _, rfl, by omega, by omega, fun hn => by omega, fun hn => ?_⟩
    obtain ⟨b, off, rfl, hb, hc⟩ := hcell (by omega)
    rw [if_neg (by omega)]
    refine ⟨b, off + lo * size, ?_, hb, fun j u hu => ?_⟩
    · simp only [Option.map_some]
      congr 1
      unfold Addr.add; split <;> simp_all
    · rw [List.getElem?_take] at hu
      split at hu
      · rw [List.getElem?_drop] at hu
        rw [Nat.add_assoc]; exact hc _ _ hu
      · cases hu
theorem cells_one {ls : List Ln} : ∀ {k : Nat} (h : k < ls.length), ((cellsOf ls).drop (k * 2)).take ((k + 1 - k) * 2) = cellsOf [ls[k]] := by
  induction ls with
  | nil => intro k h; simp at h
  | cons l ls ih =>
    intro k h
    have e : cellsOf (l :: ls) = .int .i64 l.1 :: .int .i64 l.2 :: cellsOf ls := rfl
    cases k with
    | zero => rw [e]; rfl
    | succ k =>
      have := ih (k := k) (by simpa using h)
      rw [e, show (k + 1) * 2 = k * 2 + 1 + 1 from by omega, List.drop_succ_cons, List.drop_succ_cons, List.getElem_cons_succ, ← this]
      congr 1
      omega
theorem line_mid {w : World} {a : Option Addr} {c : Nat} {ls : List Ln} (hr : LinesRd w (.slice a ls.length c) ls) {k : Nat} (hk : k < ls.length) :
    ∃ a', (∀ w', (Instr.slice 24 (.slice a ls.length c) (some (.int .i64 (k : Int))) (some (.int .i64 ((k : Int) + 1))) none).run Tryd.prog w' = .ok (.slice a' 1 (c - k)) w') ∧ LinesRd w (.slice a' 1 (c - k)) [ls[k]] := by
  obtain ⟨a', h1, h2⟩ := slice_mid (P := Tryd.prog) (B := w.heap.size) 24 und_lines sized_lines hr k (k + 1) (by omega) (by omega)
  rw [cells_one hk] at h2
  have e : k + 1 - k = 1 := by omega
  rw [e] at h1 h2
  have ek : ((k + 1 : Nat) : Int) = (k : Int) + 1 := by omega
  rw [ek] at h1
  exact ⟨a', h1, h2⟩

theorem ints_same' (v1 v2 : Value) (n : Nat) (xs : List Int) (w : World) (hx : xs.length = n) (hr1 : Rd w v1 n (ints xs)) (hr2 : Rd w v2 n (ints xs)) :
    Calls Tryd.prog 15 #[v1, v2] w fun e w' => e = .returned (.bool true) ∧ Below w.heap.size w w' := by
  subst hx
  have := ints_b v1 v2 xs xs w hr1 hr2
  rwa [decide_eq_true rfl] at this
theorem lines_same (v1 v2 : Value) (n : Nat) (L : List Ln) (w : World) (hx : L.length = n) (hr1 : Rd w v1 n (cellsOf L)) (hr2 : Rd w v2 n (cellsOf L)) : Calls Tryd.prog 12 #[v1, v2] w fun e w' => e = .returned (.bool true) ∧ Below w.heap.size w w' := by
  subst hx
  have := lines_b v1 v2 L L w hr1 hr2
  rwa [decide_eq_true rfl] at this
theorem errorSame (q : Nat) (w : World) (hk : q ≠ 0) (hh : Handle w) : Calls Tryd.prog 11 #[errV q, .int .i64 (q : Int)] w fun r w' => r = .returned (.bool true) ∧ Below w.heap.size w w' := by
  have := errorV q q w hk hh
  rwa [decide_eq_true rfl] at this
theorem errorNone (w : World) (hh : Handle w) : Calls Tryd.prog 11 #[.nilIface, .int .i64 0] w fun r w' => r = .returned (.bool true) ∧ Below w.heap.size w w' := by
  have := errorNil 0 w hh
  rwa [decide_eq_true rfl] at this

-- wrong lines: behind the loop

set_option maxRecDepth 100000 in
set_option maxHeartbeats 4000000 in
theorem cutsSays_bad {w : World} (hh : Handle w) (n : Int) {v : Value} {ls : List Ln} (hr : LinesRd w v ls) (hc : chk n ls ≠ 0) :
    Calls Tryd.prog 6 #[.int .i64 n, v] w fun e w' => e = .returned (.bool true) ∧ Below w.heap.size w w' := by
  have KP := fun w hr => points_bad n v ls w hr hc
  have KB := fun w hr => bridges_bad n v ls w hr hc
  have KR := refLines_any n v ls w hr
  have HC := Lib.hid hc
  have hb : (((chk n ls : Nat) : Int) == 0) = false := by rw [beq_eq_false_iff_ne]; omega
  generalize chk n ls = q at *
  clear hc
  go_enter Tryd.func6, Tryd.ntmps6
  go_wp2_with fail
  refine KR.mono ?_
  rintro e w0 ⟨rfl, hB0⟩
  clear KR
  go_wp2_with fail
  refine wp_loop_rounds 1 ?_
  rw [rounds_succ]
  by_cases hn : (0 : Int) < n
  · go_wp2_with fail
    refine (KP _ (hr.later hB0)).mono ?_
    rintro e w1 ⟨rfl, hB1⟩
    have hB01 := below_c hB0 hB1
    go_wp2_with fail
    refine (errorSame q _ HC.out (hh.later hB01)).mono ?_
    rintro e w2 ⟨rfl, hB2⟩
    have hB02 := below_c hB01 hB2
    go_wp2_with fail
    refine (ints_same' _ _ 0 [] _ rfl (Rd.nil _) (Rd.nil _)).mono ?_
    rintro e w3 ⟨rfl, hB3⟩
    have hB03 := below_c hB02 hB3
    go_wp2_with fail
    refine (KB _ (hr.later hB03)).mono ?_
    rintro e w4 ⟨rfl, hB4⟩
    have hB04 := below_c hB03 hB4
    go_wp2_with fail
    refine (errorSame q _ HC.out (hh.later hB04)).mono ?_
    rintro e w5 ⟨rfl, hB5⟩
    have hB05 := below_c hB04 hB5
    go_wp2_with fail
    refine (lines_same _ _ 0 [] _ rfl (Rd.nil _) (Rd.nil _)).mono ?_
    rintro e w6 ⟨rfl, hB6⟩
    have hB06 := below_c hB05 hB6
    go_wp2
    go_ret
    exact ⟨rfl, hB06⟩
  · go_wp2_with fail
    refine (KP _ (hr.later hB0)).mono ?_
    rintro e w1 ⟨rfl, hB1⟩
    have hB01 := below_c hB0 hB1
    go_wp2_with fail
    refine (errorSame q _ HC.out (hh.later hB01)).mono ?_
    rintro e w2 ⟨rfl, hB2⟩
    have hB02 := below_c hB01 hB2
    go_wp2_with fail
    refine (ints_same' _ _ 0 [] _ rfl (Rd.nil _) (Rd.nil _)).mono ?_
    rintro e w3 ⟨rfl, hB3⟩
    have hB03 := below_c hB02 hB3
    go_wp2_with fail
    refine (KB _ (hr.later hB03)).mono ?_
    rintro e w4 ⟨rfl, hB4⟩
    have hB04 := below_c hB03 hB4
    go_wp2_with fail
    refine (errorSame q _ HC.out (hh.later hB04)).mono ?_
    rintro e w5 ⟨rfl, hB5⟩
    have hB05 := below_c hB04 hB5
    go_wp2_with fail
    refine (lines_same _ _ 0 [] _ rfl (Rd.nil _) (Rd.nil _)).mono ?_
    rintro e w6 ⟨rfl, hB6⟩
    have hB06 := below_c hB05 hB6
    go_wp2
    go_ret
    exact ⟨rfl, hB06⟩

/-- the cells of a table -/
theorem FarM.at_ {n B : Nat} {w W : World} {g c : Nat} {G : List Nat} {E : Nat → Nat → Int} (h : FarM n B w W (.slice (some ⟨g, 0, none⟩) n c) G E) (hG : G.length = n) {a b : Nat} (ha : a < n) (hb : b < n) :
    ∃ ga, W.cell? ⟨g, a, none⟩ = some (.slice (some ⟨ga, 0, none⟩) n n) ∧ W.cell? ⟨ga, b, none⟩ = some (.int .i64 (E a b)) := by
  have haG : a < G.length := by omega
  refine ⟨G[a], ?_, ?_⟩
  · have := h.out
    rw [hG] at this
    exact owns_at this (by simp [haG])
  · exact owns_at (h.rows a haG) (by simp [hb])

theorem betw_one (l : Ln) (a b : Int) : betw [l] a b = if joins a b l = true then 1 else 0 := by
  have e : betw1 a b l = joins a b l := rfl
  unfold betw
  rw [List.filter_cons, e]
  cases joins a b l <;> rfl

-- the pairs of points from i on, and the lines: from the world wq on, where the points that hold are pv

open Classical in
set_option maxRecDepth 100000 in
set_option maxHeartbeats 16000000 in
theorem cutsSays_ok {w : World} (hh : Handle w) (n : Nat) {v : Value} {ls : List Ln} (hr : LinesRd w v ls) (hg : GoodG n ls) :
    Calls Tryd.prog 6 #[.int .i64 (n : Int), v] w fun e w' => e = .returned (.bool true) ∧ Below w.heap.size w w' := by
  obtain ⟨i0, hi, hz0, hz1, hz2⟩ := info_parts info_int
  obtain ⟨l0, hl0, hy0, hy1, hy2⟩ := info_parts info_line
  have KP := fun w hr => points_ok n v ls w hr hg
  have KBR := fun w hr => bridges_ok n v ls w hr hg
  have KR := refLines_any n v ls w hr
  rw [chk_good hg] at KR
  have KF := fun w hr => refFar_ok n v ls w hr hg
  have KO := fun (i : Nat) w hr => refFarO_ok n v ls (i : Int) (beside n (awayL ls i)) w hr hg.1 hg.2.1 (adj_away hg i)
  have HSC : Hid (∀ i, seenP (partB n ls i) n n 0 = true ↔ IsCut (beside n ls) i) := fun i => seen_cut hg i
  have HAB := Lib.hid (all_bridges hg)
  have hn1 := hg.1
  have hn8 := hg.2.1
  have hl24 := hg.2.2.1
  have HG := Lib.hid hg
  clear hg
  obtain ⟨av, cv, rfl, _⟩ := id hr
  go_enter Tryd.func6, Tryd.ntmps6
  go_wp2_with fail
  refine KR.mono ?_
  rintro e w0 ⟨rfl, hB0⟩
  clear KR
  go_wp2_with fail
  go_loopw [6, 7, 8] (fun pp qq ii wr => ∃ (i m1 m2 : Nat), i ≤ n ∧ ii = .int .i64 i ∧ wr.ownsRow w0.heap.size 3 1 pp m1 (nats (cutsUp (beside n ls) i)) ∧ wr.ownsRow w0.heap.size 50 2 qq m2 (cellsOf (allUp n ls i)) ∧ (pp.ownBlock = none ∨ pp.ownBlock ≠ qq.ownBlock) ∧ Below w0.heap.size w0 wr) (fun _ _ ii _ => n - (intOf ii).toNat)
  case atStart => exact ⟨0, 0, 0, by omega, rfl, World.ownsRow_nil _ _ _ _, World.ownsRow_nil _ _ _ _, .inl rfl, Below.refl _ _⟩
  case round =>
    obtain ⟨i, m1, m2, hi', rfl, hP, hQ, hSep, hBi⟩ := hrel
    obtain ⟨ap, cp, rfl⟩ := owns_slice hP
    obtain ⟨aq, cq, rfl⟩ := owns_slice hQ
    by_cases hlt : i < n
    · have hii : (i : Int) < (n : Int) := by omega
      have hB0i := below_c hB0 hBi
      go_wp2_with fail
      refine (KF _ (hr.later hB0i)).mono ?_
      rintro e w1 ⟨vo1, G1, rfl, hG1, hM1⟩
      obtain ⟨g1, c1, e⟩ := owns_some' hM1.out (by rw [hG1]; omega)
      subst e
      rw [hG1] at hM1
      rw [hG1]
      have hB01 := below_c hB0i hM1.below
      go_wp2_with fail
      refine (KO i _ (hr.later hB01)).mono ?_
      rintro e w2 ⟨vo2, G2, rfl, hG2, hM2⟩
      obtain ⟨g2, c2, e⟩ := owns_some' hM2.out (by rw [hG2]; omega)
      subst e
      rw [hG2] at hM2
      rw [hG2]
      have hM12 := hM1.later hM2.below hM1.below.size
      have hB12 := below_c hM1.below hM2.below
      have hBq := below_c hBi hB12
      have hP2 := owns_later hP hB12
      have hQ2 := owns_later hQ hB12
      have hcap1 := (rd_of_owns hM12.out).bounds.2
      have hcap2 := (rd_of_owns hM2.out).bounds.2
      have HA1 : Hid (∀ a b, a < n → b < n → ∃ ga, w2.cell? ⟨g1, a, none⟩ = some (.slice (some ⟨ga, 0, none⟩) n n) ∧ w2.cell? ⟨ga, b, none⟩ = some (.int .i64 (farF (beside n ls) n a b))) := fun a b ha hb => hM12.at_ hG1 ha hb
      have HA2 : Hid (∀ a b, a < n → b < n → ∃ ga, w2.cell? ⟨g2, a, none⟩ = some (.slice (some ⟨ga, 0, none⟩) n n) ∧ w2.cell? ⟨ga, b, none⟩ = some (.int .i64 (farF (beside n (awayL ls i)) n a b))) := fun a b ha hb => hM2.at_ hG2 ha hb
      have HPB : Hid (∀ a b, partB n ls i a b = (decide (a ≠ i) && decide (b ≠ i) && decide (0 ≤ farF (beside n ls) n a b) && decide (farF (beside n (awayL ls i)) n a b < 0))) := fun a b => rfl
      have HSX := Lib.hid (HSC.out i)
      clear hP hQ hBi hB0i hM1 hM2 hM12 hB01 hB12
      generalize partB n ls i = PB at *
      go_wp2_with fail
      go_loopw [11, 12] (fun ss aa wx => ∃ a : Nat, a ≤ n ∧ aa = .int .i64 a ∧ ss = .bool (seenP PB n a 0) ∧ wx = w2) (fun _ aa _ => n - (intOf aa).toNat)
      case atStart => exact ⟨0, by omega, rfl, rfl, rfl⟩
      case round =>
        obtain ⟨a, ha, rfl, rfl, rfl⟩ := hrel
        obtain ⟨wz, hwz⟩ : ∃ wz, wz = wr := ⟨wr, rfl⟩
        subst hwz
        by_cases hla : a < n
        · have hai : (a : Int) < (n : Int) := by omega
          go_wp2_with fail
          go_loopw [11, 13] (fun ss bb wx => ∃ b : Nat, b ≤ n ∧ bb = .int .i64 b ∧ ss = .bool (seenP PB n a b) ∧ wx = wz) (fun _ bb _ => n - (intOf bb).toNat)
          case atStart => exact ⟨0, by omega, rfl, rfl, rfl⟩
          case round =>
            obtain ⟨b, hb, rfl, rfl, rfl⟩ := hrel
            by_cases hlb : b < n
            · have hbi : (b : Int) < (n : Int) := by omega
              obtain ⟨ga, y1, y2⟩ := HA1.out a b hla hlb
              obtain ⟨gb, z1, z2⟩ := HA2.out a b hla hlb
              have HPab := Lib.hid (HPB.out a b)
              have HSN := Lib.hid (seenP_next PB n a b)
              generalize farF (beside n ls) n a b = x at *
              generalize farF (beside n (awayL ls i)) n a b = y at *
              cases hs : seenP PB n a b with
              | true =>
                rw [hs] at HSN
                have HS2 : Hid (seenP PB n a (b + 1) = true) := by show _ = _; rw [HSN.out]; rfl
                clear HSN HPab hs
                go_wp2
                go_roundw
                case rel => exact ⟨b + 1, by omega, by go_num, by rw [HS2.out], by first | rfl | trivial⟩
                case measure => simp [intOf]; omega
              | false =>
                rw [hs] at HSN
                clear hs
                by_cases hA : a = i
                · have hAb : ((a : Int) != (i : Int)) = false := by simp [hA]
                  have HS2 : Hid (seenP PB n a (b + 1) = false) := by show _ = _; rw [HSN.out, HPab.out]; simp [hA]
                  clear HSN HPab hA
                  go_wp2
                  go_roundw
                  case rel => exact ⟨b + 1, by omega, by go_num, by rw [HS2.out], by first | rfl | trivial⟩
                  case measure => simp [intOf]; omega
                · have hAb : ((a : Int) != (i : Int)) = true := by simp; omega
                  by_cases hBb : b = i
                  · have hBbb : ((b : Int) != (i : Int)) = false := by simp [hBb]
                    have HS2 : Hid (seenP PB n a (b + 1) = false) := by show _ = _; rw [HSN.out, HPab.out]; simp [hBb]
                    clear HSN HPab hA hBb
                    go_wp2
                    go_roundw
                    case rel => exact ⟨b + 1, by omega, by go_num, by rw [HS2.out], by first | rfl | trivial⟩
                    case measure => simp [intOf]; omega
                  · have hBbb : ((b : Int) != (i : Int)) = true := by simp; omega
                    by_cases hx : 0 ≤ x
                    · have hxd : decide (x ≥ 0) = true := decide_eq_true hx
                      by_cases hy : y < 0
                      · have hyd : decide (y < 0) = true := decide_eq_true hy
                        have HS2 : Hid (seenP PB n a (b + 1) = true) := by show _ = _; rw [HSN.out, HPab.out]; simp [hA, hBb, hx, hy]
                        clear HSN HPab hA hBb
                        go_wp2
                        go_roundw
                        case rel => exact ⟨b + 1, by omega, by go_num, by rw [HS2.out], by first | rfl | trivial⟩
                        case measure => simp [intOf]; omega
                      · have hyd : decide (y < 0) = false := decide_eq_false hy
                        have HS2 : Hid (seenP PB n a (b + 1) = false) := by show _ = _; rw [HSN.out, HPab.out, hyd]; simp
                        clear HSN HPab hA hBb
                        go_wp2
                        go_roundw
                        case rel => exact ⟨b + 1, by omega, by go_num, by rw [HS2.out], by first | rfl | trivial⟩
                        case measure => simp [intOf]; omega
                    · have hxd : decide (x ≥ 0) = false := decide_eq_false hx
                      have hxd2 : decide (0 ≤ x) = false := decide_eq_false hx
                      have HS2 : Hid (seenP PB n a (b + 1) = false) := by show _ = _; rw [HSN.out, HPab.out, hxd2]; simp
                      clear HSN HPab hA hBb hxd2
                      go_wp2
                      go_roundw
                      case rel => exact ⟨b + 1, by omega, by go_num, by rw [HS2.out], by first | rfl | trivial⟩
                      case measure => simp [intOf]; omega
            · obtain rfl : b = n := by omega
              have HSR := Lib.hid (seenP_row PB b a)
              go_wp2
              go_roundw
              case rel => exact ⟨a + 1, by omega, by go_num, by rw [HSR.out], by first | rfl | trivial⟩
              case measure => simp [intOf]; omega
        · obtain rfl : a = n := by omega
          have HCU := Lib.hid (cutsUp_succ (beside a ls) i)
          have hcl := cutsUp_length (beside a ls) i
          have wi1 : IntKind.i64.wrap ((i : Int) + 1) = (i : Int) + 1 := IntWalk.i64_in _ (by omega)
          have hs2 : w0.heap.size ≤ wz.heap.size := hBq.size
          have hm1 : m1 ≤ 8 := by
            have h1 := hP2.1
            simp [nats] at h1
            omega
          obtain ⟨n, hna⟩ : ∃ n, n = a := ⟨a, rfl⟩
          subst hna
          clear HA1 HA2 HPB
          cases hs : seenP PB n n 0 with
          | true =>
            have hcut := HSX.out.1 hs
            rw [if_pos hcut] at HCU
            clear hcut HSX hs
            go_wp2_with (at_builtin; go_must (refine wpl_app _ _ _ (AppTo.refl hP2) rfl rfl Tryd.underlying22 hi hz0 hz1 hz2 rfl (by decide) rfl rfl rfl (by simp [Value.oneCell']) (by decide) (by omega) hs2 ?_); intro v9 w9 hA9 hne9 hst9)
            obtain ⟨hQ, hSep⟩ := owns_beside hA9 hQ2 hSep
            have hP : w9.ownsRow w0.heap.size 3 1 v9 (m1 + 1) (nats (cutsUp (beside n ls) (i + 1))) := by
              rw [HCU.out]
              simpa [nats] using hA9.own
            have hBq := hA9.below hP2 hBq (Nat.le_refl _) hs2
            clear hA9 hP2 hQ2 HCU hst9
            go_wp2_with fail
            go_loopw [7, 14] (fun qq jj wx => ∃ (j k1 k2 : Nat), i + 1 ≤ j ∧ j ≤ n ∧ jj = .int .i64 j ∧ wx.ownsRow w0.heap.size 3 1 v9 k1 (nats (cutsUp (beside n ls) (i + 1))) ∧ wx.ownsRow w0.heap.size 50 2 qq k2 (cellsOf (allUp n ls i ++ rowUp n ls i j)) ∧ (v9.ownBlock = none ∨ v9.ownBlock ≠ qq.ownBlock) ∧ Below w0.heap.size w0 wx) (fun _ jj _ => n - (intOf jj).toNat)
            case atStart => exact ⟨i + 1, _, _, by omega, by omega, by go_num, hP, by rw [rowUp_none, List.append_nil]; exact hQ, hSep, hBq⟩
            case round =>
              clear hP hQ hSep hBq
              obtain ⟨j, k1, k2, hij, hj, rfl, hP, hQ, hSep, hBj⟩ := hrel
              by_cases hlj : j < n
              · have hji : (j : Int) < (n : Int) := by omega
                go_wp2_with fail
                go_loopw [7, 15] (fun qq kk wx => ∃ (k k1 k2 : Nat), k ≤ ls.length ∧ kk = .int .i64 k ∧ wx.ownsRow w0.heap.size 3 1 v9 k1 (nats (cutsUp (beside n ls) (i + 1))) ∧ wx.ownsRow w0.heap.size 50 2 qq k2 (cellsOf (allUp n ls i ++ rowUp n ls i j ++ hitUp n ls i j k)) ∧ (v9.ownBlock = none ∨ v9.ownBlock ≠ qq.ownBlock) ∧ Below w0.heap.size w0 wx) (fun _ kk _ => ls.length - (intOf kk).toNat)
                case atStart => exact ⟨0, _, _, by omega, rfl, hP, by simpa [hitUp] using hQ, hSep, hBj⟩
                case round =>
                  clear hP hQ hSep hBj
                  obtain ⟨k, k1, k2, hk, rfl, hP, hQ, hSep, hBk⟩ := hrel
                  obtain ⟨aq, cq, rfl⟩ := owns_slice hQ
                  have hB0k := below_c hB0 hBk
                  by_cases hlk : k < ls.length
                  · have hki : (k : Int) < (ls.length : Int) := by omega
                    have hrk := hr.later hB0k
                    obtain ⟨a', hrun, hone⟩ := line_mid hrk hlk
                    have KB := between_ok _ [ls[k]] (i : Int) (j : Int) wr hone (by simp)
                    have hk2 : k2 ≤ 100 := by
                      have h1 := hQ.1
                      rw [cellsOf_length, List.length_append, List.length_append] at h1
                      have := allUp_le n ls i
                      have := rowUp_le n ls i j
                      have := hitUp_le n ls i j k
                      have : i * n ≤ 8 * 8 := Nat.mul_le_mul (by omega) hn8
                      omega
                    have HHS := Lib.hid (hitUp_succ n ls i j k)
                    have hBt := betw_one ls[k] (i : Int) (j : Int)
                    have HHB : Hid (hitB n ls i j k = (joins (i : Int) (j : Int) ls[k] && decide (farF (beside n (ls.eraseIdx k)) n i j < 0))) := by
                      show _ = _
                      unfold hitB
                      rw [List.getElem?_eq_getElem hlk, Option.getD_some]
                    have wk1 : IntKind.i64.wrap ((k : Int) + 1) = (k : Int) + 1 := IntWalk.i64_in _ (by omega)
                    cases hjn : joins (i : Int) (j : Int) ls[k] with
                    | false =>
                      rw [hjn] at hBt HHB
                      rw [hBt] at KB
                      have HH2 : Hid (hitUp n ls i j (k + 1) = hitUp n ls i j k) := by
                        show _ = _
                        rw [HHS.out, HHB.out]; simp
                      clear HHS HHB hBt hjn hone
                      go_wp2_with fail
                      refine KB.mono ?_
                      rintro e w' ⟨rfl, rfl⟩
                      go_wp2
                      go_roundw
                      case rel => exact ⟨k + 1, _, _, by omega, by go_num, hP, by rw [HH2.out]; exact hQ, hSep, hBk⟩
                      case measure => simp [intOf]; omega
                    | true =>
                      rw [hjn] at hBt HHB
                      rw [hBt] at KB
                      have KU := refBut_ok (.slice av ls.length cv) ls k wr hrk hl24
                      have KF2 := fun v w hr => refFar_ok n v (ls.eraseIdx k) w hr (good_but HG.out k)
                      clear hBt hjn hone
                      go_wp2_with fail
                      refine KB.mono ?_
                      rintro e w' ⟨rfl, rfl⟩
                      go_wp2_with fail
                      refine KU.mono ?_
                      rintro e w6 ⟨a6, c6, rfl, o6, hB6⟩
                      go_wp2_with fail
                      refine (KF2 _ _ (rd_of_owns o6)).mono ?_
                      rintro e w7 ⟨vo, G, rfl, hGl, hM⟩
                      obtain ⟨g7, c7, e⟩ := owns_some' hM.out (by rw [hGl]; omega)
                      subst e
                      rw [hGl] at hM
                      obtain ⟨ga, q1, q2⟩ := hM.at_ hGl (a := i) (b := j) (by omega) hlj
                      have hcap := (rd_of_owns hM.out).bounds.2
                      rw [hGl]
                      have hB67 := below_c hB6 hM.below
                      have hBk7 := below_c hBk hB67
                      have hP7 := owns_later hP hB67
                      have hQ7 := owns_later hQ hB67
                      have hs7 : w0.heap.size ≤ w7.heap.size := hBk7.size
                      have hfs := far_small (beside n (ls.eraseIdx k)) (show n ≤ 8 from hn8) i j
                      clear KB KU KF2 hM o6
                      generalize farF (beside n (ls.eraseIdx k)) n i j = x at *
                      by_cases hx : x < 0
                      · have hd : decide (x < 0) = true := decide_eq_true hx
                        have HH2 : Hid (hitUp n ls i j (k + 1) = hitUp n ls i j k ++ [((i : Int), (j : Int))]) := by
                          show _ = _
                          rw [HHS.out, HHB.out, hd]; simp
                        clear HHS HHB hx
                        go_wp2_with (at_builtin; go_must (refine wpl_app _ _ _ (AppTo.refl hQ7) rfl rfl Tryd.underlying24 hl0 hy0 hy1 hy2 rfl (by decide) rfl rfl rfl (by simp [Value.oneCell']) (by decide) (by omega) hs7 ?_); intro v8 w8 hA8 hne8 hst8)
                        obtain ⟨hP8, hS8⟩ := owns_beside hA8 hP7 (apart_symm hSep)
                        go_roundw
                        case rel =>
                          refine ⟨k + 1, k1, k2 + 1, by omega, by go_num, hP8, ?_, apart_symm hS8, hA8.below hQ7 hBk7 (Nat.le_refl _) hs7⟩
                          rw [HH2.out, ← List.append_assoc, cellsOf_append]
                          exact hA8.own
                        case measure => simp [intOf]; omega
                      · have hd : decide (x < 0) = false := decide_eq_false hx
                        have HH2 : Hid (hitUp n ls i j (k + 1) = hitUp n ls i j k) := by
                          show _ = _
                          rw [HHS.out, HHB.out, hd]; simp
                        clear HHS HHB
                        go_wp2
                        go_roundw
                        case rel => exact ⟨k + 1, _, _, by omega, by go_num, hP7, by rw [HH2.out]; exact hQ7, hSep, hBk7⟩
                        case measure => simp [intOf]; omega
                  · obtain rfl : k = ls.length := by omega
                    have hQ2 : wr.ownsRow w0.heap.size 50 2 (.slice aq k2 cq) k2 (cellsOf (allUp n ls i ++ rowUp n ls i (j + 1))) := by
                      rw [rowUp_succ n ls (by omega : i < j), ← hits_all HG.out, ← List.append_assoc]
                      exact hQ
                    clear hQ
                    go_wp2
                    go_roundw
                    case rel => exact ⟨j + 1, _, _, by omega, by omega, by go_num, hP, hQ2, hSep, hBk⟩
                    case measure => simp [intOf]; omega
              · obtain rfl : n = j := by omega
                rw [← allUp_succ] at hQ
                go_wp2
                go_roundw
                case rel => exact ⟨i + 1, _, _, by omega, by go_num, hP, hQ, hSep, hBj⟩
                case measure => simp [intOf]; omega
          | false =>
            have hcut : ¬ IsCut (beside n ls) i := fun h => by have := HSX.out.2 h; rw [hs] at this; cases this
            rw [if_neg hcut, List.append_nil] at HCU
            clear hcut HSX hs
            have hP : wz.ownsRow w0.heap.size 3 1 (.slice ap m1 cp) m1 (nats (cutsUp (beside n ls) (i + 1))) := by
              rw [HCU.out]; exact hP2
            have hQ := hQ2
            clear hP2 hQ2 HCU
            go_wp2_with fail
            go_loopw [7, 14] (fun qq jj wx => ∃ (j k1 k2 : Nat), i + 1 ≤ j ∧ j ≤ n ∧ jj = .int .i64 j ∧ wx.ownsRow w0.heap.size 3 1 (Value.slice ap m1 cp) k1 (nats (cutsUp (beside n ls) (i + 1))) ∧ wx.ownsRow w0.heap.size 50 2 qq k2 (cellsOf (allUp n ls i ++ rowUp n ls i j)) ∧ ((Value.slice ap m1 cp).ownBlock = none ∨ (Value.slice ap m1 cp).ownBlock ≠ qq.ownBlock) ∧ Below w0.heap.size w0 wx) (fun _ jj _ => n - (intOf jj).toNat)
            case atStart => exact ⟨i + 1, _, _, by omega, by omega, by go_num, hP, by rw [rowUp_none, List.append_nil]; exact hQ, hSep, hBq⟩
            case round =>
              clear hP hQ hSep hBq
              obtain ⟨j, k1, k2, hij, hj, rfl, hP, hQ, hSep, hBj⟩ := hrel
              by_cases hlj : j < n
              · have hji : (j : Int) < (n : Int) := by omega
                go_wp2_with fail
                go_loopw [7, 15] (fun qq kk wx => ∃ (k k1 k2 : Nat), k ≤ ls.length ∧ kk = .int .i64 k ∧ wx.ownsRow w0.heap.size 3 1 (Value.slice ap m1 cp) k1 (nats (cutsUp (beside n ls) (i + 1))) ∧ wx.ownsRow w0.heap.size 50 2 qq k2 (cellsOf (allUp n ls i ++ rowUp n ls i j ++ hitUp n ls i j k)) ∧ ((Value.slice ap m1 cp).ownBlock = none ∨ (Value.slice ap m1 cp).ownBlock ≠ qq.ownBlock) ∧ Below w0.heap.size w0 wx) (fun _ kk _ => ls.length - (intOf kk).toNat)
                case atStart => exact ⟨0, _, _, by omega, rfl, hP, by simpa [hitUp] using hQ, hSep, hBj⟩
                case round =>
                  clear hP hQ hSep hBj
                  obtain ⟨k, k1, k2, hk, rfl, hP, hQ, hSep, hBk⟩ := hrel
                  obtain ⟨aq, cq, rfl⟩ := owns_slice hQ
                  have hB0k := below_c hB0 hBk
                  by_cases hlk : k < ls.length
                  · have hki : (k : Int) < (ls.length : Int) := by omega
                    have hrk := hr.later hB0k
                    obtain ⟨a', hrun, hone⟩ := line_mid hrk hlk
                    have KB := between_ok _ [ls[k]] (i : Int) (j : Int) wr hone (by simp)
                    have hk2 : k2 ≤ 100 := by
                      have h1 := hQ.1
                      rw [cellsOf_length, List.length_append, List.length_append] at h1
                      have := allUp_le n ls i
                      have := rowUp_le n ls i j
                      have := hitUp_le n ls i j k
                      have : i * n ≤ 8 * 8 := Nat.mul_le_mul (by omega) hn8
                      omega
                    have HHS := Lib.hid (hitUp_succ n ls i j k)
                    have hBt := betw_one ls[k] (i : Int) (j : Int)
                    have HHB : Hid (hitB n ls i j k = (joins (i : Int) (j : Int) ls[k] && decide (farF (beside n (ls.eraseIdx k)) n i j < 0))) := by
                      show _ = _
                      unfold hitB
                      rw [List.getElem?_eq_getElem hlk, Option.getD_some]
                    have wk1 : IntKind.i64.wrap ((k : Int) + 1) = (k : Int) + 1 := IntWalk.i64_in _ (by omega)
                    cases hjn : joins (i : Int) (j : Int) ls[k] with
                    | false =>
                      rw [hjn] at hBt HHB
                      rw [hBt] at KB
                      have HH2 : Hid (hitUp n ls i j (k + 1) = hitUp n ls i j k) := by
                        show _ = _
                        rw [HHS.out, HHB.out]; simp
                      clear HHS HHB hBt hjn hone
                      go_wp2_with fail
                      refine KB.mono ?_
                      rintro e w' ⟨rfl, rfl⟩
                      go_wp2
                      go_roundw
                      case rel => exact ⟨k + 1, _, _, by omega, by go_num, hP, by rw [HH2.out]; exact hQ, hSep, hBk⟩
                      case measure => simp [intOf]; omega
                    | true =>
                      rw [hjn] at hBt HHB
                      rw [hBt] at KB
                      have KU := refBut_ok (.slice av ls.length cv) ls k wr hrk hl24
                      have KF2 := fun v w hr => refFar_ok n v (ls.eraseIdx k) w hr (good_but HG.out k)
                      clear hBt hjn hone
                      go_wp2_with fail
                      refine KB.mono ?_
                      rintro e w' ⟨rfl, rfl⟩
                      go_wp2_with fail
                      refine KU.mono ?_
                      rintro e w6 ⟨a6, c6, rfl, o6, hB6⟩
                      go_wp2_with fail
                      refine (KF2 _ _ (rd_of_owns o6)).mono ?_
                      rintro e w7 ⟨vo, G, rfl, hGl, hM⟩
                      obtain ⟨g7, c7, e⟩ := owns_some' hM.out (by rw [hGl]; omega)
                      subst e
                      rw [hGl] at hM
                      obtain ⟨ga, q1, q2⟩ := hM.at_ hGl (a := i) (b := j) (by omega) hlj
                      have hcap := (rd_of_owns hM.out).bounds.2
                      rw [hGl]
                      have hB67 := below_c hB6 hM.below
                      have hBk7 := below_c hBk hB67
                      have hP7 := owns_later hP hB67
                      have hQ7 := owns_later hQ hB67
                      have hs7 : w0.heap.size ≤ w7.heap.size := hBk7.size
                      have hfs := far_small (beside n (ls.eraseIdx k)) (show n ≤ 8 from hn8) i j
                      clear KB KU KF2 hM o6
                      generalize farF (beside n (ls.eraseIdx k)) n i j = x at *
                      by_cases hx : x < 0
                      · have hd : decide (x < 0) = true := decide_eq_true hx
                        have HH2 : Hid (hitUp n ls i j (k + 1) = hitUp n ls i j k ++ [((i : Int), (j : Int))]) := by
                          show _ = _
                          rw [HHS.out, HHB.out, hd]; simp
                        clear HHS HHB hx
                        go_wp2_with (at_builtin; go_must (refine wpl_app _ _ _ (AppTo.refl hQ7) rfl rfl Tryd.underlying24 hl0 hy0 hy1 hy2 rfl (by decide) rfl rfl rfl (by simp [Value.oneCell']) (by decide) (by omega) hs7 ?_); intro v8 w8 hA8 hne8 hst8)
                        obtain ⟨hP8, hS8⟩ := owns_beside hA8 hP7 (apart_symm hSep)
                        go_roundw
                        case rel =>
                          refine ⟨k + 1, k1, k2 + 1, by omega, by go_num, hP8, ?_, apart_symm hS8, hA8.below hQ7 hBk7 (Nat.le_refl _) hs7⟩
                          rw [HH2.out, ← List.append_assoc, cellsOf_append]
                          exact hA8.own
                        case measure => simp [intOf]; omega
                      · have hd : decide (x < 0) = false := decide_eq_false hx
                        have HH2 : Hid (hitUp n ls i j (k + 1) = hitUp n ls i j k) := by
                          show _ = _
                          rw [HHS.out, HHB.out, hd]; simp
                        clear HHS HHB
                        go_wp2
                        go_roundw
                        case rel => exact ⟨k + 1, _, _, by omega, by go_num, hP7, by rw [HH2.out]; exact hQ7, hSep, hBk7⟩
                        case measure => simp [intOf]; omega
                  · obtain rfl : k = ls.length := by omega
                    have hQ2 : wr.ownsRow w0.heap.size 50 2 (.slice aq k2 cq) k2 (cellsOf (allUp n ls i ++ rowUp n ls i (j + 1))) := by
                      rw [rowUp_succ n ls (by omega : i < j), ← hits_all HG.out, ← List.append_assoc]
                      exact hQ
                    clear hQ
                    go_wp2
                    go_roundw
                    case rel => exact ⟨j + 1, _, _, by omega, by omega, by go_num, hP, hQ2, hSep, hBk⟩
                    case measure => simp [intOf]; omega
              · obtain rfl : n = j := by omega
                rw [← allUp_succ] at hQ
                go_wp2
                go_roundw
                case rel => exact ⟨i + 1, _, _, by omega, by go_num, hP, hQ, hSep, hBj⟩
                case measure => simp [intOf]; omega
    · obtain rfl : n = i := by omega
      have hl1 : ((cutsUp (beside n ls) n).map fun (i : Nat) => (i : Int)).length = m1 := by
        have h1 := hP.1
        simpa [nats] using h1
      have hl2 : (bridgesL n ls).length = m2 := by
        have h1 := hQ.1
        rw [HAB.out, cellsOf_length] at h1
        omega
      rw [HAB.out] at hQ
      rw [← nats_ints] at hP
      have hB0i := below_c hB0 hBi
      have rP := rd_of_owns hP
      have rQ := rd_of_owns hQ
      clear hP hQ hSep hBi KF KO HSC
      generalize (cutsUp (beside n ls) n).map (fun (i : Nat) => (i : Int)) = D at *
      generalize bridgesL n ls = L at *
      go_wp2_with fail
      refine (KP _ (hr.later hB0i)).mono ?_
      rintro e w1 ⟨a1, c1, rfl, o1, hB1⟩
      have hB01 := below_c hB0i hB1
      have r1 := rd_of_owns o1
      rw [hl1] at r1
      rw [hl1]
      clear o1
      go_wp2_with fail
      refine (errorNone _ (hh.later hB01)).mono ?_
      rintro e w2 ⟨rfl, hB2⟩
      have hB02 := below_c hB01 hB2
      have hB12 := below_c hB1 hB2
      go_wp2_with fail
      refine (ints_same' _ _ m1 D _ hl1 (r1.later hB2) (rP.later hB12)).mono ?_
      rintro e w3 ⟨rfl, hB3⟩
      have hB03 := below_c hB02 hB3
      have rQ3 := (rQ.later hB12).later hB3
      clear r1 rP rQ
      go_wp2_with fail
      refine (KBR _ (hr.later hB03)).mono ?_
      rintro e w4 ⟨a4, c4, rfl, o4, hB4⟩
      have hB04 := below_c hB03 hB4
      have r4 := rd_of_owns o4
      rw [hl2] at r4
      rw [hl2]
      have rQ4 := rQ3.later hB4
      clear o4 rQ3
      go_wp2_with fail
      refine (errorNone _ (hh.later hB04)).mono ?_
      rintro e w5 ⟨rfl, hB5⟩
      have hB05 := below_c hB04 hB5
      go_wp2_with fail
      refine (lines_same _ _ m2 L _ hl2 (r4.later hB5) (rQ4.later hB5)).mono ?_
      rintro e w6 ⟨rfl, hB6⟩
      have hB06 := below_c hB05 hB6
      go_wp2
      go_ret
      exact ⟨rfl, hB06⟩

theorem cutsSays_any {w : World} (hh : Handle w) (n : Int) {v : Value} {ls : List Ln} (hr : LinesRd w v ls) :
    Calls Tryd.prog 6 #[.int .i64 n, v] w fun e w' => e = .returned (.bool true) ∧ Below w.heap.size w w' := by
  by_cases hc : chk n ls = 0
  · obtain ⟨k, rfl, hg⟩ := good_of hc
    exact cutsSays_ok hh k hr hg
  · exact cutsSays_bad hh n hr hc

end Go.Proofs.YtgjkefniknbdeaaDoor
