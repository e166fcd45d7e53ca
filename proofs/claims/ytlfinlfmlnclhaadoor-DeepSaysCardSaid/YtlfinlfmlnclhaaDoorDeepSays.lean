/- DeepSays returns true for every input: the walk. Conditions: the listed variable holds its handle. -/
import Derived.Test.YtlfinlfmlnclhaaDoorDeepR
import Derived.Test.YtlfinlfmlnclhaaDoorRefLines
import Derived.Test.YtlfinlfmlnclhaaDoorErr

namespace Go.Proofs.YtlfinlfmlnclhaaDoor
open Go.RowKit Go.Shelf Gr

theorem adj_nbs' {O : List Nat} {n : Nat} (hn : n ≤ 8) (hO : Bounded n O) (j k : Nat) : adjS O j k ↔ k ∈ nbs O j := by
  unfold nbs
  constructor
  · intro h
    have := (hO j k h).2
    exact List.mem_map.2 ⟨⟨k, by omega⟩, mem_elems.2 h, rfl⟩
  · intro h
    obtain ⟨y, hy, rfl⟩ := List.mem_map.1 h
    exact mem_elems.1 hy

set_option maxRecDepth 100000 in
set_option maxHeartbeats 1000000 in
theorem lowestBad (n : Int) (v : Value) (ls : List Ln) (w : World) (hr : LinesRd w v ls) (hc : chk n ls ≠ 0) :
    Calls Tryd.prog 20 #[.int .i64 n, v] w fun e w' => e = .returned (.tuple #[.slice none 0 0, errV (chk n ls)]) ∧ Below w.heap.size w w' := by
  have K := deep_bad n v ls w hr hc
  have HC := Lib.hid (errOf_pos hc)
  go_enter Tryd.func20, Tryd.ntmps20
  go_wp2_with fail
  refine K.mono ?_
  rintro e w1 ⟨rfl, hB⟩
  have hB2 := below_c hB (below_2 w1 (.cells #[.slice none 0 0] 36) (.cells #[.slice none 0 0] 36))
  clear K hc
  go_wp2
  go_ret2
  exact ⟨rfl, hB2⟩

set_option maxRecDepth 100000 in
set_option maxHeartbeats 4000000 in
theorem deepSays_bad (n : Int) {v : Value} {ls : List Ln} {w : World} (hh : Handle w) (hr : LinesRd w v ls) (hc : chk n ls ≠ 0) :
    Calls Tryd.prog 4 #[.int .i64 n, v] w fun e w' => e = .returned (.bool true) ∧ Below w.heap.size w w' := by
  have HC := Lib.hid hc
  have KL := lowestBad n v ls
  have KD := deep_bad n v ls
  have KR := refLines_any n v ls
  have hci : ((chk n ls : Nat) : Int) ≠ 0 := by omega
  generalize chk n ls = q at *
  clear hc
  go_enter Tryd.func4, Tryd.ntmps4
  go_wp2_with fail
  refine (KR _ hr).mono ?_
  rintro e w0 ⟨rfl, hB0⟩
  have hb0 := below_c hB0 (below_alloc' w0 (.cells #[.slice none 0 0, .slice none 0 0, .slice none 0 0, .int .i64 0] 38))
  have x0 := Box4.new w0 38 (.slice none 0 0) (.slice none 0 0) (.slice none 0 0) (.int .i64 0)
  go_wp2_with fail
  generalize hW1 : w0.alloc (.cells #[.slice none 0 0, .slice none 0 0, .slice none 0 0, .int .i64 0] 38) = W1 at *
  clear hW1
  refine (KD _ (hr.later hb0) HC.out).mono ?_
  rintro e w2 ⟨rfl, hB2⟩
  have hB02 := below_c hb0 hB2
  go_wp2_with fail
  refine (errorV q q _ HC.out (hh.later hB02)).mono ?_
  rintro e w3 ⟨rfl, hB3⟩
  rw [decide_eq_true rfl]
  have hB23 := below_c hB2 hB3
  have x3 := x0.later hB23
  have y0 := x3.c0
  go_wp2_with fail
  refine (ints_b _ _ [] [] _ (Rd.nil _) (Rd.nil _)).mono ?_
  rintro e w4 ⟨rfl, hB4⟩
  rw [decide_eq_true rfl]
  have x4 := x3.later hB4
  have y1 := x4.c1
  go_wp2_with fail
  refine (ints_b _ _ [] [] _ (Rd.nil _) (Rd.nil _)).mono ?_
  rintro e w5 ⟨rfl, hB5⟩
  rw [decide_eq_true rfl]
  have x5 := x4.later hB5
  have y2 := x5.c2
  go_wp2_with fail
  refine (ints_b _ _ [] [] _ (Rd.nil _) (Rd.nil _)).mono ?_
  rintro e w6 ⟨rfl, hB6⟩
  rw [decide_eq_true rfl]
  have hB06 := below_c (below_c (below_c (below_c hB02 hB3) hB4) hB5) hB6
  go_wp2_with fail
  refine (KL _ (hr.later hB06) HC.out).mono ?_
  rintro e w7 ⟨rfl, hB7⟩
  have hB07 := below_c hB06 hB7
  go_wp2_with fail
  refine (errorV q q _ HC.out (hh.later hB07)).mono ?_
  rintro e w8 ⟨rfl, hB8⟩
  rw [decide_eq_true rfl]
  go_wp2_with fail
  refine (ints_b _ _ [] [] _ (Rd.nil _) (Rd.nil _)).mono ?_
  rintro e w9 ⟨rfl, hB9⟩
  rw [decide_eq_true rfl]
  have hB09 := below_c (below_c hB07 hB8) hB9
  go_wp2
  go_ret
  exact ⟨rfl, hB09⟩

theorem ints_same (v1 v2 : Value) (xs : List Int) (w : World) (hr1 : Rd w v1 xs.length (ints xs)) (hr2 : Rd w v2 xs.length (ints xs)) :
    Calls Tryd.prog 19 #[v1, v2] w fun e w' => e = .returned (.bool true) ∧ Below w.heap.size w w' := by
  have := ints_b v1 v2 xs xs w hr1 hr2
  rwa [decide_eq_true rfl] at this

theorem lowsUp_succ (O : List Nat) (n : Nat) (m l c : List Int) (k : Nat) : (List.range (k + 1)).map (lowOf O n m l c) = (List.range k).map (lowOf O n m l c) ++ [lowOf O n m l c k] := by
  rw [List.range_succ, List.map_append]; rfl

set_option maxRecDepth 100000 in
set_option maxHeartbeats 4000000 in
theorem deepSays_good (n : Nat) {v : Value} {ls : List Ln} {w : World} (hh : Handle w) (hr : LinesRd w v ls) (hg : GoodG n ls) :
    Calls Tryd.prog 4 #[.int .i64 (n : Int), v] w fun e w' => e = .returned (.bool true) ∧ Below w.heap.size w w' := by
  obtain ⟨i0, hi, hz0, hz1, hz2⟩ := info_parts info_int
  have hn1 := hg.1
  have hn8 := hg.2.1
  have HG := Lib.hid hg
  have hd := deepWalk_is hn8 (adj_bounded hg) (fun _ _ h => adj_symm hg h)
  have KN := adj_nbs' hn8 (adj_bounded hg)
  have KLow := refLow_ok n v ls hg _ _ _ hd KN
  have KR := refLines_any (n : Int) v ls
  have hck := chk_good hg
  rw [hck] at KR
  have KW := refWalk_ok n v ls
  obtain ⟨e1, e2, e3⟩ := deepM_same hn8 (adj_bounded hg) (fun _ _ h => adj_symm hg h)
  rw [e1, e2, e3] at KW
  have KD := deep_ok n v ls
  have KLW := lowest_ok n v ls
  have hlm := hd.lm
  have hll := hd.ll
  have hlc := hd.lc
  generalize (deepMUp (beside n ls) n n).now = now at *
  generalize (deepWalk (beside n ls) n).met = dm at *
  generalize (deepWalk (beside n ls) n).left = dl at *
  generalize (deepWalk (beside n ls) n).frm = df at *
  have HD := Lib.hid hd
  clear hg e1 e2 e3 hck hd KN
  go_enter Tryd.func4, Tryd.ntmps4
  go_wp2_with fail
  refine (KR _ hr).mono ?_
  rintro e w0 ⟨rfl, hB0⟩
  have hb0 := below_c hB0 (below_alloc' w0 (.cells #[.slice none 0 0, .slice none 0 0, .slice none 0 0, .int .i64 0] 38))
  have x0 := Box4.new w0 38 (.slice none 0 0) (.slice none 0 0) (.slice none 0 0) (.int .i64 0)
  have hB0s := hB0.size
  go_wp2_with fail
  generalize hW1 : w0.alloc (.cells #[.slice none 0 0, .slice none 0 0, .slice none 0 0, .int .i64 0] 38) = W1 at *
  clear hW1
  have hl0 := x0.lt
  refine (KW _ (hr.later hb0) HG.out).mono ?_
  rintro e w2 ⟨vm, vl, vf, rfl, p1, p2, p3, hB2⟩
  obtain ⟨am, cm, rfl⟩ := owns_slice p1
  obtain ⟨al, cl, rfl⟩ := owns_slice p2
  obtain ⟨af, cf, rfl⟩ := owns_slice p3
  have x1 := x0.later hB2
  have hB02 := below_c hb0 hB2
  have x1a := x1.s0 (.slice am n cm)
  have x1b := x1a.s1 (.slice al n cl)
  have x1c := x1b.s2 (.slice af n cf)
  have x1d := x1c.s3 (.int .i64 (now : Int))
  have z0 := x1.c0
  have z1 := x1a.c1
  have z2 := x1b.c2
  have z3 := x1c.c3
  have u0 := x1.fz 0
  have u1 := x1a.fz 1
  have u2 := x1b.fz 2
  have u3 := x1c.fz 3
  have gg := grown4 w2 w0.heap.size (.slice am n cm) (.slice al n cl) (.slice af n cf) (.int .i64 (now : Int))
  have hBx := hB02.grown gg hB02.size (fun k hk => by cases hk; omega)
  have q1 := rd_of_owns (World.ownsRow.kept p1 gg (.inr (fun e => by have := (p1.lt _ e).1; omega)))
  have q2 := rd_of_owns (World.ownsRow.kept p2 gg (.inr (fun e => by have := (p2.lt _ e).1; omega)))
  have q3 := rd_of_owns (World.ownsRow.kept p3 gg (.inr (fun e => by have := (p3.lt _ e).1; omega)))
  clear x1c x1b x1a x1 x0 gg p1 p2 p3 hB02
  go_wp2_with fail
  generalize (((w2.setCell ⟨w0.heap.size, 0, none⟩ (.slice am n cm)).setCell ⟨w0.heap.size, 1, none⟩ (.slice al n cl)).setCell ⟨w0.heap.size, 2, none⟩ (.slice af n cf)).setCell ⟨w0.heap.size, 3, none⟩ (.int .i64 (now : Int)) = W3 at *
  clear z0 z1 z2 z3 u0 u1 u2 u3
  go_loopw [7, 8] (fun lo jj wr => ∃ (j : Nat), j ≤ n ∧ jj = .int .i64 j ∧ wr.ownsRow W3.heap.size 3 1 lo j (ints ((List.range j).map (lowOf (beside n ls) n dm dl df))) ∧ Below W3.heap.size W3 wr) (fun _ jj _ => n - (intOf jj).toNat)
  case atStart => exact ⟨0, by omega, rfl, World.ownsRow_nil _ _ _ _, Below.refl _ _⟩
  case round =>
    obtain ⟨j, hj, rfl, ho, hB⟩ := hrel
    obtain ⟨ao, co, rfl⟩ := owns_slice ho
    have hB03 := below_c hBx hB
    have x1 := x1d.later hB
    have y0 := x1.c0
    have y1 := x1.c1
    have y2 := x1.c2
    have y3 := x1.c3
    by_cases hlt : j < n
    · have hji : (j : Int) < (n : Int) := by omega
      have HS := Lib.hid (lowsUp_succ (beside n ls) n dm dl df j)
      have KL := KLow (now : Int) (2 * n) j wr _ _ _ (hr.later hB03) hlt (by omega) (q1.later hB) (q2.later hB) (q3.later hB)
      generalize lowOf (beside n ls) n dm dl df j = lj at *
      go_wp2_with fail
      refine KL.mono ?_
      rintro e w5 ⟨rfl, hB5⟩
      have ho5 := owns_later ho hB5
      have hB35 := below_c hB hB5
      have hs5 := hB35.size
      go_wp2_with (at_builtin; go_must (refine wpl_app _ _ _ (AppTo.refl ho5) rfl rfl Tryd.underlying36 hi hz0 hz1 hz2 rfl (by decide) rfl rfl rfl (by simp [Value.oneCell']) (by decide) (by omega) (by omega) ?_); intro v8 w8 hA8 hne8 hst8)
      go_roundw
      case rel =>
        refine ⟨j + 1, by omega, by go_num, ?_, hA8.below ho5 hB35 (Nat.le_refl _) (by omega)⟩
        rw [HS.out]
        simpa [ints] using hA8.own
      case measure => simp [intOf]; omega
    · obtain rfl : n = j := by omega
      have hrl := rd_of_owns ho
      clear y1 y2 y3 KLow KW
      go_wp2_with fail
      refine (KD _ (hr.later hB03) HG.out).mono ?_
      rintro e w5 ⟨b1, d1, b2, d2, b3, d3, rfl, r1, r2, r3, hB5⟩
      have hB05 := below_c hB03 hB5
      go_wp2_with fail
      refine (errorNil 0 _ (hh.later hB05)).mono ?_
      rintro e w6 ⟨rfl, hB6⟩
      rw [decide_eq_true rfl]
      have hB56 := below_c hB5 hB6
      have x6 := x1.later hB56
      have y0 := x6.c0
      have K6 := ints_same (.slice b1 n d1) (.slice am n cm) dm w6 (by rw [hlm]; exact r1.later hB6) (by rw [hlm]; exact (q1.later hB).later hB56)
      go_wp2_with fail
      refine K6.mono ?_
      rintro e w7 ⟨rfl, hB7⟩
      have hB67 := below_c hB6 hB7
      have hB57 := below_c hB5 hB67
      have x7 := x6.later hB7
      have y1 := x7.c1
      have K7 := ints_same (.slice b2 n d2) (.slice al n cl) dl w7 (by rw [hll]; exact r2.later hB67) (by rw [hll]; exact (q2.later hB).later hB57)
      go_wp2_with fail
      refine K7.mono ?_
      rintro e w8 ⟨rfl, hB8⟩
      have hB68 := below_c hB67 hB8
      have hB58 := below_c hB5 hB68
      have x8 := x7.later hB8
      have y2 := x8.c2
      have K8 := ints_same (.slice b3 n d3) (.slice af n cf) df w8 (by rw [hlc]; exact r3.later hB68) (by rw [hlc]; exact (q3.later hB).later hB58)
      go_wp2_with fail
      refine K8.mono ?_
      rintro e w9 ⟨rfl, hB9⟩
      have hB59 := below_c hB58 hB9
      have hB09 := below_c hB03 hB59
      go_wp2_with fail
      refine (KLW _ (hr.later hB09) HG.out).mono ?_
      rintro e w10 ⟨b4, d4, rfl, r4, hB10⟩
      have hB0t := below_c hB09 hB10
      have hB5t := below_c hB59 hB10
      go_wp2_with fail
      refine (errorNil 0 _ (hh.later hB0t)).mono ?_
      rintro e w11 ⟨rfl, hB11⟩
      rw [decide_eq_true rfl]
      have hB5e := below_c hB5t hB11
      have hLL : (lows (beside n ls) n dm dl df).length = n := by simp [lows]
      have K11 := ints_same (.slice b4 n d4) (.slice ao n co) (lows (beside n ls) n dm dl df) w11 (by rw [hLL]; exact r4.later hB11) (by rw [hLL]; exact hrl.later hB5e)
      go_wp2_with fail
      refine K11.mono ?_
      rintro e w12 ⟨rfl, hB12⟩
      have hFin := below_c (below_c hB0t hB11) hB12
      go_wp2
      go_ret
      exact ⟨rfl, hFin⟩

theorem deepSays_any {v : Value} {ls : List Ln} {w : World} (hh : Handle w) (n : Int) (hr : LinesRd w v ls) :
    Calls Tryd.prog 4 #[.int .i64 n, v] w fun e w' => e = .returned (.bool true) ∧ Below w.heap.size w w' := by
  by_cases hc : chk n ls = 0
  · obtain ⟨m, rfl, hg⟩ := good_of hc
    exact deepSays_good m hh hr hg
  · exact deepSays_bad n hh hr hc

end Go.Proofs.YtlfinlfmlnclhaaDoor
