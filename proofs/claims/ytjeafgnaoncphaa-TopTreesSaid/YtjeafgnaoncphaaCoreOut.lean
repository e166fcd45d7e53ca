/- What core.Out and core.Beside return: the walks. Conditions: good points and lines. -/
import Derived.Test.YtjeafgnaoncphaaCoreCheck
import Derived.StillTailTactics
namespace Go.Proofs.Ytjeafgnaoncphaa
open Go.RowKit Gr

theorem info_set : (Try.prog.info? 65).map (fun i => (i.zero, i.size, i.bytes)) = some (some (.int .u64 0), 1, 8) := by kernel_rfl

theorem still_of {P : Program} {f : FuncId} {args : Array Value} {w : World} {v : Value} (h : Calls P f args w fun e w' => e = .returned v ∧ w = w') : Calls P f args w fun e w' => e = .returned v ∧ w' = w :=
  h.mono fun _ _ ⟨a, b⟩ => ⟨a, b.symm⟩

theorem owns_at {w : World} {base : Nat} {e : TypeId} {g n cap : Nat} {xs : List Value} (h : w.ownsRow base e 1 (.slice (some ⟨g, 0, none⟩) n cap) n xs) {k : Nat} {u : Value} (hu : xs[k]? = some u) : w.cell? ⟨g, k, none⟩ = some u := by
  have hl : k < xs.length := (List.getElem?_eq_some_iff.1 hu).1
  rw [h.cellAt k (by rw [h.1] at hl; exact hl), hu]

set_option maxRecDepth 100000 in
set_option maxHeartbeats 1000000 in
theorem coreOut_any (n : Nat) (v : Value) (ls : List Ln) (w : World) (hr : LinesRd w v ls) (hg : GoodG n ls) :
    Calls Try.prog 63 #[.int .i64 n, v] w fun e w' => ∃ g cap, e = .returned (.slice (some ⟨g, 0, none⟩) n cap) ∧ w'.ownsRow w.heap.size 65 1 (.slice (some ⟨g, 0, none⟩) n cap) n (setsOf (out n ls)) ∧ Below w.heap.size w w' ∧ Small (out n ls) := by
  obtain ⟨i0, hi, hz0, hz1, hz2⟩ := info_parts info_set
  obtain ⟨hn1, hn2, hl24, hgl⟩ := hg
  have hr0 := hr
  obtain ⟨a, c, rfl, hnc, hcm, _, hcell⟩ := hr0
  unfold maxLen at hcm
  have HGL := Lib.hid hgl
  clear hgl
  go_enter Try.func63, Try.ntmps63
  go_wp2_with (at_make; go_must (refine wpList_make_full _ rfl _ _ _ rfl w.heap.size 65 i0 (.int .u64 0) 1 Try.underlying62 hi hz0 hz1 .i64 .i64 _ _ n rfl rfl rfl rfl (by rw [hz2]; omega) (by unfold maxLen; omega) (Nat.le_refl _) ?_); intro w1 hown hgr)
  have hB1 := below_iff_grown.2 hgr
  have hsz1 := hB1.size
  have ez : (madeCells (Value.int .u64 0).cells (n * 1)).toList = setsOf (List.replicate n 0) := by
    rw [Nat.mul_one]; show (madeCells #[Value.int .u64 0] n).toList = _; rw [toList_madeCells_one]; simp [setsOf]
  rw [ez] at hown
  clear ez
  go_loopw [12] (fun i wr => ∃ k : Nat, k ≤ ls.length ∧ i = .int .i64 k ∧ wr.ownsRow w.heap.size 65 1 (.slice (some ⟨w.heap.size, 0, none⟩) n n) n (setsOf ((ls.take k).foldl outStep (List.replicate n 0))) ∧ Below w.heap.size w wr ∧ w.heap.size < wr.heap.size ∧ Hid (Small ((ls.take k).foldl outStep (List.replicate n 0)))) (fun i _ => ls.length - (intOf i).toNat)
  case atStart => exact ⟨0, by omega, rfl, hown, hB1, (hown.lt _ rfl).2, fun s hs => by have := List.eq_of_mem_replicate hs; omega⟩
  case round =>
    obtain ⟨k, hk, rfl, hor, hbr, hszr, HS⟩ := hrel
    by_cases hlt : k < ls.length
    · obtain ⟨b, off, rfl, hbb, hc⟩ := hcell (by omega)
      obtain ⟨g1, g2⟩ := lines_at hc hlt
      have hc1 := (hbr.cell (p := ⟨b, off + k * 2, none⟩) hbb).trans g1
      have hc2 := (hbr.cell (p := ⟨b, off + k * 2 + 1, none⟩) hbb).trans g2
      have hgk := HGL.out _ (List.getElem_mem hlt)
      have hT : (ls.take (k + 1)).foldl outStep (List.replicate n 0) = outStep ((ls.take k).foldl outStep (List.replicate n 0)) ls[k] := by
        rw [List.take_succ_eq_append_getElem hlt, List.foldl_append]; rfl
      have hlo : ((ls.take k).foldl outStep (List.replicate n 0)).length = n := by simp [foldl_outStep_length]
      generalize hO : (ls.take k).foldl outStep (List.replicate n 0) = O at *
      clear hO g1 g2 hc hown hB1 hgr
      generalize ls[k] = l at *
      obtain ⟨A, B⟩ := l
      simp only at hgk hc1 hc2
      obtain ⟨x, rfl⟩ := Int.eq_ofNat_of_zero_le hgk.1
      obtain ⟨y, rfl⟩ := Int.eq_ofNat_of_zero_le hgk.2.2.1
      have hx : x < n := by omega
      have hy : y < n := by omega
      have HT := Lib.hid hT
      have HLO := Lib.hid hlo
      clear hT hlo hgk
      have hxo : x < O.length := by rw [HLO.out]; exact hx
      have hsx : O[x] < 256 := HS.out _ (List.getElem_mem hxo)
      have hcx := owns_at hor (setsOf_get hxo)
      have hfx := hor.frozenAt x
      go_wp2_with fail
      refine wp_region_still_tail 12 (by kernel_rfl) (by kernel_rfl) ?_
      simp only [List.take_succ_cons, List.take_zero, List.drop_succ_cons, List.drop_zero]
      change wpStill _ _ (World.drew _) _ _ _
      repeat still_step
      still_call (still_of (with_any (O[x]) y _ (by omega) (by omega)))
      repeat still_step
      refine wpStill_nil ?_
      change wpList _ _ _ _ _ (World.drew _)
      go_wp2
      have hS : outStep O ((x : Int), (y : Int)) = O.set x (O[x] ||| 2 ^ y) := by simp [outStep, hxo]
      obtain ⟨own', gr'⟩ := hor.stored x (.int .u64 ((O[x] ||| 2 ^ y : Nat) : Int))
      rw [setsOf_set, ← hS, ← HT.out] at own'
      have hbr' := ((hbr.setCell (p := ⟨w.heap.size, x, none⟩) (Nat.le_refl _) (.int .u64 ((O[x] ||| 2 ^ y : Nat) : Int))).alloc (by simp [World.setCell]; omega) (.cells #[.int .i64 (x : Int), .int .i64 (y : Int)] 33)).drew
      have hsm : Small ((ls.take (k + 1)).foldl outStep (List.replicate n 0)) := by
        rw [HT.out]; exact outStep_small (n := n) HS.out hn2 ⟨by simp, by simpa using hy⟩
      go_roundw
      case rel => exact ⟨k + 1, by omega, by go_num, (own'.alloc _).drew, hbr', by simp [World.setCell]; omega, hsm⟩
      case measure => simp [intOf]; omega
    · have e : ls.take k = ls := List.take_of_length_le (by omega)
      rw [e] at hor HS
      clear e
      go_wp2
      go_ret
      exact ⟨_, _, rfl, hor, hbr, HS.out⟩

set_option maxRecDepth 100000 in
set_option maxHeartbeats 1000000 in
theorem coreBeside_any (n : Nat) (v : Value) (ls : List Ln) (w : World) (hr : LinesRd w v ls) (hg : GoodG n ls) :
    Calls Try.prog 38 #[.int .i64 n, v] w fun e w' => ∃ g cap, e = .returned (.slice (some ⟨g, 0, none⟩) n cap) ∧ w'.ownsRow w.heap.size 65 1 (.slice (some ⟨g, 0, none⟩) n cap) n (setsOf (beside n ls)) ∧ Below w.heap.size w w' ∧ Small (beside n ls) := by
  have hg0 := hg
  obtain ⟨hn1, hn2, hl24, hgl⟩ := hg
  have hr0 := hr
  obtain ⟨a, c, rfl, hnc, hcm, _, hcell⟩ := hr0
  unfold maxLen at hcm
  have HGL := Lib.hid hgl
  have HG := Lib.hid hg0
  clear hgl hg0
  go_enter Try.func38, Try.ntmps38
  go_wp2_with fail
  refine (coreOut_any n _ ls _ hr HG.out).mono ?_
  rintro e w1 ⟨g, cap, rfl, hown, hB1, hS1⟩
  have hbg := (hown.lt g rfl).1
  have HS1 := Lib.hid hS1
  clear hS1
  go_wp2_with fail
  go_loopw [13] (fun i wr => ∃ k : Nat, k ≤ ls.length ∧ i = .int .i64 k ∧ wr.ownsRow w.heap.size 65 1 (.slice (some ⟨g, 0, none⟩) n cap) n (setsOf ((ls.take k).foldl backStep (out n ls))) ∧ Below w.heap.size w wr ∧ g < wr.heap.size ∧ Hid (Small ((ls.take k).foldl backStep (out n ls)))) (fun i _ => ls.length - (intOf i).toNat)
  case atStart => exact ⟨0, by omega, rfl, hown, hB1, (hown.lt _ rfl).2, HS1.out⟩
  case round =>
    obtain ⟨k, hk, rfl, hor, hbr, hszr, HS⟩ := hrel
    by_cases hlt : k < ls.length
    · obtain ⟨b, off, rfl, hbb, hc⟩ := hcell (by omega)
      obtain ⟨g1, g2⟩ := lines_at hc hlt
      have hc1 := (hbr.cell (p := ⟨b, off + k * 2, none⟩) hbb).trans g1
      have hc2 := (hbr.cell (p := ⟨b, off + k * 2 + 1, none⟩) hbb).trans g2
      have hgk := HGL.out _ (List.getElem_mem hlt)
      have hT : (ls.take (k + 1)).foldl backStep (out n ls) = backStep ((ls.take k).foldl backStep (out n ls)) ls[k] := by
        rw [List.take_succ_eq_append_getElem hlt, List.foldl_append]; rfl
      have hlo : ((ls.take k).foldl backStep (out n ls)).length = n := by simp [foldl_backStep_length, out_length]
      generalize hO : (ls.take k).foldl backStep (out n ls) = O at *
      clear hO g1 g2 hc hown hB1
      generalize ls[k] = l at *
      obtain ⟨A, B⟩ := l
      simp only at hgk hc1 hc2
      obtain ⟨x, rfl⟩ := Int.eq_ofNat_of_zero_le hgk.1
      obtain ⟨y, rfl⟩ := Int.eq_ofNat_of_zero_le hgk.2.2.1
      have hx : x < n := by omega
      have hy : y < n := by omega
      have HT := Lib.hid hT
      have HLO := Lib.hid hlo
      clear hT hlo hgk
      have hyo : y < O.length := by rw [HLO.out]; exact hy
      have hsy : O[y] < 256 := HS.out _ (List.getElem_mem hyo)
      have hcy := owns_at hor (setsOf_get hyo)
      have hfy := hor.frozenAt y
      go_wp2_with fail
      refine wp_region_still_tail 12 (by kernel_rfl) (by kernel_rfl) ?_
      simp only [List.take_succ_cons, List.take_zero, List.drop_succ_cons, List.drop_zero]
      change wpStill _ _ (World.drew _) _ _ _
      repeat still_step
      still_call (still_of (with_any (O[y]) x _ (by omega) (by omega)))
      repeat still_step
      refine wpStill_nil ?_
      change wpList _ _ _ _ _ (World.drew _)
      go_wp2
      have hS : backStep O ((x : Int), (y : Int)) = O.set y (O[y] ||| 2 ^ x) := by simp [backStep, hyo]
      obtain ⟨own', gr'⟩ := hor.stored y (.int .u64 ((O[y] ||| 2 ^ x : Nat) : Int))
      rw [setsOf_set, ← hS, ← HT.out] at own'
      have hbr' := ((hbr.setCell (p := ⟨g, y, none⟩) hbg (.int .u64 ((O[y] ||| 2 ^ x : Nat) : Int))).alloc (by simp [World.setCell]; omega) (.cells #[.int .i64 (x : Int), .int .i64 (y : Int)] 33)).drew
      have hsm : Small ((ls.take (k + 1)).foldl backStep (out n ls)) := by
        rw [HT.out]; exact backStep_small (n := n) HS.out hn2 ⟨by simp, by simpa using hx⟩
      go_roundw
      case rel => exact ⟨k + 1, by omega, by go_num, (own'.alloc _).drew, hbr', by simp [World.setCell]; omega, hsm⟩
      case measure => simp [intOf]; omega
    · have e : ls.take k = ls := List.take_of_length_le (by omega)
      rw [e] at hor HS
      clear e
      go_wp2
      go_ret
      exact ⟨_, _, rfl, hor, hbr, HS.out⟩

end Go.Proofs.Ytjeafgnaoncphaa
