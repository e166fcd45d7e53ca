/- The list of a set's points: slices.Collect over Each, core.Set.List: the walks. Conditions: the set is small. -/
import Derived.Test.YtjeafgnaoncphaaEach
namespace Go.Proofs.Ytjeafgnaoncphaa
open Go.RowKit Go.Shelf Gr
attribute [local go_sem] Oper.semAt_some

/-- points as cells -/
def ptsOf (xs : List Pt) : List Value := xs.map fun x => Value.int .i64 ((x.val : Nat) : Int)

set_option maxRecDepth 100000 in
set_option maxHeartbeats 1000000 in
theorem appendSeq_in (n : Nat) (hn : 6 ≤ n) (B s : Nat) (hs : s < 256) (w : World) (hb : SetBox w B s) (hlt : B < w.heap.size) :
    CallsIn Fence.wide n Try.prog 80 #[.slice none 0 0, .func (.func 67) #[] #[.pointer (some ⟨B, 0, none⟩)]] w fun e W' =>
      ∃ v, e = .returned v ∧ W'.ownsRow w.heap.size 3 1 v (elems s).length (ptsOf (elems s)) ∧ Below w.heap.size w W' := by
  have h1 : 1 ≤ n := by omega
  obtain ⟨i0, hi, hz0, hz1, hz2⟩ := info_parts info_int
  refine callsIn_of_wp_marks Try.func80 rfl trivial ?_ rfl
  simp only [Try.ntmps80, List.size_toArray, List.length_cons, List.length_nil, Nat.reduceAdd, Nat.reduceSub, Array.replicate_succ, Array.replicate_zero, List.push_toArray, List.append_toArray, List.nil_append, List.cons_append]
  gi_wp2
  have bO := Boxed.new w 28 (.slice none 0 0)
  have hB0 : Below w.heap.size w (w.alloc (.cells #[.slice none 0 0] 28)) := (Below.refl _ w).alloc (Nat.le_refl _) _
  refine wpIn_rangeFunc_ownF rfl h1 (gf := 67) (lb := #[.pointer (some ⟨B, 0, none⟩)]) rfl trivial (enters_of Try.func67 (by kernel_rfl) rfl)
    (each_stops (n - 1) (by omega) B s hs _ ((hB0.block B hlt).trans hb) (by simp; omega)) (fun h k => keepsBlock_t h k) (keepsBlock_b (by simp; omega)) (Below.refl _ _) (fun _ => rfl)
    (fun pre W => (∃ v, Boxed W w.heap.size 28 v ∧ W.ownsRow w.heap.size 3 1 v (ptsOf pre).length (ptsOf pre) ∧ True) ∧ Below w.heap.size w W)
    (fun _ _ _ => False)
    (OwnFrom.and (Own.from (holdsRow_own w.heap.size w.heap.size 28 3 1 (fun pre => (ptsOf pre).length) (fun pre => ptsOf pre) (fun _ _ => True)) _) (ownFrom_below (Nat.le_refl _) (by simp)))
    (fun _ _ _ _ _ hs _ _ => hs)
    ⟨⟨_, bO, World.ownsRow_nil _ _ _ _, trivial⟩, hB0⟩
    (fun x => { tmps := #[.slice none 0 0, .func (.func 67) #[] #[.pointer (some ⟨B, 0, none⟩)], .pointer (some ⟨w.heap.size, 0, none⟩), undef, .slice none 0 0, .int .i64 ((x.val : Nat) : Int), .func (.func 67) #[] #[.pointer (some ⟨B, 0, none⟩)], .int .i64 ((x.val : Nat) : Int), undef, undef, undef, undef, undef], defers := [] }) ?assign ?body ?done ?stop
  case assign =>
    intro l x W K hK
    gi_wp2
    exact hK
  case body =>
    rintro l pre x W ⟨⟨v, hv, hrow, _⟩, hB⟩ hlt2
    have hc := hv.cell
    have hpl : (ptsOf pre).length = pre.length := by simp [ptsOf]
    have hpl2 : (ptsOf pre).length ≤ 8 := by omega
    clear hpl
    gi_wp2_with (gi_at_builtin; refine wpListIn_append_own _ rfl _ _ 28 rfl w.heap.size 3 i0 (.int .i64 0) 1 8 Try.underlying28 hi hz0 hz1 hz2 rfl (by decide) _ _ _ rfl (hrow.alloc _) ⟨W.heap.size, 0, none⟩ 1 1 [.int .i64 ((x.val : Nat) : Int)] rfl rfl (cell_one_new _ _ _) (by simp [Value.oneCell']) (by unfold maxLen; omega) (by omega) (by have := hB.size; simp; omega) ?_; intro v' w1 hown' hgrow _; obtain ⟨g', cap', rfl⟩ := ownsRow_succ hown'; obtain ⟨hv1, hv2, hr2, hk2, hb2⟩ := hv.appended (by decide) hrow hB.size (Nat.le_refl _) hown' hgrow; have hc1 := hv1.cell; have hf1 := hv1.frozen)
    exact ⟨hk2, hb2.block B hlt, ⟨_, hv2, by simpa [ptsOf] using hr2, trivial⟩, hB.trans hb2⟩
  case done =>
    rintro D ys W hD rfl ⟨⟨v, hv, hrow, _⟩, hB⟩ hK
    have hc := hv.cell
    gi_wp2
    refine ⟨by simp, .inl ⟨_, _, rfl, run_takeDeferred hK, ?_⟩⟩
    have hpl : (ptsOf (elems s)).length = (elems s).length := by simp [ptsOf]
    exact ⟨_, results_tmp rfl _ _ _, v, rfl, hpl ▸ ownsRow_putObj hrow _ hK rfl, hB.trans (belowK_b (w := w) (Nat.le_refl _) W D _ _ (by simp at hD; omega) hK rfl rfl)⟩
  case stop =>
    rintro D c pre W _ _ h _
    exact h.elim

set_option maxRecDepth 100000 in
set_option maxHeartbeats 1000000 in
theorem each_any (s : Nat) (w : World) :
    Calls Try.prog 52 #[.int .u64 (s : Int)] w fun e w' => e = .returned (.func (.func 67) #[] #[.pointer (some ⟨w.heap.size, 0, none⟩)]) ∧ w.alloc (.cells #[.int .u64 (s : Int)] 65) = w' := by
  go_enter Try.func52, Try.ntmps52
  go_wp2
  go_ret
  exact ⟨rfl, rfl⟩

set_option maxRecDepth 100000 in
set_option maxHeartbeats 1000000 in
theorem collect_any (B s : Nat) (hs : s < 256) (w : World) (hb : SetBox w B s) (hlt : B < w.heap.size) :
    Calls Try.prog 64 #[.func (.func 67) #[] #[.pointer (some ⟨B, 0, none⟩)]] w fun e W' =>
      ∃ v, e = .returned v ∧ W'.ownsRow w.heap.size 3 1 v (elems s).length (ptsOf (elems s)) ∧ Below w.heap.size w W' := by
  go_enter Try.func64, Try.ntmps64
  go_wp2_with fail
  refine (callsIn_wide.1 (appendSeq_in 6 (by omega) B s hs w hb hlt)).mono ?_
  rintro e w1 ⟨v, rfl, ho, hB⟩
  go_wp2
  go_ret
  exact ⟨_, rfl, ho, hB⟩

set_option maxRecDepth 100000 in
set_option maxHeartbeats 1000000 in
theorem list_any (s : Nat) (hs : s < 256) (w : World) :
    Calls Try.prog 41 #[.int .u64 (s : Int)] w fun e W' =>
      ∃ a c, e = .returned (.slice a (elems s).length c) ∧ W'.ownsRow w.heap.size 3 1 (.slice a (elems s).length c) (elems s).length (ptsOf (elems s)) ∧ Below w.heap.size w W' := by
  go_enter Try.func41, Try.ntmps41
  go_wp2_with fail
  refine (each_any s _).mono ?_
  rintro e w1 ⟨rfl, rfl⟩
  go_wp2_with fail
  refine (collect_any w.heap.size s hs _ (World.alloc_heap_new _ _) (by simp)).mono ?_
  rintro e w2 ⟨v, rfl, ho, hB⟩
  obtain ⟨a, c, rfl⟩ := owns_slice ho
  go_wp2
  go_ret
  exact ⟨_, _, rfl, owns_mono ho (by simp), below_c (below_alloc' _ _) hB⟩

end Go.Proofs.Ytjeafgnaoncphaa
