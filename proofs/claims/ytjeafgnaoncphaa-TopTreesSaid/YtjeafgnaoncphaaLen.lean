/- How many points a set has: core.Set.Len: the walk. Conditions: the set is small. -/
import Derived.Test.YtjeafgnaoncphaaFrom
namespace Go.Proofs.Ytjeafgnaoncphaa
open Go.RowKit Go.Shelf Gr
attribute [local go_sem] Oper.semAt_some

set_option maxRecDepth 100000 in
set_option maxHeartbeats 2000000 in
theorem len_any (s : Nat) (hs : s < 256) (w : World) :
    Calls Try.prog 58 #[.int .u64 (s : Int)] w fun e w' => e = .returned (.int .i64 ((elems s).length : Nat)) ∧ Below w.heap.size w w' := by
  have h1 : 1 ≤ 20 := by omega
  refine (callsIn_wide (n := 20)).1 ?_
  refine callsIn_of_wp_marks Try.func58 rfl trivial ?_ rfl
  simp only [Try.ntmps58, List.size_toArray, List.length_cons, List.length_nil, Nat.reduceAdd, Nat.reduceSub, Array.replicate_succ, Array.replicate_zero, List.push_toArray, List.append_toArray, List.nil_append, List.cons_append]
  gi_wp2_with fail
  refine ⟨trivial, ?_⟩
  refine (callsIn_wide.2 (each_any s _)).mono ?_
  rintro e w' ⟨rfl, rfl⟩
  gi_wp2_with fail
  have bO : Boxed ((w.alloc (.cells #[.int .i64 0] 3)).alloc (.cells #[.int .u64 (s : Int)] 65)) w.heap.size 3 (.int .i64 0) := (Boxed.new _ _ _).alloc _
  have sO : SetBox ((w.alloc (.cells #[.int .i64 0] 3)).alloc (.cells #[.int .u64 (s : Int)] 65)) (w.heap.size + 1) s := by
    have := World.alloc_heap_new (w.alloc (.cells #[.int .i64 0] 3)) (.cells #[.int .u64 (s : Int)] 65)
    rw [World.size_alloc] at this
    exact this
  have hB0 : Below w.heap.size w ((w.alloc (.cells #[.int .i64 0] 3)).alloc (.cells #[.int .u64 (s : Int)] 65)) := below_2 _ _ _
  refine wpIn_rangeFunc_ownF rfl h1 (gf := 67) (lb := #[.pointer (some ⟨w.heap.size + 1, 0, none⟩)]) rfl trivial (enters_of Try.func67 (by kernel_rfl) rfl)
    (each_stops 19 (by omega) (w.heap.size + 1) s hs _ sO (by simp)) (fun h k => keepsBlock_t h k) (keepsBlock_b (by simp)) (Below.refl _ _) (fun _ => rfl)
    (fun pre W => Boxed W w.heap.size 3 (.int .i64 (pre.length : Int)) ∧ Boxed W (w.heap.size + 1) 65 (.int .u64 (s : Int)) ∧ Below w.heap.size w W) (fun _ _ _ => False) ?hI (fun _ _ _ _ _ hs _ _ => hs) ?h0 ?a1 ?assign ?body ?done ?stop
  case hI =>
    rintro pre A A' row ⟨b1, sb, bl⟩ hg hr
    have hr2 : ∀ r, row = some r → ∃ o : Obj, A.heap[r]? = some o ∧ o.isCells = false := fun r e => (hr r e).2
    exact ⟨boxed_k b1 hg hr2, boxed_k sb hg hr2, bl.grown hg bl.size (fun r e => by have := (hr r e).1; simp at this; omega)⟩
  case h0 =>
    exact ⟨bO, sO, hB0⟩
  case assign =>
    intro l x W' K hK
    gi_wp2
    exact hK
  case body =>
    rintro l pre x W' ⟨b1, sb, bl⟩ hlt
    have c1 := b1.cell
    have f1 := b1.frozen
    have wl : IntKind.i64.wrap ((pre.length : Int) + 1) = (pre.length : Int) + 1 := IntWalk.i64_in _ (by omega)
    have gA := grownBy_setCell_at W' w.heap.size 0 (.int .i64 ((pre.length : Int) + 1))
    have b1V := b1.set (.int .i64 ((pre.length : Int) + 1))
    have koV := keeps_row gA ⟨_, b1, rfl⟩
    have blV := bl.setCell (p := ⟨w.heap.size, 0, none⟩) (Nat.le_refl _) (.int .i64 ((pre.length : Int) + 1))
    have sbV := sb.kept gA (by simp)
    gi_wp2
    exact ⟨koV, (show _ = _ from sbV).trans (show _ = _ from sb).symm, by simpa using b1V, sbV, blV⟩
  case done =>
    rintro D ys W hD rfl ⟨b1, _, bl⟩ hK
    have hc := b1.cell
    gi_wp2
    refine ⟨by simp, .inl ⟨_, _, rfl, run_takeDeferred hK, ?_⟩⟩
    exact ⟨_, results_tmp rfl _ _ _, rfl, bl.trans (belowK_b (w := w) (Nat.le_refl _) W D _ _ (by simp at hD; omega) hK rfl rfl)⟩
  case stop =>
    rintro D c pre W _ _ h _
    exact h.elim
end Go.Proofs.Ytjeafgnaoncphaa
