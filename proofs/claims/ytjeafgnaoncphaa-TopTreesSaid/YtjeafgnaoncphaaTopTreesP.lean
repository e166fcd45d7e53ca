/- TopTrees: the statement proved: for every input the law returns true and its arguments read as before. Conditions: those of the given row. -/
import Derived.Test.YtjeafgnaoncphaaTopTrees
import Derived.Test.YtjeafgnaoncphaaOpen
import Derived.Test.YtjeafgnaoncphaaFacts
import Derived.Test.YtjeafgnaoncphaaOpenLines
namespace Go.Proofs.Ytjeafgnaoncphaa.topTrees
open Go.ChangeShapes Go.WideShapes Go.ChangeAt Go.RowKit
open Go.Proofs.Ytjeafgnaoncphaa

theorem own : ownKnob Try.prog.godebug = none := by kernel_rfl

set_option maxRecDepth 100000 in
theorem lifted (os : Os) (started : os.Started) (H : Type) (enc : TypeId × Value → H) :
    ReturnsInHanded {} Try.checked os 8 .any (Rows.topTreesSpec.pre6 enc Try.prog Try.f8 Rows.topTreesRow.domain false) (Rows.topTreesSpec.post enc Try.prog Try.f8 false true false false) := by
  refine returnsInHanded_of_change (C := Try.checked) own started (by kernel_rfl) Try.func8
    (ChangeSpec.witness6 (enc := enc) (C := Try.checked) false ⟨#[], #[.int .i64 0, .slice none 0 0], []⟩ 8 (by kernel_rfl) (by kernel_rfl) (by kernel_rfl) (by kernel_rfl)) ?_
  intro W base args ds gs before hval0 hW _hcnd _
  have hval : ∀ (j : Nat) t v, Try.f8.params[j]? = some t → args[j]? = some v → Value.okWide Try.prog W .any base t v := hval0
  have hW' := hW
  obtain ⟨p, q, hA0, hV, rfl, hfz, hnd⟩ := hW
  have hA : DataW.TrodAll enc Try.prog W 0 (fun _ => true) true Try.f8.params.toList args.toList ds p := hA0
  rw [Try.params8] at hA hval
  obtain ⟨v0, vs0, d0, ds0, p0, q0, hargs, rfl, rfl, h0, r0⟩ := trodAll_cons hA
  obtain ⟨v1, vs1, d1, ds1, p1, q1, rfl, rfl, rfl, h1, r1⟩ := trodAll_cons r0
  obtain ⟨rfl, rfl, rfl⟩ := trodAll_nil r1
  obtain rfl : args = #[v0, v1] := by cases args; simp_all
  obtain ⟨rfl, rfl⟩ := trodVars_none hV
  have k0 := h0
  have lt0 : ∀ x ∈ p0, x.block < W.heap.size := by obtain ⟨m, hm⟩ := k0; exact DataW.trod_lt m _ _ _ hm
  obtain ⟨a0, rfl, ha0⟩ := open_i64 (hval 0 3 v0 rfl rfl) h0
  have k1 := h1
  have lt1 : ∀ x ∈ p1, x.block < W.heap.size := by obtain ⟨m, hm⟩ := k1; exact DataW.trod_lt m _ _ _ hm
  obtain ⟨x1, hx1⟩ := open_linesR (hval 1 22 v1 rfl rfl) h1
  refine (topTrees_any a0 hx1 (w := W)).mono fun e W' ⟨he, bel⟩ => ?_
  subst he
  exact ⟨_, rfl, _, _, _, [], _, [], hW', trodAll_mk1 (shut_bool Try.underlying4 _), (trodAll_cons_mk (Below.trod laidOut (by kernel_rfl) (of_decide_eq_true (by kernel_rfl)) k0 bel lt0) (trodAll_cons_mk (Below.trod laidOut (by kernel_rfl) (of_decide_eq_true (by kernel_rfl)) k1 bel lt1) trodAll_mk0)), rfl, bel.frame _, fun h => by cases h⟩

theorem k1 : Rows.topTreesRow.inPlace = Try.prog.inPlace 8 := by kernel_rfl
theorem k2 : Rows.topTreesRow.unfollowed = Try.prog.unfollowed 8 := by kernel_rfl
theorem k3 : Rows.topTreesRow.recurses = Try.prog.recurses 8 := by kernel_rfl
theorem k4 : Rows.topTreesRow.named = Try.prog.varsNamed 8 := by kernel_rfl
theorem k5 : Try.prog.funcNamed Rows.topTreesRow.func = some 8 := by kernel_rfl
theorem closed : joinedFacts Try.prog 8 Try.f8 Rows.topTreesSpec Rows.topTreesRow = true := by
  unfold joinedFacts
  rw [laidOut, mapsRowed_true, stops_nil, stopKnobs_nil, plainKeys_true, stopsHeard_true, mayEnter_true, lifts_false, make_cut, ← k1, ← k2, ← k3, ← k4]
  refine Eq.trans ?_ (Eq.refl _)
  kernel_rfl

theorem over : Rows.topTreesRow.holds Try.pinned (OpenSpec.ofChange Rows.topTreesSpec) :=
  OpenClaim.holds_of_wide 8 Try.f8 rfl rfl rfl rfl rfl rfl rfl ⟨rfl, rfl, rfl, rfl, rfl⟩ rfl rfl rfl rfl rfl k5 Try.func8 closed
    (of_decide_eq_true (by kernel_rfl)) (by unfold Func.isWrapper; first | (rw [if_pos (by decide +kernel)]; kernel_rfl) | (rw [if_neg (by decide +kernel)]; exact ⟨rfl, rfl⟩))
    (fun os started H enc _ => lifted os started H enc)

theorem proved : Rows.TopTreesSaid :=
  over
end Go.Proofs.Ytjeafgnaoncphaa.topTrees
