/- GapsRuns: the statement proved: for every input the law returns true and its arguments read as before. Conditions: those of the given row. -/
import Derived.Test.YtnnhidbnjlpjiaaGapsRuns
import Derived.Test.YtnnhidbnjlpjiaaOpen
import Derived.Test.YtnnhidbnjlpjiaaFacts
namespace Go.Proofs.Ytnnhidbnjlpjiaa.gapsRuns
open Go.ChangeShapes Go.WideShapes Go.ChangeAt Go.RowKit
open Go.Proofs.Ytnnhidbnjlpjiaa

theorem own : ownKnob Try.prog.godebug = none := by kernel_rfl

set_option maxRecDepth 100000 in
theorem lifted (os : Os) (started : os.Started) (H : Type) (enc : TypeId × Value → H) :
    ReturnsInHanded {} Try.checked os 6 .any (Rows.gapsRunsSpec.pre6 enc Try.prog Try.f6 Rows.gapsRunsRow.domain false) (Rows.gapsRunsSpec.post enc Try.prog Try.f6 false true false false) := by
  refine returnsInHanded_of_change (C := Try.checked) own started (by kernel_rfl) Try.func6
    (ChangeSpec.witness6 (enc := enc) (C := Try.checked) false ⟨#[], #[.slice none 0 0], []⟩ 8 (by kernel_rfl) (by kernel_rfl) (by kernel_rfl) (by kernel_rfl)) ?_
  intro W base args ds gs before hval0 hW _hcnd _
  have hval : ∀ (j : Nat) t v, Try.f6.params[j]? = some t → args[j]? = some v → Value.okWide Try.prog W .any base t v := hval0
  have hW' := hW
  obtain ⟨p, q, hA0, hV, rfl, hfz, hnd⟩ := hW
  have hA : DataW.TrodAll enc Try.prog W 0 (fun _ => true) true Try.f6.params.toList args.toList ds p := hA0
  rw [Try.params6] at hA hval
  obtain ⟨v0, vs0, d0, ds0, p0, q0, hargs, rfl, rfl, h0, r0⟩ := trodAll_cons hA
  obtain ⟨rfl, rfl, rfl⟩ := trodAll_nil r0
  obtain rfl : args = #[v0] := by cases args; simp_all
  obtain ⟨rfl, rfl⟩ := trodVars_none hV
  have k0 := h0
  have lt0 : ∀ x ∈ p0, x.block < W.heap.size := by obtain ⟨m, hm⟩ := k0; exact DataW.trod_lt m _ _ _ hm
  obtain ⟨x0, hx0⟩ := open_intsR (hval 0 26 v0 rfl rfl) h0
  refine (gapsRuns_any hx0 (w := W)).mono fun e W' ⟨he, bel⟩ => ?_
  subst he
  exact ⟨_, rfl, _, _, _, [], _, [], hW', trodAll_mk1 (shut_bool Try.underlying4 _), (trodAll_cons_mk (Below.trod laidOut (by kernel_rfl) (of_decide_eq_true (by kernel_rfl)) k0 bel lt0) trodAll_mk0), rfl, bel.frame _, fun h => by cases h⟩

theorem k1 : Rows.gapsRunsRow.inPlace = Try.prog.inPlace 6 := by kernel_rfl
theorem k2 : Rows.gapsRunsRow.unfollowed = Try.prog.unfollowed 6 := by kernel_rfl
theorem k3 : Rows.gapsRunsRow.recurses = Try.prog.recurses 6 := by kernel_rfl
theorem k4 : Rows.gapsRunsRow.named = Try.prog.varsNamed 6 := by kernel_rfl
theorem k5 : Try.prog.funcNamed Rows.gapsRunsRow.func = some 6 := by kernel_rfl
theorem closed : joinedFacts Try.prog 6 Try.f6 Rows.gapsRunsSpec Rows.gapsRunsRow = true := by
  unfold joinedFacts
  rw [laidOut, mapsRowed_true, stops_nil, stopKnobs_nil, plainKeys_true, stopsHeard_true, mayEnter_true, lifts_false, make_cut, ← k1, ← k2, ← k3, ← k4]
  refine Eq.trans ?_ (Eq.refl _)
  kernel_rfl

theorem over : Rows.gapsRunsRow.holds Try.pinned (OpenSpec.ofChange Rows.gapsRunsSpec) :=
  OpenClaim.holds_of_wide 6 Try.f6 rfl rfl rfl rfl rfl rfl rfl ⟨rfl, rfl, rfl, rfl, rfl⟩ rfl rfl rfl rfl rfl k5 Try.func6 closed
    (of_decide_eq_true (by kernel_rfl)) (by unfold Func.isWrapper; first | (rw [if_pos (by decide +kernel)]; kernel_rfl) | (rw [if_neg (by decide +kernel)]; exact ⟨rfl, rfl⟩))
    (fun os started H enc _ => lifted os started H enc)

theorem proved : Rows.GapsRunsSaid :=
  over
end Go.Proofs.Ytnnhidbnjlpjiaa.gapsRuns
