/- EliasBack: the statement proved: for every input the law returns true and its arguments read as before. Conditions: those of the given row. -/
import Derived.Test.YtfpignebafgloaaEliasBack
import Derived.Test.YtfpignebafgloaaOpen
import Derived.Test.YtfpignebafgloaaFacts
import Derived.Test.YtfpignebafgloaaBulk
namespace Go.Proofs.Ytfpignebafgloaa.eliasBack
open Go.ChangeShapes Go.WideShapes Go.ChangeAt Go.RowKit
open Go.Proofs.Ytfpignebafgloaa

theorem own : ownKnob Try.prog.godebug = none := by kernel_rfl

set_option maxRecDepth 100000 in
theorem lifted (os : Os) (started : os.Started) (H : Type) (enc : TypeId × Value → H) (F : Stop.Interp) :
    ReturnsInHanded {} Try.checked os 10 .any ((Rows.OpenSpec.upto Rows.eliasBackSpec).pre6 enc Try.prog Try.f10 Rows.eliasBackUptoRow.domain false) (((Rows.OpenSpec.upto Rows.eliasBackSpec).at F).post enc Try.prog Try.f10 false true false false) := by
  refine returnsInHanded_of_cond (C := Try.checked) (s := Rows.OpenSpec.upto Rows.eliasBackSpec) (k := Rows.uptoSmall) rfl own started (by kernel_rfl) Try.func10
    (OpenSpec.witness (enc := enc) (C := Try.checked) (s := Rows.OpenSpec.upto Rows.eliasBackSpec) (k := Rows.uptoSmall) rfl false ⟨#[], #[.slice none 0 0], []⟩ 8 (by kernel_rfl) (by kernel_rfl) (by kernel_rfl)
      (x := ([.nil], [], [])) (by kernel_rfl) rfl (by kernel_rfl)) ?_
  intro W base args ds gs before hval0 hW _hcnd hbulk _
  have hval : ∀ (j : Nat) t v, Try.f10.params[j]? = some t → args[j]? = some v → Value.okWide Try.prog W .any base t v := hval0
  have hW' := hW
  obtain ⟨p, q, hA0, hV, rfl, hfz, hnd⟩ := hW
  have hA : DataW.TrodAll enc Try.prog W 0 (fun _ => true) true Try.f10.params.toList args.toList ds p := hA0
  rw [Try.params10] at hA hval
  obtain ⟨v0, vs0, d0, ds0, p0, q0, hargs, rfl, rfl, h0, r0⟩ := trodAll_cons hA
  obtain ⟨rfl, rfl, rfl⟩ := trodAll_nil r0
  obtain rfl : args = #[v0] := by cases args; simp_all
  obtain ⟨rfl, rfl⟩ := trodVars_none hV
  have k0 := h0
  have lt0 : ∀ x ∈ p0, x.block < W.heap.size := by obtain ⟨m, hm⟩ := k0; exact DataW.trod_lt m _ _ _ hm
  obtain ⟨x0, hx0, hs0⟩ := open_intsB (hval 0 27 v0 rfl rfl) h0
  have hq0 : x0.length ≤ 1048576 := Nat.le_trans hs0 (Nat.le_trans (bulk_part (by simp)) (of_decide_eq_true hbulk))
  refine (eliasBack_walk hx0 hq0 (w := W)).mono fun e W' ⟨he, bel⟩ => ?_
  subst he
  exact ⟨_, rfl, _, _, _, [], _, [], hW', trodAll_mk1 (shut_bool Try.underlying4 _), (trodAll_cons_mk (Below.trod laidOut (by kernel_rfl) (of_decide_eq_true (by kernel_rfl)) k0 bel lt0) trodAll_mk0), rfl, bel.frame _, fun h => by cases h⟩

theorem k1 : Rows.eliasBackUptoRow.inPlace = Try.prog.inPlace 10 := by kernel_rfl
theorem k2 : Rows.eliasBackUptoRow.unfollowed = Try.prog.unfollowed 10 := by kernel_rfl
theorem k3 : Rows.eliasBackUptoRow.recurses = Try.prog.recurses 10 := by kernel_rfl
theorem k4 : Rows.eliasBackUptoRow.named = Try.prog.varsNamed 10 := by kernel_rfl
theorem k5 : Try.prog.funcNamed Rows.eliasBackUptoRow.func = some 10 := by kernel_rfl
theorem closed : joinedFacts Try.prog 10 Try.f10 (Rows.OpenSpec.upto Rows.eliasBackSpec).bare Rows.eliasBackUptoRow = true := by
  unfold joinedFacts
  rw [laidOut, mapsRowed_true, stops_nil, stopKnobs_nil, plainKeys_true, stopsHeard_true, mayEnter_true, lifts_false, make_cut, ← k1, ← k2, ← k3, ← k4]
  refine Eq.trans ?_ (Eq.refl _)
  kernel_rfl

theorem over : Rows.eliasBackUptoRow.holds Try.pinned (Rows.OpenSpec.upto Rows.eliasBackSpec) :=
  OpenClaim.holds_of_cond 10 Try.f10 rfl rfl rfl rfl rfl rfl rfl ⟨rfl, rfl, rfl, rfl, rfl⟩ rfl rfl rfl rfl rfl k5 Try.func10 closed
    (of_decide_eq_true (by kernel_rfl)) (by unfold Func.isWrapper; first | (rw [if_pos (by decide +kernel)]; kernel_rfl) | (rw [if_neg (by decide +kernel)]; exact ⟨rfl, rfl⟩))
    (fun os started H enc _ F => lifted os started H enc F)

theorem proved : Rows.EliasBackUptoSaid :=
  over
end Go.Proofs.Ytfpignebafgloaa.eliasBack
