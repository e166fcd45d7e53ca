/- The closed fact of the laws of havel.Make: the walk. Conditions: the listed variable holds its handle. -/
import Derived.Test.YtgjkefniknbdeaaDoorHavelMake
import Derived.Test.YtgjkefniknbdeaaDoorGraphFact
import Derived.Test.YtgjkefniknbdeaaDoorErr
import Derived.Test.YtgjkefniknbdeaaDoorLinesEq
import Derived.Test.YtgjkefniknbdeaaDoorLit
import Derived.Test.YtgjkefniknbdeaaDoorRefDeg
namespace Go.Proofs.YtgjkefniknbdeaaDoor
open Go.RowKit Gr

theorem ordN_eq {N : List Nat} {a : Nat} {T : List Nat} (h : T.Perm ((List.range N.length).filter fun i => decide (i ≠ a))) (hs : T.Pairwise (leN N)) : ordN N a = T :=
  ((ordN_perm N a).trans h.symm).eq_of_pairwise (fun _ _ _ _ h1 h2 => leN_anti h1 h2) (ordN_sorted N a) hs
theorem ho1 : ordN [1, 2, 1] 1 = [0, 2] := ordN_eq (List.Perm.refl _) (by decide)
theorem ho2 : ordN [1, 2, 2] 1 = [2, 0] := ordN_eq (List.Perm.swap 0 2 []) (by decide)
theorem ho3 : ordN [0, 0, 1] 2 = [0, 1] := ordN_eq (List.Perm.refl _) (by decide)
theorem ha1 : atUp [1, 2, 1] [1, 2, 1].length = 1 := by decide
theorem ha2 : atUp [1, 2, 2] [1, 2, 2].length = 1 := by decide
theorem ha3 : atUp [0, 0, 1] [0, 0, 1].length = 2 := by decide
theorem ha4 : atUp [0, 0, 0] [0, 0, 0].length = 0 := by decide
theorem ht1 : takeN [1, 2, 1] = [0, 2] := by unfold takeN; rw [ha1, ho1]; rfl
theorem ht2 : takeN [1, 2, 2] = [2, 0] := by unfold takeN; rw [ha2, ho2]; rfl
theorem ht3 : takeN [0, 0, 1] = [0] := by unfold takeN; rw [ha3, ho3]; rfl
theorem hn1 : nextN [1, 2, 1] = [0, 0, 0] := by unfold nextN; rw [ha1, ht1]; rfl
theorem hn2 : nextN [1, 2, 2] = [0, 0, 1] := by unfold nextN; rw [ha2, ht2]; rfl
theorem hfact1 : hav 5 [1, 2, 1] = some [(0, 1), (1, 2)] := by
  have h0 : hav 4 [0, 0, 0] = some [] := by rw [hav, ha4]; rfl
  rw [hav, ha1, ho1, ht1, hn1, h0]; rfl
theorem hfact2 : hav 6 [1, 2, 2] = none := by
  have h0 : hav 5 [0, 0, 1] = none := by rw [hav, ha3, ho3, ht3]; rfl
  rw [hav, ha2, ho2, ht2, hn2, h0]; rfl

set_option maxRecDepth 100000 in
set_option maxHeartbeats 2000000 in
theorem havelFact_any (w : World) (hh : Handle w) : Calls Tryd.prog 13 #[] w fun e w' => e = .returned (.bool true) ∧ Below w.heap.size w w' := by
  have K1 := fun v w (hr : Rd w v 3 (nats [1, 2, 1])) => make_ok v 2 [1, 2, 1] w hr rfl (by decide) (by decide)
  have K2 := fun v w (hr : Rd w v 3 (nats [1, 2, 2])) => make_ok v 2 [1, 2, 2] w hr rfl (by decide) (by decide)
  have e1 : hav ([1, 2, 1].sum + 1) [1, 2, 1] = some [(0, 1), (1, 2)] := hfact1
  have e2 : hav ([1, 2, 2].sum + 1) [1, 2, 2] = none := hfact2
  rw [e1] at K1
  rw [e2] at K2
  clear e1 e2
  go_enter Tryd.func13, Tryd.ntmps13
  go_wp2_with fail
  refine (K1 _ _ (ints_lit [1, 2, 1] rfl rfl rfl (by decide))).mono ?_
  rintro e w1 (⟨e, _⟩ | ⟨L1, a1, c1, e, rfl, o1, hB1⟩)
  · cases e
  cases e
  have hB1' := below_c (below_alloc' _ _) hB1
  have r1 : LinesRd w1 (.slice a1 2 c1) [(0, 1), (1, 2)] := rd_of_owns o1
  clear hB1 o1
  go_wp2_with fail
  refine (K2 _ _ (ints_lit [1, 2, 2] rfl rfl rfl (by decide))).mono ?_
  rintro e w2 (⟨_, rfl, hB2⟩ | ⟨_, _, _, e, _⟩)
  · have hB2' := below_c hB1' (below_c (below_alloc' _ _) hB2)
    have r2 := (r1.later (below_alloc' _ _)).later hB2
    clear hB2 hB1' r1
    go_wp2_with fail
    refine (errorSame 5 _ (by omega) (hh.later hB2')).mono ?_
    rintro e w3 ⟨rfl, hB3⟩
    have hB3' := below_c hB2' hB3
    have r3 := r2.later hB3
    clear hB3 hB2' r2
    go_wp2_with fail
    refine (lines_b _ _ [(0, 1), (1, 2)] [(0, 1), (1, 2)] _ (r3.later (below_alloc' _ _)) (lines_lit [(0, 1), (1, 2)] rfl rfl rfl (by decide))).mono ?_
    rintro e w4 ⟨rfl, hB4⟩
    rw [decide_eq_true rfl]
    have hB4' := below_c hB3' (below_c (below_alloc' _ _) hB4)
    go_wp2
    go_ret
    exact ⟨rfl, hB4'⟩
  · cases e
end Go.Proofs.YtgjkefniknbdeaaDoor
