/- A region that draws its order, by an invariant. Conditions: in each statement. -/
import Derived.Test.YtjeafgnaoncphaaFlex
namespace Go.Proofs.Ytjeafgnaoncphaa
open Go.RowKit

/-- every edge that binds leads back -/
def ivBack (ops : Array Oper) : Bool := (List.range ops.size).all fun i => match ops[i]? with | some o => o.guard.isNone && o.after.all fun e => !Region.binds .any e || decide (e.on < i) | none => true

theorem getD_set {L : Array Bool} {i : Nat} (h : i < L.size) (j : Nat) : (L.setIfInBounds i true).getD j false = (decide (j = i) || L.getD j false) := by
  by_cases e : j = i
  · subst e; simp [h]
  · have : i ≠ j := fun h => e h.symm
    simp [Array.getD_eq_getD_getElem?, this, e]

theorem getD_tf {L : Array Bool} {i : Nat} (h : i < L.size) : L.getD i true = L.getD i false := by simp [Array.getD_eq_getD_getElem?, h]

theorem any_inv {P : Program} {ops : Array Oper} {Q : Exit → Act → World → Prop} (I : Array Bool → Act → World → Prop) (hb : ivBack ops = true)
    (hstep : ∀ (L : Array Bool) (a : Act) (w : World) (i : Nat) (o : Oper), L.size = ops.size → I L a w → ops[i]? = some o → L.getD i false = false → (∀ e ∈ o.after, Region.binds .any e = true → L.getD e.on false = true) → o.wp P a w (I (L.setIfInBounds i true)) Q)
    (hend : ∀ (L : Array Bool) (a : Act) (w : World), (∀ i, i < ops.size → L.getD i false = true) → I L a w → Q .normal a w) :
    ∀ (fuel : Nat) (L : Array Bool) (a : Act) (w : World), L.size = ops.size → I L a w → (L.toList.countP (fun b => !b)) ≤ fuel → wpAny P .any ops Q fuel L a w := by
  have hall : ∀ (L : Array Bool), L.size = ops.size → Region.ready .any ops L = [] → ∀ i, i < ops.size → L.getD i false = true := by
    intro L hL hr i
    induction i using Nat.strongRecOn with
    | _ i ih =>
      intro hi
      cases hli : L.getD i false with
      | true => rfl
      | false =>
        exfalso
        have ho : ops[i]? = some ops[i] := by simp [hi]
        have hk := List.all_eq_true.1 hb i (List.mem_range.2 hi)
        rw [ho] at hk
        simp only [Bool.and_eq_true, Array.all_eq_true_iff_forall_mem, Bool.or_eq_true, Bool.not_eq_true', decide_eq_true_eq] at hk
        have : i ∈ Region.ready .any ops L := mem_ready.2 ⟨(getD_tf (by omega)).trans hli, ops[i], ho, fun e he hbe => by
          rcases hk.2 e he with h | h
          · rw [h] at hbe; cases hbe
          · exact ih e.on h (by omega)⟩
        rw [hr] at this
        cases this
  intro fuel
  induction fuel with
  | zero =>
    intro L a w hL hI hc
    have hz : ∀ i, i < ops.size → L.getD i false = true := by
      intro i hi
      have : L.toList.countP (fun b => !b) = 0 := by omega
      rw [List.countP_eq_zero] at this
      have hm : L[i] ∈ L.toList := by simp
      have := this _ hm
      simp at this
      simp [Array.getD_eq_getD_getElem?, show i < L.size by omega, this]
    refine ⟨?_, hend L a w hz hI⟩
    cases hr : Region.ready .any ops L with
    | nil => rfl
    | cons x xs =>
      exfalso
      have hx : x ∈ Region.ready .any ops L := by rw [hr]; exact List.mem_cons_self
      obtain ⟨h1, o, ho, _⟩ := mem_ready.1 hx
      have := hz x (Array.getElem?_eq_some_iff.1 ho).1
      rw [getD_tf (by rw [hL]; exact (Array.getElem?_eq_some_iff.1 ho).1), this] at h1; cases h1
  | succ fuel ih =>
    intro L a w hL hI hc
    refine ⟨fun hr => hend L a w (hall L hL hr) hI, fun i hi => ?_⟩
    obtain ⟨h1, o, ho, h2⟩ := mem_ready.1 hi
    have his : i < ops.size := (Array.getElem?_eq_some_iff.1 ho).1
    rw [getD_tf (by omega)] at h1
    have hg : o.guard = none := by
      have hk := List.all_eq_true.1 hb i (List.mem_range.2 his)
      rw [ho] at hk
      simp only [Bool.and_eq_true, Option.isNone_iff_eq_none] at hk
      exact hk.1
    unfold wpOp
    simp only [ho]
    rw [if_pos (by simp [Region.wanted, hg])]
    refine .inl (Oper.wp_mono (fun a w hIn => ih _ a w (by simpa using hL) hIn ?_) (hstep L a w i o hL hI ho h1 h2))
    have hlt : i < L.toList.length := by simp; omega
    have e : (L.setIfInBounds i true).toList = L.toList.set i true := by simp
    rw [e]
    have h3 : L.toList = L.toList.take i ++ (false :: L.toList.drop (i + 1)) := by
      have := List.take_append_drop i L.toList
      rw [List.drop_eq_getElem_cons hlt] at this
      have hf : L.toList[i] = false := by
        simp [Array.getD_eq_getD_getElem?, show i < L.size by omega] at h1
        simpa using h1
      rw [hf] at this
      exact this.symm
    have h4 : L.toList.set i true = L.toList.take i ++ (true :: L.toList.drop (i + 1)) := by
      rw [List.set_eq_take_append_cons_drop, if_pos hlt]
    rw [h4]
    rw [h3] at hc
    simp only [List.countP_append, List.countP_cons] at hc ⊢
    simp at hc ⊢
    omega

/-- the region, walked plainly, by an invariant -/
theorem region_inv {P : Program} {id : Nat} {l : List Oper} {Q : Exit → Act → World → Prop} {a : Act} {w : World} (I : Array Bool → Act → World → Prop) (hm : P.follows .mixedOrders = true) (hb : ivBack l.toArray = true)
    (h0 : I (Array.replicate l.toArray.size false) a { w with drawn := w.drawn + 1 })
    (hstep : ∀ (L : Array Bool) (a : Act) (w : World) (i : Nat) (o : Oper), L.size = l.length → I L a w → l[i]? = some o → L.getD i false = false → (∀ e ∈ o.after, Region.binds .any e = true → L.getD e.on false = true) → o.wp P a w (I (L.setIfInBounds i true)) Q)
    (hend : ∀ (L : Array Bool) (a : Act) (w : World), (∀ i, i < l.length → L.getD i false = true) → I L a w → Q .normal a w) : (Code.region id l.toArray true).wp P Q a w := by
  refine wp_region_any hm (any_inv I hb (fun L a w i o h1 h2 h3 h4 h5 => hstep L a w i o (by simpa using h1) h2 (by rw [← h3, List.getElem?_toArray]) h4 h5) (fun L a w h1 h2 => hend L a w (by simpa using h1) h2) _ _ _ _ (by simp) h0 ?_)
  refine Nat.le_trans (List.countP_le_length) ?_
  simp

end Go.Proofs.Ytjeafgnaoncphaa
