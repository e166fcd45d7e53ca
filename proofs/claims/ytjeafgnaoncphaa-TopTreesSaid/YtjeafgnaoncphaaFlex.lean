/- A region that draws its order and holds several stores: operations that give the same at every stage at which they may come up, and stores that come one behind the other: one walk in the order of the text serves every order. Conditions: in each statement. -/
import Derived.Test.YtjeafgnaoncphaaBridge
namespace Go.Proofs.Ytjeafgnaoncphaa

/-- the temporaries that an operation reads -/
def fxReads (o : Oper) : List Tmp := o.op.operands.toList.filterMap fun | .tmp t => some t | _ => none
def fxDst (ops : Array Oper) (i : Nat) : Option Tmp := (ops[i]?).bind (·.dst)
/-- j waits for i, over others -/
def fxAnc (ops : Array Oper) (i : Nat) : Nat → Nat → Bool
  | 0, _ => false
  | f + 1, j => Region.waitsFor .any ops j i || (List.range ops.size).any fun m => Region.waitsFor .any ops j m && fxAnc ops i f m

def fxData (ops : Array Oper) : Bool :=
  (List.range ops.size).all fun i => (((ops[i]?).map fxReads).getD []).all fun d => (List.range ops.size).all fun j => fxDst ops j != some d || (decide (j < i) && Region.waitsFor .any ops i j)
def fxApart (ops : Array Oper) : Bool :=
  (List.range ops.size).all fun i => (List.range ops.size).all fun j => decide (i = j) || fxDst ops i == none || fxDst ops i != fxDst ops j
def fxPlain (ops : Array Oper) : Bool :=
  Region.noSelect ops && (List.range ops.size).all fun i => match ops[i]? with
    | some o => o.guard.isNone && o.after.all fun e => !Region.binds .any e || decide (e.on < i)
    | none => true
def fxKinds (ops : Array Oper) (kinds : List (Bool × Nat)) (m : Nat) : Bool :=
  (decide (m = 0) || (List.range ops.size).any fun i => kinds[i]? == some (false, m - 1)) &&
  (List.range ops.size).all fun i => match kinds[i]? with
    | some (true, h) => decide (m ≤ h) || (List.range ops.size).any fun i' => kinds[i']? == some (false, h) && fxAnc ops i 8 i'
    | some (false, j) => decide (j < m) && (decide (j = 0) || (List.range ops.size).any fun i' => kinds[i']? == some (false, j - 1) && Region.waitsFor .any ops i i') &&
        (List.range ops.size).all fun i' => decide (i = i') || kinds[i']? != some (false, j)
    | none => false

/-- what an operation gives that keeps the world -/
def fxGives (P : Program) (o : Oper) (a : Act) (w : World) (v : Value) : Prop :=
  (execOp a.eval o).run P w = .ok (.value v) w ∨ ((execOp a.eval o).run P w = .ok .skip w ∧ v = undef) ∨ ∃ f args, (execOp a.eval o).run P w = .ok (.enter f args) w ∧ Calls P f args w fun e w' => e = .returned v ∧ w = w'

/-- the walk in the order of the text -/
def fxRun (P : Program) (V : Nat → World) (Q : Act → Prop) : List Oper → List (Bool × Nat) → Act → Prop
  | [], _, a => Q a
  | o :: rest, (true, h) :: ks, a => ∃ a', (∀ j, j ≤ h → ∃ v, fxGives P o a (V j) v ∧ a' = a.put o.dst v) ∧ fxRun P V Q rest ks a'
  | o :: rest, (false, j) :: ks, a => (execOp a.eval o).run P (V j) = .ok .skip (V (j + 1)) ∧ o.dst = none ∧ fxRun P V Q rest ks a
  | _ :: _, [], _ => False

theorem fx_extract {P : Program} {V : Nat → World} {Q : Act → Prop} : ∀ (l : List Oper) (ks : List (Bool × Nat)) (a : Act), fxRun P V Q l ks a →
    ∃ As : Nat → Act, As 0 = a ∧ (∀ i o h, l[i]? = some o → ks[i]? = some (true, h) → ∀ j, j ≤ h → ∃ v, fxGives P o (As i) (V j) v ∧ As (i + 1) = (As i).put o.dst v) ∧
      (∀ i o j, l[i]? = some o → ks[i]? = some (false, j) → (execOp (As i).eval o).run P (V j) = .ok .skip (V (j + 1)) ∧ o.dst = none ∧ As (i + 1) = As i) ∧ Q (As l.length) := by
  intro l
  induction l with
  | nil => intro ks a h; exact ⟨fun _ => a, rfl, by simp, by simp, h⟩
  | cons o rest ih =>
    intro ks a h
    match ks, h with
    | (true, b) :: ks, h =>
      obtain ⟨v, h1, h2⟩ := h
      obtain ⟨As, g0, g1, g2, g3⟩ := ih ks _ h2
      refine ⟨fun i => match i with | 0 => a | i + 1 => As i, rfl, ?_, ?_, g3⟩
      · intro i o' b' ho hk
        cases i with
        | zero => simp at ho hk; obtain rfl := ho; obtain rfl := hk; intro j hj; obtain ⟨v', k1, k2⟩ := h1 j hj; exact ⟨v', k1, g0.trans k2⟩
        | succ i => exact g1 i o' b' (by simpa using ho) (by simpa using hk)
      · intro i o' j ho hk
        cases i with
        | zero => simp at hk
        | succ i => exact g2 i o' j (by simpa using ho) (by simpa using hk)
    | (false, b) :: ks, h =>
      obtain ⟨h0, h1, h2⟩ := h
      obtain ⟨As, g0, g1, g2, g3⟩ := ih ks _ h2
      refine ⟨fun i => match i with | 0 => a | i + 1 => As i, rfl, ?_, ?_, g3⟩
      · intro i o' b' ho hk
        cases i with
        | zero => simp at hk
        | succ i => exact g1 i o' b' (by simpa using ho) (by simpa using hk)
      · intro i o' j ho hk
        cases i with
        | zero => simp at ho hk; obtain rfl := ho; obtain rfl := hk; exact ⟨h0, h1, g0⟩
        | succ i => exact g2 i o' j (by simpa using ho) (by simpa using hk)

section
variable {ops : Array Oper}

theorem fx_all {p : Nat → Bool} (h : ((List.range ops.size).all p) = true) {i : Nat} (hi : i < ops.size) : p i = true := List.all_eq_true.1 h i (List.mem_range.2 hi)

/-- whatever an operation that is listed waits for is listed -/
def fxClosed (ops : Array Oper) (listed : Array Bool) : Prop := ∀ j o, ops[j]? = some o → listed.getD j false = true → ∀ e ∈ o.after, Region.binds .any e = true → listed.getD e.on false = true

theorem fx_waits {listed : Array Bool} (h : fxClosed ops listed) {i j : Nat} (hw : Region.waitsFor .any ops j i = true) (hj : listed.getD j false = true) : listed.getD i false = true := by
  obtain ⟨o, ho, e, he, hb, rfl⟩ := Region.waitsFor_spec hw
  exact h j o ho hj e he hb
theorem fx_anc {listed : Array Bool} (h : fxClosed ops listed) {i : Nat} : ∀ (f j : Nat), fxAnc ops i f j = true → listed.getD j false = true → listed.getD i false = true := by
  intro f
  induction f with
  | zero => intro j hj; simp [fxAnc] at hj
  | succ f ih =>
    intro j hj hl
    simp only [fxAnc, Bool.or_eq_true, List.any_eq_true, Bool.and_eq_true] at hj
    rcases hj with hj | ⟨m, _, h1, h2⟩
    · exact fx_waits h hj hl
    · exact ih m h2 (fx_waits h h1 hl)
theorem fx_ready_waits {listed : Array Bool} {i j : Nat} (hr : j ∈ Region.ready .any ops listed) (hw : Region.waitsFor .any ops j i = true) : listed.getD i false = true := by
  obtain ⟨o, ho, e, he, hb, rfl⟩ := Region.waitsFor_spec hw
  obtain ⟨_, o', ho', hall⟩ := mem_ready.1 hr
  have : o = o' := Option.some.inj (ho.symm.trans ho')
  subst this
  exact hall e he hb

theorem getD_set_same {listed : Array Bool} {i : Nat} (h : i < listed.size) : (listed.setIfInBounds i true).getD i false = true := by simp [h]

theorem put_size (a : Act) (d : Option Tmp) (v : Value) : (a.put d v).tmps.size = a.tmps.size := by cases d <;> simp [Act.put]
theorem put_defers' (a : Act) (d : Option Tmp) (v : Value) : (a.put d v).defers = a.defers := by cases d <;> rfl
theorem put_ne (a : Act) {d : Option Tmp} {t : Tmp} (v : Value) (h : d ≠ some t) : (a.put d v).tmps[t]? = a.tmps[t]? := by
  cases d with
  | none => rfl
  | some d => simp only [Act.put]; rw [Array.getElem?_setIfInBounds_ne]; exact fun e => h (by rw [e])
theorem put_same (a b : Act) {d : Tmp} (v : Value) (h : a.tmps.size = b.tmps.size) : (a.put (some d) v).tmps[d]? = (b.put (some d) v).tmps[d]? := by
  simp only [Act.put]
  rw [Array.getElem?_setIfInBounds, Array.getElem?_setIfInBounds]
  simp [h]
end

theorem any_flex {P : Program} {l : List Oper} {Q : Exit → Act → World → Prop} {a : Act} {V : Nat → World} (kinds : List (Bool × Nat)) (m : Nat) (hlen : kinds.length = l.length)
    (hC1 : fxData l.toArray = true) (hC2 : fxApart l.toArray = true) (hC3 : fxPlain l.toArray = true) (hC4 : fxKinds l.toArray kinds m = true)
    (h : fxRun P V (fun a => Q .normal a (V m)) l kinds a) : wpAny P .any l.toArray Q l.toArray.size (Array.replicate l.toArray.size false) a (V 0) := by
  obtain ⟨As, hA0, hAy, hAs, hAQ⟩ := fx_extract l kinds a h
  have hls : l.toArray.size = l.length := by simp
  have hget : ∀ i : Nat, l.toArray[i]? = l[i]? := fun i => by rw [List.getElem?_toArray]
  simp only [fxPlain, Bool.and_eq_true] at hC3
  obtain ⟨hsel, hC3⟩ := hC3
  simp only [fxKinds, Bool.and_eq_true] at hC4
  obtain ⟨hC7, hC4⟩ := hC4
  generalize hops : l.toArray = ops at *
  have hkind : ∀ i, i < ops.size → ∃ k, kinds[i]? = some k := fun i hi => ⟨kinds[i]'(by omega), by simp [show i < kinds.length by omega]⟩
  -- the frames of the walk
  have hsz : ∀ i, i ≤ l.length → (As i).tmps.size = a.tmps.size ∧ (As i).defers = a.defers := by
    intro i
    induction i with
    | zero => intro _; rw [hA0]; exact ⟨rfl, rfl⟩
    | succ i ih =>
      intro hi
      obtain ⟨⟨b, hb⟩, hk⟩ := hkind i (by omega)
      have ho : l[i]? = some l[i] := by simp [show i < l.length by omega]
      cases b with
      | true =>
        obtain ⟨v, _, e⟩ := hAy i _ hb ho hk 0 (Nat.zero_le _)
        rw [e, put_size, put_defers']; exact ih (by omega)
      | false =>
        obtain ⟨_, _, e⟩ := hAs i _ hb ho hk
        rw [e]; exact ih (by omega)
  have hkeep1 : ∀ i, i < l.length → ∀ d : Tmp, fxDst ops i ≠ some d → (As (i + 1)).tmps[d]? = (As i).tmps[d]? := by
    intro i hi d hd
    obtain ⟨⟨b, hb⟩, hk⟩ := hkind i (by omega)
    have ho : l[i]? = some l[i] := by simp [hi]
    have hd' : (l[i]).dst ≠ some d := by
      intro e; apply hd; unfold fxDst; rw [hget, ho]; exact e
    cases b with
    | true =>
      obtain ⟨v, _, e⟩ := hAy i _ hb ho hk 0 (Nat.zero_le _)
      rw [e]; exact put_ne _ v hd'
    | false =>
      obtain ⟨_, _, e⟩ := hAs i _ hb ho hk
      rw [e]
  have hkeep : ∀ n i, i + n ≤ l.length → ∀ d : Tmp, (∀ j, i ≤ j → j < i + n → fxDst ops j ≠ some d) → (As (i + n)).tmps[d]? = (As i).tmps[d]? := by
    intro n
    induction n with
    | zero => intro i _ d _; rfl
    | succ n ih =>
      intro i hi d hd
      rw [← Nat.add_assoc, hkeep1 (i + n) (by omega) d (hd (i + n) (by omega) (by omega))]
      exact ih i (by omega) d (fun j h1 h2 => hd j h1 (by omega))
  have hapart : ∀ i j d, fxDst ops i = some d → fxDst ops j = some d → i = j := by
    intro i j d h1 h2
    have hi : i < ops.size := by
      unfold fxDst at h1
      cases ho : ops[i]? with
      | none => rw [ho] at h1; simp at h1
      | some o => exact (Array.getElem?_eq_some_iff.1 ho).1
    have hj : j < ops.size := by
      unfold fxDst at h2
      cases ho : ops[j]? with
      | none => rw [ho] at h2; simp at h2
      | some o => exact (Array.getElem?_eq_some_iff.1 ho).1
    have := fx_all (fx_all hC2 hi) hj
    simp [h1, h2] at this
    exact this
  have hdst : ∀ j d, fxDst ops j = some d → j < l.length := by
    intro j d h2
    unfold fxDst at h2
    cases ho : ops[j]? with
    | none => rw [ho] at h2; simp at h2
    | some o => have := (Array.getElem?_eq_some_iff.1 ho).1; omega
  -- the run
  suffices key : ∀ (fuel : Nat) (listed : Array Bool) (a' : Act) (k : Nat), listed.size = ops.size → fxClosed ops listed → a'.tmps.size = a.tmps.size → a'.defers = a.defers →
      (∀ j d, fxDst ops j = some d → listed.getD j false = true → a'.tmps[d]? = (As (j + 1)).tmps[d]?) → (∀ d, (∀ j, fxDst ops j = some d → listed.getD j false = false) → a'.tmps[d]? = a.tmps[d]?) →
      k ≤ m → (∀ i j, i < ops.size → kinds[i]? = some (false, j) → (listed.getD i false = true ↔ j < k)) → ops.size ≤ fuel + (List.range ops.size).countP (fun i => listed.getD i false) →
      wpAny P .any ops Q fuel listed a' (V k) by
    have h0 : ∀ i, (Array.replicate ops.size false).getD i false = false := getD_replicate_false _
    refine key ops.size _ a 0 (by simp) (fun j o _ hl => by rw [h0] at hl; cases hl) rfl rfl (fun j d _ hl => by rw [h0] at hl; cases hl) (fun _ _ => rfl) (Nat.zero_le _) (fun i j _ _ => by rw [h0]; simp) (by omega)
  -- at the end
  have fin : ∀ (listed : Array Bool) (a' : Act) (k : Nat), listed.size = ops.size → a'.tmps.size = a.tmps.size → a'.defers = a.defers →
      (∀ j d, fxDst ops j = some d → listed.getD j false = true → a'.tmps[d]? = (As (j + 1)).tmps[d]?) → (∀ d, (∀ j, fxDst ops j = some d → listed.getD j false = false) → a'.tmps[d]? = a.tmps[d]?) →
      k ≤ m → (∀ i j, i < ops.size → kinds[i]? = some (false, j) → (listed.getD i false = true ↔ j < k)) → (∀ i, i < ops.size → listed.getD i false = true) → Q .normal a' (V k) := by
    intro listed a' k hL hS hD hI1 hI2 hkm hK hall
    have hk : k = m := by
      rcases Nat.eq_zero_or_pos m with h0 | h0
      · omega
      · simp only [Bool.or_eq_true, decide_eq_true_eq, List.any_eq_true, List.mem_range, beq_iff_eq] at hC7
        rcases hC7 with h1 | ⟨i, h1, h2⟩
        · omega
        · have := (hK i _ h1 h2).1 (hall i h1)
          omega
    subst hk
    have ha : a' = As l.length := by
      obtain ⟨s1, s2⟩ := hsz l.length (Nat.le_refl _)
      have ht : a'.tmps = (As l.length).tmps := by
        apply Array.ext_getElem?
        intro d
        by_cases hx : ∃ j, fxDst ops j = some d
        · obtain ⟨j, hj⟩ := hx
          have hjl := hdst j d hj
          rw [hI1 j d hj (hall j (by omega))]
          have := hkeep (l.length - (j + 1)) (j + 1) (by omega) d (fun i h1 h2 e => by have := hapart i j d e hj; omega)
          rw [show j + 1 + (l.length - (j + 1)) = l.length by omega] at this
          exact this.symm
        · rw [hI2 d (fun j hj => absurd ⟨j, hj⟩ hx)]
          have := hkeep l.length 0 (by omega) d (fun j _ _ e => hx ⟨j, e⟩)
          rw [Nat.zero_add, hA0] at this
          exact this.symm
      have hd : a'.defers = (As l.length).defers := hD.trans s2.symm
      cases a'; cases hAs' : As l.length
      rw [hAs'] at ht hd
      simp only at ht hd
      subst ht hd
      rfl
    rw [ha]
    exact hAQ
  have notall : ∀ (listed : Array Bool), listed.size = ops.size → Region.ready .any ops listed = [] → ∀ i, i < ops.size → listed.getD i false = true := by
    intro listed hL hr i
    induction i using Nat.strongRecOn with
    | _ i ih =>
      intro hi
      cases hl : listed.getD i false with
      | true => rfl
      | false =>
        exfalso
        have hmem : i ∈ Region.ready .any ops listed := by
          rw [mem_ready]
          have ho : ops[i]? = some ops[i] := by simp [hi]
          refine ⟨getD_in (by omega) hl, _, ho, fun e he hb => ?_⟩
          have h3 := fx_all hC3 hi
          simp only [ho] at h3
          simp only [Bool.and_eq_true] at h3
          have h4 := (Array.all_eq_true_iff_forall_mem.1 h3.2) e he
          simp [hb] at h4
          exact ih e.on h4 (by omega)
        rw [hr] at hmem
        cases hmem
  intro fuel
  induction fuel with
  | zero =>
    intro listed a' k hL hcl hS hD hI1 hI2 hkm hK hcnt
    have hall : ∀ i, i < ops.size → listed.getD i false = true := by
      have h1 : (List.range ops.size).countP (fun i => listed.getD i false) = (List.range ops.size).length := by
        have := List.countP_le_length (p := fun i => listed.getD i false) (l := List.range ops.size)
        simp at this hcnt ⊢; omega
      intro i hi
      exact List.countP_eq_length.1 h1 i (List.mem_range.2 hi)
    refine ⟨?_, fin listed a' k hL hS hD hI1 hI2 hkm hK hall⟩
    rw [List.eq_nil_iff_forall_not_mem]
    intro i hi
    obtain ⟨h1, o, ho, _⟩ := mem_ready.1 hi
    have := hall i (Array.getElem?_eq_some_iff.1 ho).1
    rw [getD_both h1] at this
    cases this
  | succ fuel ih =>
    intro listed a' k hL hcl hS hD hI1 hI2 hkm hK hcnt
    refine ⟨fun hr => fin listed a' k hL hS hD hI1 hI2 hkm hK (notall listed hL hr), fun i hr => ?_⟩
    obtain ⟨hun, o, ho, hpre⟩ := mem_ready.1 hr
    have hi : i < ops.size := (Array.getElem?_eq_some_iff.1 ho).1
    have hol : l[i]? = some o := by rw [← hget]; exact ho
    have hunf := getD_both hun
    have h3 := fx_all hC3 hi
    simp only [ho, Bool.and_eq_true] at h3
    have hg : o.guard = none := by simpa using h3.1
    have hw : Region.wanted o (yielded ops a'.tmps) = true := by simp [Region.wanted, hg]
    -- what it reads is what it reads in the walk
    have hev : execOp a'.eval o = execOp (As i).eval o := by
      refine execOp_congr o (fun cs b => Region.noSelect_spec hsel i o cs b ho) fun x hx => ?_
      cases x with
      | tmp d =>
        show a'.tmps.getD d undef = (As i).tmps.getD d undef
        have hd : a'.tmps[d]? = (As i).tmps[d]? := by
          by_cases hx2 : ∃ j, fxDst ops j = some d
          · obtain ⟨j, hj⟩ := hx2
            have hjl := hdst j d hj
            have h1 := fx_all hC1 hi
            simp only [ho, Option.map_some, Option.getD_some] at h1
            have hdm : d ∈ fxReads o := by
              unfold fxReads
              rw [List.mem_filterMap]
              exact ⟨.tmp d, by simpa using hx, rfl⟩
            have h2 := fx_all (List.all_eq_true.1 h1 d hdm) (show j < ops.size by omega)
            simp [hj] at h2
            rw [hI1 j d hj (fx_ready_waits hr h2.2)]
            have := hkeep (i - (j + 1)) (j + 1) (by omega) d (fun i' g1 g2 e => by have := hapart i' j d e hj; omega)
            rw [show j + 1 + (i - (j + 1)) = i by omega] at this
            exact this.symm
          · rw [hI2 d (fun j hj => absurd ⟨j, hj⟩ hx2)]
            have := hkeep i 0 (by omega) d (fun j _ _ e => hx2 ⟨j, e⟩)
            rw [Nat.zero_add, hA0] at this
            exact this.symm
        simp only [Array.getD_eq_getD_getElem?, hd]
      | const v => rfl
      | global g => rfl
      | func f => rfl
    -- what stands behind it
    have hcl' : fxClosed ops (listed.setIfInBounds i true) := by
      intro j oj hoj hl e he hb
      by_cases hij : i = j
      · subst hij
        have : oj = o := Option.some.inj (hoj.symm.trans ho)
        subst this
        exact getD_set_true (hpre e he hb)
      · rw [getD_set_ne false hij] at hl
        exact getD_set_true (hcl j oj hoj hl e he hb)
    have hcnt' : ops.size ≤ fuel + (List.range ops.size).countP (fun j => (listed.setIfInBounds i true).getD j false) := by
      have hlt : (List.range ops.size).countP (fun j => listed.getD j false) < (List.range ops.size).countP (fun j => (listed.setIfInBounds i true).getD j false) := by
        have hmem : i ∈ List.range ops.size := List.mem_range.2 hi
        obtain ⟨s, t, hst⟩ := List.append_of_mem hmem
        rw [hst]
        simp only [List.countP_append, List.countP_cons]
        rw [getD_set_same (by omega), hunf]
        have m1 : s.countP (fun j => listed.getD j false) ≤ s.countP (fun j => (listed.setIfInBounds i true).getD j false) := List.countP_mono_left fun j _ hj => getD_set_true hj
        have m2 : t.countP (fun j => listed.getD j false) ≤ t.countP (fun j => (listed.setIfInBounds i true).getD j false) := List.countP_mono_left fun j _ hj => getD_set_true hj
        simp only [Bool.false_eq_true, if_false, if_true]
        omega
      omega
    obtain ⟨⟨b, hb⟩, hk⟩ := hkind i hi
    have h4 := fx_all hC4 hi
    simp only [hk] at h4
    unfold wpOp
    simp only [ho]
    rw [if_pos hw]
    refine .inl ?_
    unfold Oper.wp
    rw [hev]
    cases b with
    | true =>
      have hkb : k ≤ hb := by
        rcases Nat.lt_or_ge hb k with hlt | hge
        · exfalso
          simp only [Bool.or_eq_true, decide_eq_true_eq, List.any_eq_true, List.mem_range, Bool.and_eq_true, beq_iff_eq] at h4
          rcases h4 with h4 | ⟨i', h5, h6, h7⟩
          · omega
          · have := fx_anc hcl 8 i' h7 ((hK i' hb h5 h6).2 hlt)
            rw [hunf] at this; cases this
        · exact hge
      obtain ⟨v, hv, hnext⟩ := hAy i o hb hol hk k hkb
      have hrest : wpAny P .any ops Q fuel (listed.setIfInBounds i true) (a'.put o.dst v) (V k) := by
        refine ih _ _ k (by simpa using hL) hcl' (by rw [put_size]; exact hS) (by rw [put_defers']; exact hD) ?_ ?_ hkm ?_ hcnt'
        · intro j d hj hl
          by_cases hij : i = j
          · subst hij
            have hod : o.dst = some d := by unfold fxDst at hj; rw [ho] at hj; exact hj
            rw [hnext, hod]
            exact put_same _ _ v (hS.trans (hsz i (by omega)).1.symm)
          · rw [getD_set_ne false hij] at hl
            rw [put_ne a' v (fun e => hij (hapart i j d (by unfold fxDst; rw [ho]; exact e) hj))]
            exact hI1 j d hj hl
        · intro d hd
          rw [put_ne a' v (fun e => by
            have := hd i (by unfold fxDst; rw [ho]; exact e)
            rw [getD_set_same (by omega)] at this; cases this)]
          refine hI2 d fun j hj => ?_
          have := hd j hj
          by_cases hij : i = j
          · subst hij; exact hunf
          · rwa [getD_set_ne false hij] at this
        · intro i' j hi' hk'
          have hne : i ≠ i' := by rintro rfl; rw [hk] at hk'; simp at hk'
          rw [getD_set_ne false hne]
          exact hK i' j hi' hk'
      rcases hv with h5 | ⟨h5, rfl⟩ | ⟨f, args, h5, h6⟩
      · rw [h5]; exact hrest
      · rw [h5]; exact hrest
      · rw [h5]
        refine h6.mono ?_
        rintro e w' ⟨rfl, rfl⟩
        exact hrest
    | false =>
      obtain ⟨hrun, hnd, hnext⟩ := hAs i o hb hol hk
      simp only [Bool.and_eq_true, decide_eq_true_eq, Bool.or_eq_true, List.any_eq_true, List.mem_range, beq_iff_eq] at h4
      obtain ⟨⟨h41, h42⟩, h43⟩ := h4
      have hbk : hb = k := by
        have h5 : ¬ hb < k := fun h => by have := (hK i hb hi hk).2 h; rw [hunf] at this; cases this
        rcases Nat.eq_zero_or_pos hb with h0 | h0
        · omega
        · rcases h42 with h6 | ⟨i', h6, h7, h8⟩
          · omega
          · have := (hK i' _ h6 h7).1 (fx_ready_waits hr h8)
            omega
      subst hbk
      rw [hrun]
      show wpAny P .any ops Q fuel (listed.setIfInBounds i true) (a'.put o.dst undef) (V (hb + 1))
      rw [hnd]
      have hnod : ∀ d, fxDst ops i ≠ some d := fun d e => by unfold fxDst at e; rw [ho] at e; simp [hnd] at e
      refine ih _ _ (hb + 1) (by simpa using hL) hcl' hS hD ?_ ?_ (by omega) ?_ hcnt'
      · intro j d hj hl
        have hij : i ≠ j := by rintro rfl; exact hnod d hj
        rw [getD_set_ne false hij] at hl
        exact hI1 j d hj hl
      · intro d hd
        refine hI2 d fun j hj => ?_
        have hij : i ≠ j := by rintro rfl; exact hnod d hj
        have := hd j hj
        rwa [getD_set_ne false hij] at this
      · intro i' j hi' hk'
        by_cases hii : i = i'
        · subst hii
          rw [hk] at hk'
          simp at hk'
          subst hk'
          rw [getD_set_same (by omega)]
          simp
        · rw [getD_set_ne false hii, hK i' j hi' hk']
          have := fx_all h43 hi'
          simp [hii] at this
          constructor
          · intro h; omega
          · intro h
            rcases Nat.lt_or_ge j hb with h1 | h1
            · exact h1
            · have : j = hb := by omega
              subst this
              contradiction

/-- the region, walked plainly -/
theorem region_flex {P : Program} {id : Nat} {l : List Oper} {Q : Exit → Act → World → Prop} {a : Act} {w : World} {V : Nat → World} (kinds : List (Bool × Nat)) (m : Nat) (Wm : World) (hm : P.follows .mixedOrders = true) (hlen : kinds.length = l.length)
    (hC1 : fxData l.toArray = true) (hC2 : fxApart l.toArray = true) (hC3 : fxPlain l.toArray = true) (hC4 : fxKinds l.toArray kinds m = true) (hV : V 0 = { w with drawn := w.drawn + 1 }) (hVm : V m = Wm)
    (h : fxRun P V (fun a => Q .normal a Wm) l kinds a) : (Code.region id l.toArray true).wp P Q a w :=
  wp_region_any hm (by rw [← hV]; exact any_flex kinds m hlen hC1 hC2 hC3 hC4 (by rw [hVm]; exact h))

/-- the region, in a fence -/
theorem region_flex_in {F : Fence} (hF : Wide F) {n : Nat} {P : Program} {id : Nat} {l : List Oper} {Q : Exit → Act → World → Prop} {a : Act} {w : World} {V : Nat → World} (kinds : List (Bool × Nat)) (m : Nat) (Wm : World) (hm : P.follows .mixedOrders = true) (hlen : kinds.length = l.length)
    (hC1 : fxData l.toArray = true) (hC2 : fxApart l.toArray = true) (hC3 : fxPlain l.toArray = true) (hC4 : fxKinds l.toArray kinds m = true) (hc : ∀ o ∈ l, Calm P o) (hV : V 0 = { w with drawn := w.drawn + 1 }) (hVm : V m = Wm)
    (h : fxRun P V (fun a => Q .normal a Wm) l kinds a) : (Code.region id l.toArray true).wpIn F n P Q a w :=
  region_in hF (Q := fun a w => Q .normal a w) hm hc (by
    rw [← hV]
    exact any_flex (Q := fun e a w => e = .normal ∧ Q .normal a w) kinds m hlen hC1 hC2 hC3 hC4 (by rw [hVm]; simpa using h)) (fun _ _ h => h)

/-! the steps of the walk in the order of the text -/
theorem still_gives {P : Program} {o : Oper} {a : Act} {w : World} {K : Act → Prop} (h : o.still P a w K) : ∃ v, fxGives P o a w v ∧ K (a.put o.dst v) := by
  unfold Oper.still at h
  unfold fxGives
  generalize hr : (execOp a.eval o).run P w = r at h
  cases r with
  | halt x w' => simp [Oper.stillUpon] at h
  | ok x w' =>
    cases x <;> simp only [Oper.stillUpon] at h
    case value v => obtain ⟨rfl, h⟩ := h; exact ⟨v, .inl rfl, h⟩
    case skip => obtain ⟨rfl, h⟩ := h; exact ⟨undef, .inr (.inl ⟨rfl, rfl⟩), h⟩
    case enter f args => obtain ⟨rfl, v, h1, h2⟩ := h; exact ⟨v, .inr (.inr ⟨f, args, rfl, h1.mono fun _ _ ⟨a, b⟩ => ⟨a, b.symm⟩⟩), h2⟩
    all_goals exact h.elim

theorem fx_y0 {P : Program} {V : Nat → World} {Q : Act → Prop} {o : Oper} {rest : List Oper} {ks : List (Bool × Nat)} {a : Act} (W0 : World) (hV : V 0 = W0)
    (hK : ∀ K : Act → Prop, (∀ a, fxRun P V Q rest ks a → K a) → o.still P a W0 K) : fxRun P V Q (o :: rest) ((true, 0) :: ks) a := by
  obtain ⟨v, h1, h2⟩ := still_gives (hK _ fun a h => h)
  refine ⟨_, fun j hj => ⟨v, ?_, rfl⟩, h2⟩
  have : j = 0 := by omega
  subst this
  rw [hV]; exact h1
theorem fx_y1 {P : Program} {V : Nat → World} {Q : Act → Prop} {o : Oper} {rest : List Oper} {ks : List (Bool × Nat)} {a : Act} (W0 W1 : World) (hV : V 0 = W0) (hV1 : V 1 = W1)
    (hK : ∀ K : Act → Prop, (∀ a', o.still P a W1 (fun a'' => a' = a'') → fxRun P V Q rest ks a' → K a') → o.still P a W0 K) : fxRun P V Q (o :: rest) ((true, 1) :: ks) a := by
  obtain ⟨v, h1, h2, h3⟩ := still_gives (hK (fun a' => o.still P a W1 (fun a'' => a' = a'') ∧ fxRun P V Q rest ks a') fun a h k => ⟨h, k⟩)
  obtain ⟨v', h4, h5⟩ := still_gives h2
  refine ⟨_, fun j hj => ?_, h3⟩
  have : j = 0 ∨ j = 1 := by omega
  rcases this with rfl | rfl
  · exact ⟨v, hV ▸ h1, rfl⟩
  · exact ⟨v', hV1 ▸ h4, h5⟩
theorem fx_s {P : Program} {V : Nat → World} {Q : Act → Prop} {o : Oper} {rest : List Oper} {ks : List (Bool × Nat)} {a : Act} {j : Nat} (W0 W1 : World) (hV : V j = W0) (hV1 : V (j + 1) = W1) (hd : o.dst = none)
    (h : ∀ K : Next → World → Prop, K .skip W1 → match (execOp a.eval o).run P W0 with | .ok x w => K x w | .halt _ _ => False) (hr : fxRun P V Q rest ks a) : fxRun P V Q (o :: rest) ((false, j) :: ks) a := by
  refine ⟨?_, hd, hr⟩
  have := h (fun x w => (execOp a.eval o).run P W0 = .ok x w → (execOp a.eval o).run P W0 = .ok .skip W1) (fun h => h)
  rw [hV, hV1]
  generalize hx : (execOp a.eval o).run P W0 = r at this
  cases r with
  | ok x w => exact this rfl
  | halt x w => exact this.elim

end Go.Proofs.Ytjeafgnaoncphaa
