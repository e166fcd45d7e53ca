/- A region that draws its order, in the round of a loop over a function, from the plain law for such regions; a loop with a ghost; marks of loops at a function's way out. Conditions: in each statement. -/
import Derived.Test.YtjeafgnaoncphaaMem
import Derived.Test.YtjeafgnaoncphaaEach
import Derived.StillTail
import Derived.StillTailTactics
namespace Go.Proofs.Ytjeafgnaoncphaa
open Go.RowKit

/-- fences in which whatever can be called can be called: the wide one, and its rounds -/
structure Wide (F : Fence) : Prop where
  fn : ∀ f, F.fn f
  depth : F.depth = none
  calls : ∀ (n : Nat) (P : Program) (f : FuncId) (args : Array Value) (w : World) (R : Ending → World → Prop), Calls P f args w R → CallsIn F n P f args w R

theorem wide_wide : Wide Fence.wide := ⟨fun _ => trivial, rfl, fun _ _ _ _ _ _ h => callsIn_wide.2 h⟩
theorem Wide.inRound {F : Fence} (h : Wide F) (l : Nat) : Wide (F.inRound l) := ⟨h.fn, h.depth, fun n P f args w R k => CallsIn.inRound l (h.calls n P f args w R k)⟩

/-- an operation that gives no library row and starts no round -/
def Calm (P : Program) (o : Oper) : Prop := (∀ c, o.op ≠ .defer c) ∧ ∀ a w x w', (execOp (Act.eval a) o).run P w = .ok x w' → (∀ r args, x ≠ .row r args) ∧ (∀ l f t c d, x ≠ .round l f t c d)

theorem oper_in {F : Fence} (hF : Wide F) {n : Nat} {P : Program} {o : Oper} {a : Act} {w : World} {K K' : Act → World → Prop} {Q : Act → World → Prop} {Q' : Exit → Act → World → Prop}
    (hc : Calm P o) (h : o.wp P a w K (fun e a w => e = .normal ∧ Q a w)) (hk : ∀ a w, K a w → K' a w) : o.wpIn F n P a w K' Q' := by
  refine ⟨fun f _ => hF.fn f, ?_⟩
  rw [Oper.semAt_eq _ _ _ hc.1]
  unfold Oper.wp at h
  have hx := hc.2 a w
  generalize (execOp a.eval o).run P w = r at h hx
  cases r with
  | ok x w' =>
    obtain ⟨h1, h2⟩ := hx x w' rfl
    cases x <;> simp only [Oper.upon, Oper.uponIn] at h ⊢
    case value v => exact hk _ _ h
    case skip => exact hk _ _ h
    case defer d => exact hk _ _ h
    case row r args => exact absurd rfl (h1 r args)
    case enter f args =>
      refine ⟨fun hd => by rw [hF.depth] at hd; simp at hd, (hF.calls _ _ _ _ _ _ h).mono ?_⟩
      intro e w' he
      cases e with
      | returned v => exact hk _ _ he
      | panicked c => exact absurd he.1 (by simp)
      | outgrown => obtain ⟨a, w, h1, _⟩ := he; exact absurd h1 (by simp)
  | halt x w' =>
    cases x <;> simp only [Oper.upon, Oper.uponIn] at h ⊢
    case panic v => exact absurd h.1 (by simp)

theorem ops_in {F : Fence} (hF : Wide F) {n : Nat} {P : Program} {ops : Array Oper} {Q : Act → World → Prop} {Q' : Exit → Act → World → Prop} (hc : ∀ (i : Nat) (o : Oper), ops[i]? = some o → Calm P o)
    (hq : ∀ a w, Q a w → Q' .normal a w) : ∀ (l : List Nat) (a : Act) (w : World), wpOps P ops (fun e a w => e = .normal ∧ Q a w) l a w → wpOpsIn F n P ops Q' l a w := by
  intro l
  induction l with
  | nil => intro a w h; exact hq _ _ h.2
  | cons i rest ih =>
    intro a w h
    simp only [wpOps, wpOpsIn] at h ⊢
    cases ho : ops[i]? with
    | none => simp only [ho] at h ⊢; exact ih _ _ h
    | some o =>
      simp only [ho] at h ⊢
      split
      · rename_i hw
        rw [if_pos hw] at h
        rcases h with h | ⟨_, a, w, h, _⟩
        · exact oper_in hF (hc i o ho) h (fun a w => ih a w)
        · exact absurd h (by simp)
      · rename_i hw
        rw [if_neg hw] at h
        exact ⟨fun f _ => hF.fn f, ih _ _ h⟩

/-- a region that draws its order, in a fence: by the plain law -/
theorem region_in {F : Fence} (hF : Wide F) {n : Nat} {P : Program} {id : Nat} {l : List Oper} {Q : Act → World → Prop} {Q' : Exit → Act → World → Prop} {a : Act} {w : World} (hm : P.follows .mixedOrders = true)
    (hc : ∀ o ∈ l, Calm P o) (h : wpAny P .any l.toArray (fun e a w => e = .normal ∧ Q a w) l.toArray.size (Array.replicate l.toArray.size false) a { w with drawn := w.drawn + 1 })
    (hq : ∀ a w, Q a w → Q' .normal a w) : (Code.region id l.toArray true).wpIn F n P Q' a w :=
  wpIn_region_draw fun t => by
    simp only [Region.schedule, hm, Bool.true_or, if_true]
    refine ops_in hF (fun i o ho => hc o ?_) hq _ _ _ (wpAny_sound l.toArray.size t _ a _ h)
    rw [List.getElem?_toArray] at ho
    exact List.mem_of_getElem? ho

/-- what an operation gives that only reckons -/
theorem calm_b {P : Program} {α : Type} {o : Oper} (s : Act → Sem α) (f : Act → α → Value) (hd : ∀ c, o.op ≠ .defer c) (h : ∀ a, execOp (Act.eval a) o = (s a >>= fun b => pure (.value (f a b)))) : Calm P o := by
  refine ⟨hd, fun a w x w' hx => ?_⟩
  rw [h] at hx
  simp only [Sem.run_bind] at hx
  generalize (s a).run P w = r at hx
  cases r with
  | ok b w1 => simp [Result.andThen, Sem.run_pure] at hx; obtain ⟨rfl, _⟩ := hx; exact ⟨by simp, by simp⟩
  | halt y w1 => simp [Result.andThen] at hx
theorem calm_u {P : Program} {o : Oper} (s : Act → Sem Unit) (hd : ∀ c, o.op ≠ .defer c) (h : ∀ a, execOp (Act.eval a) o = (s a >>= fun _ => pure .skip)) : Calm P o := by
  refine ⟨hd, fun a w x w' hx => ?_⟩
  rw [h] at hx
  simp only [Sem.run_bind] at hx
  generalize (s a).run P w = r at hx
  cases r with
  | ok b w1 => simp [Result.andThen, Sem.run_pure] at hx; obtain ⟨rfl, _⟩ := hx; exact ⟨by simp, by simp⟩
  | halt y w1 => simp [Result.andThen] at hx
theorem calm_p {P : Program} {o : Oper} (f : Act → Value) (hd : ∀ c, o.op ≠ .defer c) (h : ∀ a, execOp (Act.eval a) o = pure (.value (f a))) : Calm P o := by
  refine ⟨hd, fun a w x w' hx => ?_⟩
  rw [h] at hx
  simp [Sem.run_pure] at hx
  obtain ⟨rfl, _⟩ := hx
  exact ⟨by simp, by simp⟩
theorem calm_call {P : Program} {o : Oper} (k : Nat) (args : Array Operand) (ts : Array TypeId) (ho : o.op = .call { callee := .value (.func k), args := args, argTypes := ts })
    (he : ∀ args w, (callFunc k args).run P w = .ok (.enter k args) w) : Calm P o := by
  refine ⟨fun c e => by rw [ho] at e; simp at e, fun a w x w' hx => ?_⟩
  unfold execOp at hx
  simp only [ho, resolve, Act.eval, Sem.run_bind, Sem.run_pure, Result.andThen_ok, Deferred.ofValue, invoke, he] at hx
  simp at hx
  obtain ⟨rfl, _⟩ := hx
  exact ⟨by simp, by simp⟩

theorem calm_load {P : Program} {o : Oper} {t : TypeId} {x : Operand} (ho : o.op = .load t x) : Calm P o :=
  calm_b (fun a => Instr.loadAt t (a.eval x)) (fun _ v => v) (fun c e => by rw [ho] at e; cases e) (fun a => by unfold execOp; simp only [ho])
theorem calm_store {P : Program} {o : Oper} {t : TypeId} {x y : Operand} (ho : o.op = .store t x y) : Calm P o :=
  calm_u (fun a => Instr.storeAt t (a.eval x) (a.eval y)) (fun c e => by rw [ho] at e; cases e) (fun a => by unfold execOp; simp only [ho])
theorem calm_move {P : Program} {o : Oper} {x : Operand} (ho : o.op = .move x) : Calm P o :=
  calm_p (fun a => a.eval x) (fun c e => by rw [ho] at e; cases e) (fun a => by unfold execOp; simp only [ho])
theorem calm_assign {P : Program} {o : Oper} {x : Operand} (ho : o.op = .assign x) : Calm P o :=
  calm_p (fun a => a.eval x) (fun c e => by rw [ho] at e; cases e) (fun a => by unfold execOp; simp only [ho])
theorem calm_index {P : Program} {o : Oper} {t : TypeId} {x y : Operand} (ho : o.op = .indexAddr t x y) : Calm P o :=
  calm_b (fun a => Instr.indexAt t (a.eval x) (a.eval y)) (fun _ v => v) (fun c e => by rw [ho] at e; cases e) (fun a => by unfold execOp; simp only [ho])
theorem calm_bin {P : Program} {o : Oper} {op : BinOp} {t u : TypeId} {x y : Operand} (ho : o.op = .binOp op t x y u) : Calm P o :=
  calm_b (fun a => do eqGuard op t x y (a.eval x) (a.eval y); binOp op t (a.eval x) (a.eval y)) (fun _ v => v) (fun c e => by rw [ho] at e; cases e) (fun a => by unfold execOp; simp only [ho])

theorem calm_nil {P : Program} : ∀ o ∈ ([] : List Oper), Calm P o := by simp
theorem calm_cons {P : Program} {o : Oper} {l : List Oper} (h : Calm P o) (k : ∀ o ∈ l, Calm P o) : ∀ x ∈ o :: l, Calm P x := List.forall_mem_cons.2 ⟨h, k⟩

/-- the plain law 'wp_region_still_tail' in a fence: n operations that keep the world, then the rest in the order of the text -/
theorem region_tail_in {F : Fence} (hF : Wide F) {m : Nat} {P : Program} {id : Nat} {l : List Oper} {Q : Exit → Act → World → Prop} {a : Act} {w : World} (n : Nat) (hm : P.follows .mixedOrders = true) (hB : Region.lexTailB .any l.toArray n = true)
    (hc : ∀ o ∈ l, Calm P o)
    (h : wpStill P l.toArray { w with drawn := w.drawn + 1 } (fun a' => wpList P l.toArray (fun e a w => e = .normal ∧ Q .normal a w) (l.drop n) a' { w with drawn := w.drawn + 1 }) (l.take n) a) : (Code.region id l.toArray true).wpIn F m P Q a w := by
  simp only [Region.lexTailB, Bool.and_eq_true, decide_eq_true_eq] at hB
  obtain ⟨⟨⟨⟨hsel, hn⟩, hs⟩, hch⟩, hlex⟩ := hB
  have hn' : n < l.length := by simpa using hn
  have htl : (l.take n).length = n := by simp; omega
  have hdl : (l.drop n).length = l.toArray.size - n := by simp
  have inv0 : HeadInv .any l.toArray n (Array.replicate l.toArray.size false) :=
    ⟨by simp, fun j oj _ hl => (by rw [getD_replicate_false] at hl; cases hl), fun t _ ht => getD_in (by simpa using ht) (getD_replicate_false _ _)⟩
  have H := wpAnyL_lex (md := .any) (g := l.toArray.size - n) hsel hs hch hn (l.take n) 0 _ a (fun j hj => by
    have hj' : j < n := by rw [htl] at hj; exact hj
    simp [hj']) (by simpa using htl) inv0 (by rw [htl]; exact hlex) h
  refine region_in hF (Q := fun a w => Q .normal a w) hm hc ?_ (fun _ _ h => h)
  have := wpAny_of_head (Q' := fun e a w => e = .normal ∧ Q .normal a w) (g := l.toArray.size - n) (fun listed a' hL => by
    have := wpAny_of_seq (md := .any) (Q' := fun e a w => e = .normal ∧ Q .normal a w) (l.drop n) n listed a' { w with drawn := w.drawn + 1 } (fun j => by simp [List.getElem?_drop]) (by rw [hdl]; exact hL.1) hL.2
    rwa [hdl] at this) _ _ _ H
  rw [htl, show n + (l.toArray.size - n) = l.toArray.size by omega] at this
  exact this

theorem least_of {J : Nat → Prop} (h : ∃ k, J k) : ∃ k, J k ∧ ∀ j, J j → k ≤ j := by
  obtain ⟨k, hk⟩ := h
  induction k using Nat.strongRecOn with
  | _ k ih =>
    by_cases hl : ∃ j, j < k ∧ J j
    · obtain ⟨j, hj, hJ⟩ := hl
      exact ih j hj hJ
    · refine ⟨k, hk, fun j hj => ?_⟩
      rcases Nat.lt_or_ge j k with h | h
      · exact absurd ⟨j, h, hj⟩ hl
      · exact h

open Classical in
/-- a loop whose measure is a ghost's -/
theorem loop_ghost {F : Fence} {n : Nat} {P : Program} {Q : Exit → Act → World → Prop} {a : Act} {w : World} {c : Code} (J : Nat → Act → World → Prop) (m : Nat) (h₀ : J m a w)
    (round : ∀ k a w, J k a w → c.wpIn F n P (Exit.then (fun a' w' => ∃ k', k' < k ∧ J k' a' w') Q) a w) : (Code.loop c).wpIn F n P Q a w := by
  refine wpIn_loop (fun a w => ∃ k, J k a w) (fun a w => if h : ∃ k, J k a w then Classical.choose (least_of h) else 0) ⟨m, h₀⟩ ?_
  intro a w h
  obtain ⟨hk, hl⟩ := Classical.choose_spec (least_of h)
  refine wpIn_mono (round _ a w hk) ?_
  intro e a' w' he
  cases e with
  | normal =>
    obtain ⟨k', h1, h2⟩ := he
    have h' : ∃ k, J k a' w' := ⟨k', h2⟩
    refine ⟨h', ?_⟩
    simp only [dif_pos h', dif_pos h]
    exact Nat.lt_of_le_of_lt ((Classical.choose_spec (least_of h')).2 k' h2) h1
  | _ => exact he

/-! marks -/

/-- the marks that loops over functions leave among a call's deferred calls: each has its own block, which holds no call -/
inductive Marks (B : Nat) (W : World) : List Deferred → Prop
  | nil : Marks B W []
  | cons {D : Nat} {ds : List Deferred} (hB : B ≤ D) (h : W.heap[D]? = some (.deferred (some []))) (hne : ∀ d ∈ ds, d.target ≠ .collected D) (r : Marks B W ds) : Marks B W ({ target := .collected D, args := #[] } :: ds)

theorem Marks.kept {B : Nat} {W W' : World} {ds : List Deferred} (h : Marks B W ds) (hk : ∀ D, B ≤ D → { target := .collected D, args := #[] } ∈ ds → W.heap[D]? = some (.deferred (some [])) → W'.heap[D]? = some (.deferred (some []))) : Marks B W' ds := by
  induction h with
  | nil => exact .nil
  | cons hB hh hne _ ih =>
    exact .cons hB (hk _ hB List.mem_cons_self hh) hne (ih fun D hD hm => hk D hD (List.mem_cons_of_mem _ hm))

theorem Marks.old {B : Nat} {W : World} {ds : List Deferred} (h : Marks B W ds) : ∀ d ∈ ds, ∃ D, d.target = .collected D ∧ D < W.heap.size := by
  induction h with
  | nil => simp
  | cons hB hh _ _ ih =>
    intro d hd
    rcases List.mem_cons.1 hd with rfl | hd
    · exact ⟨_, rfl, (Array.getElem?_eq_some_iff.1 hh).1⟩
    · exact ih d hd

theorem Marks.keepsOthers {B : Nat} {W W' : World} {ds : List Deferred} (h : Marks B W ds) (hk : KeepsOthers W W') : Marks B W' ds :=
  h.kept fun _ _ _ hD => hk.same _ _ hD rfl
theorem Marks.later {B : Nat} {W W' : World} {ds : List Deferred} (h : Marks B W ds) (hb : Below W.heap.size W W') : Marks B W' ds :=
  h.kept fun _ _ _ hD => (hb.block _ (Array.getElem?_eq_some_iff.1 hD).1).trans hD

/-- the way out over marks -/
theorem leaves_marks {F : Fence} {n : Nat} {P : Program} {fn : Func} {tmps : Array Value} {B : Nat} {R : Ending → World → Prop} {v : Value} {ds : List Deferred} {W : World} (h : Marks B W ds)
    (hr : ∀ W', (results fn tmps).run P W' = .ok v W') (hR : OwnFrom B (fun (_ : Unit) W => R (.returned v) W)) (h0 : R (.returned v) W) : LeavesInM F n P fn tmps R ds .returning W := by
  induction ds generalizing W with
  | nil => exact ⟨v, hr W, h0⟩
  | cons d ds ih =>
    cases h with
    | @cons D _ hB hh hne r =>
      refine ⟨by simp, .inl ⟨D, _, rfl, run_takeDeferred hh, ?_⟩⟩
      refine ih (r.kept fun D' _ hm hD' => ?_) (hR.putObj (s := ()) _ h0 hB hh rfl)
      rw [World.putObj_heap_other]
      · exact hD'
      · rintro rfl; exact hne _ hm rfl

end Go.Proofs.Ytjeafgnaoncphaa
