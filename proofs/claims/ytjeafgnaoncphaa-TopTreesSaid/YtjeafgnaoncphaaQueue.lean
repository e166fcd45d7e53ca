/- A list of numbers from whose front is taken and onto whose end is appended: what a slice of it holds. Conditions: in each statement. -/
import Derived.Test.YtjeafgnaoncphaaBridge
import Derived.Test.YtjeafgnaoncphaaList
import Derived.Maps.OwnIn
namespace Go.Proofs.Ytjeafgnaoncphaa
open Go.RowKit

/-- v is a slice (of a row of the call's own) that holds q, with room up to its capacity -/
def QRow (w : World) (base : Nat) (v : Value) (q : List Value) : Prop :=
  ∃ b off cap arr, v = .slice (some ⟨b, off, none⟩) q.length cap ∧ base ≤ b ∧ w.heap[b]? = some (.cells arr 3 (0, 0)) ∧ q.length ≤ cap ∧ cap ≤ maxLen ∧ off + cap ≤ arr.size ∧
    ∀ j u, q[j]? = some u → arr[off + j]? = some u

theorem QRow.own {w : World} {base : Nat} {v : Value} {q : List Value} (h : QRow w base v q) : ∃ b, v.ownBlock = some b ∧ base ≤ b ∧ b < w.heap.size ∧ ∃ arr, w.heap[b]? = some (.cells arr 3 (0, 0)) := by
  obtain ⟨b, off, cap, arr, rfl, h1, h2, _⟩ := h
  exact ⟨b, rfl, h1, (Array.getElem?_eq_some_iff.1 h2).1, arr, h2⟩

theorem QRow.kept {w w' : World} {base : Nat} {v : Value} {q : List Value} {row : Option Nat} (h : QRow w base v q) (hg : w.grownBy w' row) (hne : v.ownBlock ≠ row) : QRow w' base v q := by
  obtain ⟨b, off, cap, arr, rfl, h1, h2, h3⟩ := h
  exact ⟨b, off, cap, arr, rfl, h1, (hg.block b (Array.getElem?_eq_some_iff.1 h2).1 hne).trans h2, h3⟩

theorem QRow.of_lit {w : World} {xs : List Value} {base g : Nat} {cs : Array Value} {n : Nat} (hg : g = w.heap.size) (hn : n = xs.length) (hc : cs = xs.toArray) (hb : base ≤ w.heap.size) (hm : xs.length ≤ maxLen) :
    QRow (w.alloc (.cells cs 3)) base (.slice (some ⟨g, 0, none⟩) n n) xs := by
  subst hg hn hc
  exact ⟨_, 0, _, _, rfl, hb, World.alloc_heap_new w _, Nat.le_refl _, hm, by simp, fun j u hu => by simpa using hu⟩

/-- the front -/
theorem QRow.head {w : World} {base : Nat} {v u : Value} {q : List Value} (h : QRow w base v (u :: q)) : ∃ b off cap, v = .slice (some ⟨b, off, none⟩) (q.length + 1) cap ∧ q.length + 1 ≤ cap ∧ cap ≤ maxLen ∧ w.cell? ⟨b, off, none⟩ = some u := by
  obtain ⟨b, off, cap, arr, rfl, h1, h2, h3, h4, h5, h6⟩ := h
  refine ⟨b, off, cap, rfl, h3, h4, ?_⟩
  have := h6 0 u rfl
  simp [World.cell?, h2]
  simpa using this

theorem QRow.tail {w : World} {base b off cap : Nat} {u : Value} {q : List Value} (h : QRow w base (.slice (some ⟨b, off, none⟩) (q.length + 1) cap) (u :: q)) {a : Option Addr}
    (ha : a = if cap = 1 then some ⟨b, off, none⟩ else some ⟨b, off + 1, none⟩) : QRow w base (.slice a q.length (cap - 1)) q := by
  obtain ⟨b', off', cap', arr, e, h1, h2, h3, h4, h5, h6⟩ := h
  simp only [List.length_cons, Value.slice.injEq, Option.some.injEq, Addr.mk.injEq] at e
  obtain ⟨⟨rfl, rfl, _⟩, _, rfl⟩ := e
  simp only [List.length_cons] at h3
  subst ha
  by_cases hc : cap = 1
  · have hq : q = [] := List.eq_nil_of_length_eq_zero (by omega)
    subst hq hc
    exact ⟨b, off, 0, arr, by simp, h1, h2, by simp, by simp [maxLen], by omega, by simp⟩
  · rw [if_neg hc]
    refine ⟨b, off + 1, cap - 1, arr, rfl, h1, h2, by omega, by omega, by omega, fun j u hu => ?_⟩
    have := h6 (j + 1) u (by simpa using hu)
    rw [← this]; congr 1; omega

theorem grownBy_setCell_at (W : World) (b o : Nat) (v : Value) : W.grownBy (W.setCell ⟨b, o, none⟩ v) (some b) :=
  ⟨rfl, rfl, rfl, by simp [World.setCell], fun k _ hne => heap_setCell_other W ⟨b, o, none⟩ k v (fun e => hne (by simp [e]))⟩

theorem run_append_q {P : Program} {W : World} {base : Nat} {v : Value} {q : List Value} (ty : TypeId) {i : TypeInfo} (ht : P.underlying 28 = some (.slice 3)) (hi : P.info? 3 = some i) (hz : i.zero = some (.int .i64 0)) (hsize : i.size = 1) (hby : i.bytes = 8)
    (hq : QRow W base v q) (x : Int) (bx : Nat) (hx : W.heap[bx]? = some (.cells #[.int .i64 x] 3 (0, 0))) (hlen : q.length ≤ 1000) (hbase : base ≤ W.heap.size) :
    ∃ v' w', (Builtin.append_ #[28, 28] ty #[v, .slice (some ⟨bx, 0, none⟩) 1 1]).run P W = .ok v' w' ∧ QRow w' base v' (q ++ [.int .i64 x]) ∧ W.grownBy w' v.ownBlock ∧
      (v'.ownBlock = v.ownBlock ∨ v'.ownBlock = some W.heap.size) := by
  obtain ⟨b, off, cap, arr, rfl, h1, h2, h3, h4, h5, h6⟩ := hq
  have hnews : ∀ j u, [Value.int .i64 x][j]? = some u → W.cell? ((⟨bx, 0, none⟩ : Addr).add j) = some u := by
    intro j u hu
    match j, hu with
    | 0, hu =>
      simp at hu
      subst hu
      simp [Addr.add, World.cell?, hx]
  by_cases hroom : q.length + 1 ≤ cap
  · have hsz : off + q.length < arr.size := by omega
    have hc : (W.cell? ⟨b, off + q.length, none⟩).isSome = true := by simp [World.cell?, h2, hsz]
    have hf : W.frozen? ⟨b, off + q.length, none⟩ = false := by simp [World.frozen?, h2]
    have hr := run_append_room_cells (P := P) W 28 ty 3 i ht hi b off q.length cap ⟨bx, 0, none⟩ 1 1 [.int .i64 x] (by simp [hsize]) hnews (by simp [Value.oneCell']) hroom
      (by intro j hj; have : j = 0 := by simpa using hj
          subst this; simpa [hsize] using hc) (by intro j hj; have : j = 0 := by simpa using hj
                                                  subst this; simpa [hsize] using hf)
    rw [hsize, Nat.mul_one] at hr
    refine ⟨_, _, hr, ?_, grownBy_setCell_at W b (off + q.length) _, .inl rfl⟩
    refine ⟨b, off, cap, arr.setIfInBounds (off + q.length) (.int .i64 x), by simp, h1, ?_, by simpa using hroom, h4, by simpa using h5, fun j u hu => ?_⟩
    · exact heap_setCell_same W b (off + q.length) arr _ _ h2
    · rw [Array.getElem?_setIfInBounds]
      rw [List.getElem?_append] at hu
      by_cases hj : j < q.length
      · rw [if_pos hj] at hu
        rw [if_neg (by omega)]
        exact h6 j u hu
      · rw [if_neg hj] at hu
        have e : j = q.length := by
          have := (List.getElem?_eq_some_iff.1 hu).1
          simp at this; omega
        subst e
        simpa [hsz] using hu
  · have holds : ∀ j u, q[j]? = some u → W.cell? ((⟨b, off, none⟩ : Addr).add j) = some u := by
      intro j u hu
      have hadd : (⟨b, off, none⟩ : Addr).add j = ⟨b, off + j, none⟩ := by unfold Addr.add; split <;> simp_all
      rw [hadd]
      have := h6 j u hu
      simp [World.cell?, h2, this]
    have hr := run_append_grow (P := P) W 28 ty 3 i (.int .i64 0) ht hi hz ⟨b, off, none⟩ q.length cap q (by simp [hsize]) holds ⟨bx, 0, none⟩ 1 1 [.int .i64 x] (by simp [hsize]) hnews (by omega) (by omega) (growslice_fits (by omega) (by rw [hby]; omega))
    have hge := grownCap_ge W (q.length + 1) cap 3
    have hcm : grownCap W (q.length + 1) cap 3 ≤ maxLen := grownCap_le_maxLen W (q.length + 1) cap 3 (by unfold maxLen; omega)
    refine ⟨_, _, hr, ?_, ⟨rfl, rfl, rfl, by simp, fun k hk _ => heap_alloc_old W.drew _ hk⟩, .inr rfl⟩
    refine ⟨W.heap.size, 0, _, _, by simp, hbase, heap_alloc_new W.drew _, by simpa using hge, hcm, ?_, fun j u hu => ?_⟩
    · simp only [Array.size_append, List.size_toArray, size_zeroCells, Nat.zero_add, List.length_singleton]
      simp [Value.cells]; omega
    · have hl : j < (q ++ [Value.int .i64 x]).length := (List.getElem?_eq_some_iff.1 hu).1
      have hl' : j < (q.toArray ++ [Value.int .i64 x].toArray).size := by simpa using hl
      rw [Nat.zero_add, Array.getElem?_append, if_pos hl']
      simpa using hu

/-- the append at an operation, in a fence -/
theorem wpListIn_append_q {F : Fence} {n : Nat} {P : Program} {ops : Array Oper} {rest : List Oper} {o : Oper} {a : Act} {Q : Exit → Act → World → Prop} (s x : Operand) {W : World} {base : Nat} {v : Value} {q : List Value} {i : TypeInfo} (y : Int) (bx : Nat)
    (hq : QRow W base v q) (hgd : o.guard = none) (ho : o.op = .call { callee := .builtin .append, args := #[s, x], argTypes := #[28, 28] })
    (ht : P.underlying 28 = some (.slice 3)) (hi : P.info? 3 = some i) (hz : i.zero = some (.int .i64 0)) (hsize : i.size = 1) (hby : i.bytes = 8)
    (hs : a.eval s = v) (hx : a.eval x = .slice (some ⟨bx, 0, none⟩) 1 1) (hcx : W.heap[bx]? = some (.cells #[.int .i64 y] 3 (0, 0))) (hlen : q.length ≤ 1000) (hbase : base ≤ W.heap.size)
    (h : ∀ v' w', QRow w' base v' (q ++ [.int .i64 y]) → W.grownBy w' v.ownBlock → (v'.ownBlock = v.ownBlock ∨ v'.ownBlock = some W.heap.size) → wpListIn F n P ops Q rest (a.put o.dst v') w') :
    wpListIn F n P ops Q (o :: rest) a W := by
  refine wpListIn_plain hgd fun K hK => ?_
  obtain ⟨v', w', hr, h2, h3, h4⟩ := run_append_q (P := P) o.type ht hi hz hsize hby hq y bx hcx hlen hbase
  unfold Oper.wpIn
  refine ⟨by simp [Oper.about, ho, resolve, Target.leads, Sem.run_pure], ?_⟩
  rw [Oper.semAt_plain F _ _ (by rw [ho]; intro c hc'; cases hc')]
  simp [execOp, ho, resolve, invoke, builtin, hs, hx, hr, Result.andThen]
  exact hK _ _ (h v' w' h2 h3 h4)

/-- 'make([]T, n)' at an operation, in a fence -/
theorem wpListIn_make_full {F : Fence} {m : Nat} {P : Program} (w : World) {ops : Array Oper} {rest : List Oper} {o : Oper} {a : Act} {Q : Exit → Act → World → Prop}
    (hg : o.guard = none) (l c : Operand) (t : TypeId) (hop : o.op = Op.makeSlice t l c)
    (base : Nat) (e : TypeId) (i : TypeInfo) (z : Value) (size : Nat) (h1 : P.underlying t = some (.slice e)) (h2 : P.info? e = some i) (h3 : i.zero = some z) (h4 : i.size = size)
    (kl kc : IntKind) (L C : Int) (n : Nat) (hl : a.eval l = .int kl L) (hc : a.eval c = .int kc C) (hL : L = (n : Int)) (hC : C = (n : Int)) (b2 : i.bytes * n ≤ 281474976710656) (b3 : n ≤ maxLen) (b4 : base ≤ w.heap.size)
    (hK : ∀ w', w'.ownsRow base e size (.slice (some ⟨w.heap.size, 0, none⟩) n n) n (madeCells z.cells (n * size)).toList → w.grownBy w' none → wpListIn F m P ops Q rest (a.put o.dst (.slice (some ⟨w.heap.size, 0, none⟩) n n)) w') :
    wpListIn F m P ops Q (o :: rest) a w := by
  refine wpListIn_plain hg fun K hK' => ?_
  obtain ⟨w', hrun, r1, r2⟩ := run_make_full (P := P) w base t e i z size h1 h2 h3 h4 kl kc n b2 b3 b4
  subst hL
  subst hC
  unfold Oper.wpIn
  refine ⟨by simp [Oper.about, hop], ?_⟩
  rw [Oper.semAt_plain F _ _ (by rw [hop]; intro c hc'; cases hc')]
  simp [execOp, hop, hl, hc, hrun, Result.andThen]
  exact hK' _ _ (hK w' r1 r2)

theorem below_c' {B : Nat} {a b c : World} (h : Below B a b) (k : Below b.heap.size b c) (hB : B ≤ b.heap.size := by omega) : Below B a c := h.trans (k.mono hB)

theorem boxed_later {W W' : World} {B : Nat} {t : TypeId} {v : Value} (h : Boxed W B t v) (hb : Below W.heap.size W W') : Boxed W' B t v := (hb.block B h.lt).trans h

/-! what a change of a block that holds no cells leaves -/
theorem boxed_k {A A' : World} {row : Option Nat} {B : Nat} {t : TypeId} {v : Value} (h : Boxed A B t v) (hg : A.grownBy A' row) (hr : ∀ r, row = some r → ∃ o : Obj, A.heap[r]? = some o ∧ o.isCells = false) : Boxed A' B t v :=
  h.kept hg (fun e => by obtain ⟨o, ho, hc⟩ := hr B e.symm; rw [show A.heap[B]? = _ from h] at ho; cases ho; cases hc)
theorem owns_k {A A' : World} {row : Option Nat} {base : Nat} {e : TypeId} {size : Nat} {v : Value} {k : Nat} {xs : List Value} (h : A.ownsRow base e size v k xs) (hg : A.grownBy A' row) (hr : ∀ r, row = some r → ∃ o : Obj, A.heap[r]? = some o ∧ o.isCells = false) : A'.ownsRow base e size v k xs := by
  refine h.kept hg ?_
  rcases h.2 with ⟨rfl, _⟩ | ⟨g, cap, cur, rfl, _, hgb, _⟩
  · exact .inl rfl
  · refine .inr fun e' => ?_
    obtain ⟨o, ho, hc⟩ := hr g (by simpa [Value.ownBlock] using e'.symm)
    rw [hgb] at ho; cases ho; cases hc
theorem qrow_k {A A' : World} {row : Option Nat} {base : Nat} {v : Value} {q : List Value} (h : QRow A base v q) (hg : A.grownBy A' row) (hr : ∀ r, row = some r → ∃ o : Obj, A.heap[r]? = some o ∧ o.isCells = false) : QRow A' base v q := by
  refine h.kept hg fun e => ?_
  obtain ⟨b, hb, _, _, arr, ha⟩ := h.own
  obtain ⟨o, ho, hc⟩ := hr b (e.symm.trans hb)
  rw [ha] at ho; cases ho; cases hc
theorem marks_k {A A' : World} {row : Option Nat} {B C : Nat} {ds : List Deferred} (h : Marks B A ds) (hg : A.grownBy A' row) (hr : ∀ r, row = some r → C ≤ r) (hC : ∀ d ∈ ds, ∃ D, d.target = .collected D ∧ D < C) : Marks B A' ds :=
  h.kept fun D _ hm hD => (hg.block D (Array.getElem?_eq_some_iff.1 hD).1 (fun e => by
    have := hr D e.symm
    obtain ⟨D', h1, h2⟩ := hC _ hm
    simp at h1
    omega)).trans hD

theorem rd_k {A A' : World} {row : Option Nat} {v : Value} {n : Nat} {cs : List Value} (h : Rd A v n cs) (hg : A.grownBy A' row) (hr : ∀ r, row = some r → ∃ o : Obj, A.heap[r]? = some o ∧ o.isCells = false) : Rd A' v n cs := by
  obtain ⟨a, c, rfl, h1, h2, h3, h4⟩ := h
  refine ⟨a, c, rfl, h1, h2, h3, fun hn => ?_⟩
  obtain ⟨b, off, rfl, hlt, hc⟩ := h4 hn
  exact ⟨b, off, rfl, Nat.lt_of_lt_of_le hlt hg.size, fun j u hu => cell_kept (hc j u hu) hg hr⟩

/-- numbers of points as cells -/
abbrev nats (q : List Nat) : List Value := q.map fun i => Value.int .i64 ((i : Nat) : Int)

theorem QRow.tail1 {w : World} {base b off u : Nat} {t : List Nat} (h : QRow w base (.slice (some ⟨b, off, none⟩) (t.length + 1) 1) (nats (u :: t))) : QRow w base (.slice (some ⟨b, off, none⟩) t.length 0) (nats t) := by
  have e : (nats t).length = t.length := by simp
  have h' : QRow w base (.slice (some ⟨b, off, none⟩) ((nats t).length + 1) 1) (Value.int .i64 (u : Int) :: nats t) := by rw [e]; exact h
  have := h'.tail (a := some ⟨b, off, none⟩) (by simp)
  rwa [e] at this
theorem QRow.tail2 {w : World} {base b off cap u : Nat} {t : List Nat} (h : QRow w base (.slice (some ⟨b, off, none⟩) (t.length + 1) cap) (nats (u :: t))) (hc : cap ≠ 1) : QRow w base (.slice (some ⟨b, off + 1, none⟩) t.length (cap - 1)) (nats t) := by
  have e : (nats t).length = t.length := by simp
  have h' : QRow w base (.slice (some ⟨b, off, none⟩) ((nats t).length + 1) cap) (Value.int .i64 (u : Int) :: nats t) := by rw [e]; exact h
  have := h'.tail (a := some ⟨b, off + 1, none⟩) (by rw [if_neg hc])
  rwa [e] at this

theorem owns_form {w : World} {base : Nat} {e : TypeId} {size : Nat} {v : Value} {n : Nat} {xs : List Value} (h : w.ownsRow base e size v n xs) (hn : 0 < n) : ∃ g cap, v = .slice (some ⟨g, 0, none⟩) n cap ∧ base ≤ g ∧ g < w.heap.size := by
  rcases h.2 with ⟨_, h0⟩ | ⟨g, cap, cur, hv, hb, hg, _⟩
  · omega
  · exact ⟨g, cap, hv, hb, (Array.getElem?_eq_some_iff.1 hg).1⟩
/-- an empty row of the call's own -/
theorem owns_empty {w : World} {base g : Nat} {e : TypeId} {size : Nat} (hg : g = w.heap.size) (hb : base ≤ w.heap.size) : (w.alloc (.cells #[] e)).ownsRow base e size (.slice (some ⟨g, 0, none⟩) 0 0) 0 [] := by
  subst hg
  exact ⟨by simp, .inr ⟨_, 0, #[], rfl, hb, World.alloc_heap_new w _, Nat.le_refl _, Nat.zero_le _, by simp, by simp⟩⟩

end Go.Proofs.Ytjeafgnaoncphaa
