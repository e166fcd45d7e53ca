/- What menger.find returns: the walk. Conditions: in each statement. -/
import Derived.Test.YtjeafgnaoncphaaBfsP
import Derived.Test.YtjeafgnaoncphaaRefFar
namespace Go.Proofs.Ytjeafgnaoncphaa
open Go.RowKit Gr

/-- a row of numbers as a slice -/
abbrev rowV (n x : Nat) : Value := .slice (some ⟨x, 0, none⟩) n n
/-- a table whose first rows are made -/
structure RoomB (n B : Nat) (w W : World) (g : Nat) (G : List Nat) : Prop where
  out : W.ownsRow B 28 1 (rowV n g) n ((G.map (rowV n)) ++ List.replicate (n - G.length) (.slice none 0 0))
  rows : ∀ i (h : i < G.length), W.ownsRow B 3 1 (rowV n G[i]) n (ints ((List.range n).map fun _ => 0))
  nd : G.Nodup
  apart : ∀ x ∈ G, x ≠ g
  le : G.length ≤ n
  below : Below B w W
theorem RoomB.step {n B : Nat} {w W : World} {g : Nat} {G : List Nat} (h : RoomB n B w W g G) (hl : G.length < n) (hB : B ≤ W.heap.size) {W1 : World} {x : Nat} (hx : W.heap.size ≤ x) (hr : W1.ownsRow W.heap.size 3 1 (rowV n x) n (ints ((List.range n).map fun _ => 0))) (hb : Below W.heap.size W W1) :
    RoomB n B w (W1.setCell ⟨g, G.length, none⟩ (rowV n x)) g (G ++ [x]) := by
  have ho := owns_later h.out hb
  have hgl := h.out.lt g rfl
  have hst := ho.stored G.length (rowV n x)
  have hg := grownBy_setCell_at W1 g G.length (rowV n x)
  have hxg : g ≠ x := by omega
  have hGx : ∀ y ∈ G, y ≠ x := fun y hy e => by
    obtain ⟨i, hi, rfl⟩ := List.mem_iff_getElem.1 hy
    have := ((h.rows i hi).lt G[i] rfl).2
    omega
  refine ⟨?_, fun i hi => ?_, ?_, fun y hy => ?_, by rw [List.length_append, List.length_singleton]; omega, (h.below.trans (hb.mono hB)).setCell (p := ⟨g, G.length, none⟩) hgl.1 _⟩
  · have e : (G.map (rowV n) ++ List.replicate (n - G.length) (Value.slice none 0 0)).set G.length (rowV n x) = (G ++ [x]).map (rowV n) ++ List.replicate (n - (G ++ [x]).length) (.slice none 0 0) := by
      have e1 : n - G.length = (n - (G.length + 1)) + 1 := by omega
      rw [List.set_append_right _ _ (by simp), List.length_map, Nat.sub_self, e1, List.replicate_succ, List.set_cons_zero, List.map_append, List.append_assoc, List.length_append, List.length_singleton]
      rfl
    rw [← e]
    exact hst.1
  · by_cases e : i < G.length
    · rw [List.getElem_append_left e]
      refine World.ownsRow.kept (owns_later (h.rows i e) hb) hg (.inr (fun e2 => ?_))
      have := h.apart _ (List.getElem_mem e)
      injection e2 with e2
      exact this e2
    · have e2 : i = G.length := by rw [List.length_append, List.length_singleton] at hi; omega
      subst e2
      rw [List.getElem_append_right (Nat.le_refl _)]
      simp only [Nat.sub_self, List.getElem_cons_zero]
      refine World.ownsRow.kept (owns_mono hr hB) hg (.inr (fun e2 => ?_))
      injection e2 with e2
      exact hxg e2.symm
  · rw [List.nodup_append]
    refine ⟨h.nd, by simp, fun y hy z hz e => ?_⟩
    rw [List.mem_singleton] at hz
    exact hGx y hy (e.trans hz)
  · rcases List.mem_append.1 hy with hy | hy
    · exact h.apart y hy
    · rw [List.mem_singleton] at hy; omega
theorem RoomB.done {n B : Nat} {w W : World} {g : Nat} {G : List Nat} (h : RoomB n B w W g G) (hl : G.length = n) : FarM n B w W (rowV n g) G (fun _ _ => 0) := by
  refine ⟨?_, h.rows, h.nd, fun x hx e => ?_, h.below⟩
  · have := h.out
    rw [hl, Nat.sub_self, List.replicate_zero, List.append_nil] at this
    rw [hl]
    exact this
  · injection e with e
    exact h.apart x hx e.symm
theorem far_cells {n B : Nat} {w W : World} {g : Nat} {G : List Nat} {E : Nat → Nat → Int} (h : FarM n B w W (rowV n g) G E) (hG : G.length = n) {x y : Nat} (hx : x < n) (hy : y < n) :
    W.cell? ⟨g, x, none⟩ = some (rowV n (G[x]'(by omega))) ∧ W.cell? ⟨G[x]'(by omega), y, none⟩ = some (.int .i64 (E x y)) ∧ W.frozen? ⟨G[x]'(by omega), y, none⟩ = false := by
  have hxG : x < G.length := by omega
  refine ⟨?_, ?_, (h.rows x hxG).frozenAt y⟩
  · have := h.out
    rw [hG] at this
    exact owns_at this (by simp [hxG])
  · exact owns_at (h.rows x hxG) (by simp [hy])
/-- what a number is in the row a -/
theorem many_snocI (ls : List Ln) {k : Nat} (hk : k < ls.length) (x y : Int) : many (ls.take (k + 1)) x y = many (ls.take k) x y + (if joins x y ls[k] then 1 else 0) := by
  rw [List.take_succ_eq_append_getElem hk, many_snoc]

/-- the append onto a queue at an operation -/
theorem wpl_append_q {P : Program} {ops : Array Oper} {rest : List Oper} {o : Oper} {a : Act} {Q : Exit → Act → World → Prop} (s x : Operand) {W : World} {base : Nat} {v : Value} {q : List Value} {i : TypeInfo} (y : Int)
    (hq : QRow W base v q) (hgd : o.guard = none) (ho : o.op = .call { callee := .builtin .append, args := #[s, x], argTypes := #[28, 28] })
    (ht : P.underlying 28 = some (.slice 3)) (hi : P.info? 3 = some i) (hz : i.zero = some (.int .i64 0)) (hsize : i.size = 1) (hby : i.bytes = 8)
    (hs : a.eval s = v) (hx : a.eval x = .slice (some ⟨W.heap.size, 0, none⟩) 1 1) (hlen : q.length ≤ 1000) (hbase : base ≤ W.heap.size)
    (h : ∀ v' w', QRow w' base v' (q ++ [.int .i64 y]) → (W.alloc (.cells #[.int .i64 y] 3)).grownBy w' v.ownBlock → (v'.ownBlock = v.ownBlock ∨ v'.ownBlock = some (W.heap.size + 1)) → wpList P ops Q rest (a.put o.dst v') w') :
    wpList P ops Q (o :: rest) a (W.alloc (.cells #[.int .i64 y] 3)) := by
  have hb := below_alloc' W (.cells #[.int .i64 y] 3)
  have hvl : v.ownBlock ≠ none := by obtain ⟨b, e, _⟩ := hq.own; rw [e]; simp
  have hq' : QRow (W.alloc (.cells #[.int .i64 y] 3)) base v q := hq.kept (below_iff_grown.1 hb) hvl
  refine wpList_plain hgd fun K hK => ?_
  obtain ⟨v', w', hr, h2, h3, h4⟩ := run_append_q (P := P) o.type ht hi hz hsize hby hq' y W.heap.size (World.alloc_heap_new W _) hlen (by simp; omega)
  unfold Oper.wp execOp
  simp only [ho, resolve, invoke, builtin, Sem.run_bind, Sem.run_pure, Result.andThen_ok, List.map_toArray, List.map_cons, List.map_nil, hs, hx, hr]
  refine hK _ _ (h v' w' h2 h3 ?_)
  simpa using h4
theorem QRow.rest {P : Program} {W : World} {base b off cap : Nat} {u : Value} {q : List Value} (hu : P.underlying 28 = some (.slice (P.elem 28))) (hz : ∀ w', (sizeOf (P.elem 28)).run P w' = .ok 1 w') (h : QRow W base (.slice (some ⟨b, off, none⟩) (q.length + 1) cap) (u :: q)) :
    ∃ a', (∀ w', (Instr.slice 28 (.slice (some ⟨b, off, none⟩) (q.length + 1) cap) (some (.int .i64 1)) none none).run P w' = .ok (.slice a' q.length (cap - 1)) w') ∧ QRow W base (.slice a' q.length (cap - 1)) q ∧ (Value.slice a' q.length (cap - 1)).ownBlock = some b := by
  refine ⟨if cap = 1 then some ⟨b, off, none⟩ else some ⟨b, off + 1, none⟩, fun w' => ?_, h.tail rfl, by split <;> rfl⟩
  rw [run_slice_l w' 28 _ _ _ hu .i64 1 (by omega) (by omega), hz]
  by_cases e : cap = 1
  · simp [Result.andThen, sliced, e]
  · simp [Result.andThen, sliced, e, Addr.add]
theorem elem_intsM : Try.prog.elem 28 = 3 := by kernel_rfl
theorem und_intsM : Try.prog.underlying 28 = some (.slice (Try.prog.elem 28)) := by kernel_rfl
theorem sized_intsM (w : World) : (sizeOf (Try.prog.elem 28)).run Try.prog w = .ok 1 w := by rw [elem_intsM]; exact sized_of info_int w
theorem FarM.kept {n B : Nat} {w W W' : World} {g : Nat} {G : List Nat} {E : Nat → Nat → Int} {row : Option Nat} (h : FarM n B w W (rowV n g) G E) (hg : W.grownBy W' row) (hB : B ≤ W.heap.size) (hr : ∀ r, row = some r → B ≤ r ∧ r ≠ g ∧ ∀ x ∈ G, x ≠ r) : FarM n B w W' (rowV n g) G E := by
  refine ⟨h.out.kept hg (.inr fun e => (hr g e.symm).2.1 rfl), fun i hi => (h.rows i hi).kept hg (.inr fun e => (hr _ e.symm).2.2 _ (List.getElem_mem hi) rfl), h.nd, h.apart, h.below.grown hg hB (fun k hk => (hr k hk).1)⟩

/-- what lies in memory while one looks for a way -/
structure BfsM (n : Nat) (w : World) (g : Nat) (G : List Nat) (R : Nat → Nat → Int) (x0 : Nat) (F : Nat → Int) (tv : Value) (q : List Nat) (W : World) : Prop where
  room : FarM n w.heap.size w W (rowV n g) G R
  frm : W.ownsRow w.heap.size 3 1 (rowV n x0) n (ints ((List.range n).map F))
  que : QRow W w.heap.size tv (nats q)
  ap : x0 ≠ g ∧ ∀ x ∈ G, x ≠ x0
  aq : ∀ r, tv.ownBlock = some r → r ≠ x0 ∧ r ≠ g ∧ ∀ x ∈ G, x ≠ r
section
variable {n : Nat} {w : World} {g : Nat} {G : List Nat} {R : Nat → Nat → Int} {x0 : Nat} {F : Nat → Int} {tv : Value} {q : List Nat} {W : World}
theorem BfsM.size (h : BfsM n w g G R x0 F tv q W) : w.heap.size ≤ W.heap.size := h.room.below.size
theorem BfsM.setF (h : BfsM n w g G R x0 F tv q W) (j : Nat) (v : Int) : BfsM n w g G R x0 (fun u => if u = j then v else F u) tv q (W.setCell ⟨x0, j, none⟩ (.int .i64 v)) := by
  have hg := grownBy_setCell_at W x0 j (.int .i64 v)
  have hx := h.frm.lt x0 rfl
  refine ⟨h.room.kept hg h.size (fun r hr => by cases hr; exact ⟨hx.1, h.ap.1, h.ap.2⟩), ?_, h.que.kept hg (fun e => (h.aq x0 e).1 rfl), h.ap, h.aq⟩
  have := (h.frm.stored j (.int .i64 v)).1
  rw [ints_set, range_set] at this
  exact this
theorem BfsM.queued (h : BfsM n w g G R x0 F tv q W) {W' : World} {v' : Value} {y : Nat} (hq : QRow W' w.heap.size v' (nats q ++ [.int .i64 (y : Int)])) (hg : (W.alloc (.cells #[.int .i64 (y : Int)] 3)).grownBy W' tv.ownBlock) (ho : v'.ownBlock = tv.ownBlock ∨ v'.ownBlock = some (W.heap.size + 1)) :
    BfsM n w g G R x0 F v' (q ++ [y]) W' := by
  have hb := below_alloc' W (.cells #[.int .i64 (y : Int)] 3)
  have hr1 := h.room.later hb h.size
  have hf1 := owns_later h.frm hb
  obtain ⟨b, eb, hbB, hbl, _⟩ := h.que.own
  have hrow : ∀ r, tv.ownBlock = some r → w.heap.size ≤ r ∧ r ≠ g ∧ ∀ x ∈ G, x ≠ r := fun r hr => by
    rw [eb] at hr
    cases hr
    exact ⟨hbB, (h.aq b eb).2⟩
  refine ⟨hr1.kept hg (by have := h.size; simp; omega) hrow, hf1.kept hg (.inr fun e => (h.aq x0 e.symm).1 rfl), ?_, h.ap, fun r hr => ?_⟩
  · have e : nats (q ++ [y]) = nats q ++ [.int .i64 (y : Int)] := by simp [nats]
    rw [e]; exact hq
  · rcases ho with e | e
    · rw [e] at hr; exact h.aq r hr
    · rw [e] at hr
      cases hr
      have h1 := (h.frm.lt x0 rfl).2
      have h2 := (h.room.out.lt g rfl).2
      refine ⟨by omega, by omega, fun x hx e => ?_⟩
      obtain ⟨i, hi, rfl⟩ := List.mem_iff_getElem.1 hx
      have := ((h.room.rows i hi).lt G[i] rfl).2
      omega
end
/-- what a row is while it is filled with -1 -/
theorem fill_succ {n i : Nat} : ((List.range n).map fun y => if y < i then (-1 : Int) else 0).set i (-1) = (List.range n).map fun y => if y < i + 1 then (-1 : Int) else 0 := by
  rw [range_set]
  refine List.map_congr_left fun y _ => ?_
  by_cases e : y = i
  · rw [if_pos e, if_pos (by omega)]
  · rw [if_neg e]
    by_cases e2 : y < i
    · rw [if_pos e2, if_pos (by omega)]
    · rw [if_neg e2, if_neg (by omega)]

theorem QRow.empty {w : World} {base : Nat} {v : Value} (h : QRow w base v (nats [])) : ∃ b o c, v = .slice (some ⟨b, o, none⟩) 0 c := by
  obtain ⟨b, o, c, _, e, _⟩ := h
  exact ⟨b, o, c, e⟩
theorem setSzM (W : World) (a : Addr) (v : Value) : (W.setCell a v).heap.size = W.heap.size := by simp [World.setCell]
theorem nats_len (q : List Nat) : (nats q).length = q.length := by simp [nats]
/-- the front of the queue -/
theorem BfsM.front {n : Nat} {w : World} {g : Nat} {G : List Nat} {R : Nat → Nat → Int} {x0 : Nat} {F : Nat → Int} {tv : Value} {u : Nat} {t : List Nat} {W : World} (h : BfsM n w g G R x0 F tv (u :: t) W) :
    ∃ b off cap, tv = .slice (some ⟨b, off, none⟩) (t.length + 1) cap ∧ t.length + 1 ≤ cap ∧ cap ≤ maxLen ∧ W.cell? ⟨b, off, none⟩ = some (.int .i64 (u : Int)) ∧ b < W.heap.size := by
  have hq : QRow W w.heap.size tv (.int .i64 (u : Int) :: nats t) := h.que
  obtain ⟨b, off, cap, e, h1, h2, h3⟩ := hq.head
  rw [nats_len] at e h1
  refine ⟨b, off, cap, e, h1, h2, h3, ?_⟩
  obtain ⟨b', e', _, hb, _⟩ := hq.own
  rw [e] at e'
  cases e'
  exact hb
theorem BfsM.pop {n : Nat} {w : World} {g : Nat} {G : List Nat} {R : Nat → Nat → Int} {x0 : Nat} {F : Nat → Int} {u : Nat} {t : List Nat} {W : World} {b off cap : Nat} (h : BfsM n w g G R x0 F (.slice (some ⟨b, off, none⟩) (t.length + 1) cap) (u :: t) W) :
    ∃ a', (∀ w', (Instr.slice 28 (.slice (some ⟨b, off, none⟩) (t.length + 1) cap) (some (.int .i64 1)) none none).run Try.prog w' = .ok (.slice a' t.length (cap - 1)) w') ∧ BfsM n w g G R x0 F (.slice a' t.length (cap - 1)) t W := by
  have hq : QRow W w.heap.size (.slice (some ⟨b, off, none⟩) ((nats t).length + 1) cap) (.int .i64 (u : Int) :: nats t) := by rw [nats_len]; exact h.que
  obtain ⟨a', h1, h2, h3⟩ := QRow.rest (P := Try.prog) und_intsM sized_intsM hq
  rw [nats_len] at h1 h2 h3
  refine ⟨a', h1, h.room, h.frm, h2, h.ap, fun r hr => ?_⟩
  rw [h3] at hr
  exact h.aq r hr

open Classical in
/-- how many points are not come to, read from the row -/
noncomputable def negs (n x0 : Nat) (W : World) : Nat := ((List.range n).filter fun i => decide (W.cell? ⟨x0, i, none⟩ = some (.int .i64 (-1)))).length
theorem BfsM.negsEq {n : Nat} {w : World} {g : Nat} {G : List Nat} {R : Nat → Nat → Int} {x0 : Nat} {F : Nat → Int} {tv : Value} {q : List Nat} {W : World} {a : Nat} {ord : List Nat} (h : BfsM n w g G R x0 F tv q W) (hc : ComeR n a R ord F) : negs n x0 W + ord.length = n := by
  classical
  have e1 : negs n x0 W = ((List.range n).filter fun i => !decide (i ∈ ord)).length := by
    unfold negs
    congr 1
    refine List.filter_congr fun i hi => ?_
    have hin := List.mem_range.1 hi
    have hcell := owns_at h.frm (k := i) (u := .int .i64 (F i)) (by simp [hin])
    rw [hcell, Bool.eq_iff_iff, decide_eq_true_eq]
    simp only [Bool.not_eq_true', decide_eq_false_iff_not]
    rw [← hc.non i hin]
    have := hc.low i hin
    constructor
    · intro e
      have : F i = -1 := by injection e with e; injection e
      omega
    · intro hlt
      have : F i = -1 := by omega
      rw [this]
  have e2 : ((List.range n).filter fun i => decide (i ∈ ord)).length = ord.length := by
    refine List.Perm.length_eq ((List.perm_ext_iff_of_nodup (List.Pairwise.filter _ List.nodup_range) hc.nd).2 fun b => ?_)
    rw [List.mem_filter, List.mem_range, decide_eq_true_eq]
    exact ⟨fun h => h.2, fun hb => ⟨hc.lt b hb, hb⟩⟩
  have e3 := (List.filter_append_perm (fun i => decide (i ∈ ord)) (List.range n)).length_eq
  rw [List.length_append, List.length_range, e2] at e3
  omega

set_option maxRecDepth 100000 in
set_option maxHeartbeats 8000000 in
theorem menger_find (n : Nat) (v : Value) (ls : List Ln) (a b : Nat) (w : World) (hr : LinesRd w v ls) (hg : GoodG n ls) (ha : a < n) (hb : b < n) (hab : a ≠ b) :
    Calls Try.prog 50 #[.int .i64 (n : Int), v, .int .i64 (a : Int), .int .i64 (b : Int)] w fun e w' => ∃ (k s : Nat), e = .returned (.tuple #[.int .i64 (k : Int), .int .u64 (s : Int)]) ∧
      (∀ T : Nat → Bool, T a = true → T b = false → k ≤ cutL ls T) ∧ (∃ T : Nat → Bool, T a = true ∧ T b = false ∧ k = cutL ls T) ∧ Below w.heap.size w w' := by
  obtain ⟨i0, hi, hz0, hz1, hz2⟩ := info_parts info_int
  obtain ⟨i1, hi1, hy0, hy1, hy2⟩ := info_parts info_ints
  have hn1 := hg.1
  have hn8 := hg.2.1
  have hl24 := hg.2.2.1
  have HG := Lib.hid hg
  clear hg
  obtain ⟨av, cv, rfl, _⟩ := id hr
  go_enter Try.func50, Try.ntmps50
  go_wp2_with (at_make; go_must (refine wpList_make_full _ rfl _ _ _ rfl w.heap.size 28 i1 (.slice none 0 0) 1 Try.underlying89 hi1 hy0 hy1 .i64 .i64 _ _ n rfl rfl rfl rfl (by rw [hy2]; omega) (by unfold maxLen; omega) (Nat.le_refl _) ?_); intro w1 hown hgr)
  have hR0 : RoomB n w.heap.size w w1 w.heap.size [] := by
    refine ⟨?_, fun i h => absurd h (by simp), List.nodup_nil, fun x h => (by cases h), by simp, below_iff_grown.2 hgr⟩
    have ez : (madeCells (Value.slice none 0 0).cells (n * 1)).toList = List.replicate n (Value.slice none 0 0) := by
      rw [Nat.mul_one]; show (madeCells #[Value.slice none 0 0] n).toList = _
      rw [toList_madeCells_one]
    rw [ez] at hown
    simpa using hown
  clear hown hgr
  go_wp2_with fail
  go_loopw [27] (fun ii wr => ∃ G : List Nat, ii = .int .i64 (G.length : Int) ∧ RoomB n w.heap.size w wr w.heap.size G) (fun ii _ => n - (intOf ii).toNat)
  case atStart => exact ⟨[], rfl, hR0⟩
  case round =>
    clear hR0
    obtain ⟨G, rfl, hR⟩ := hrel
    have hGn := hR.le
    have hws := hR.below.size
    obtain ⟨wa, hwa⟩ : ∃ wa, wa = wr := ⟨wr, rfl⟩
    subst hwa
    by_cases hlt : G.length < n
    · have hli : (G.length : Int) < (n : Int) := by omega
      have hgw := hR.out.lt w.heap.size rfl
      have HK : Hid (∀ W', Below wa.heap.size wa W' → W'.frozen? ⟨w.heap.size, G.length, none⟩ = false ∧ W'.cell? ⟨w.heap.size, G.length, none⟩ = some (.slice none 0 0)) := fun W' hB' => by
        refine ⟨(owns_later hR.out hB').frozenAt G.length, owns_at (owns_later hR.out hB') ?_⟩
        rw [List.getElem?_append_right (by simp), List.length_map, Nat.sub_self]
        obtain ⟨d, hd⟩ : ∃ d, n - G.length = d + 1 := ⟨n - G.length - 1, by omega⟩
        rw [hd]
        rfl
      go_wp2_with (at_make; go_must (refine wpList_make_full _ rfl _ _ _ rfl wa.heap.size 3 i0 (.int .i64 0) 1 Try.underlying28 hi hz0 hz1 .i64 .i64 _ _ n rfl rfl rfl rfl (by rw [hz2]; omega) (by unfold maxLen; omega) (Nat.le_refl _) ?_); intro w2 hown2 hgr2; obtain ⟨hfo, hco⟩ := HK.out w2 (below_iff_grown.2 hgr2))
      have hB2 := below_iff_grown.2 hgr2
      have ez : (madeCells (Value.int .i64 0).cells (n * 1)).toList = ints ((List.range n).map fun _ => 0) := by
        rw [Nat.mul_one]; show (madeCells #[Value.int .i64 0] n).toList = _
        rw [toList_madeCells_one]
        refine List.ext_getElem? fun i => ?_
        by_cases hi : i < n
        · simp [hi]
        · rw [List.getElem?_eq_none (by simp; omega), List.getElem?_eq_none (by simp; omega)]
      rw [ez] at hown2
      have hST := hR.step hlt hws (Nat.le_refl _) hown2 hB2
      go_roundw
      case rel => exact ⟨G ++ [wa.heap.size], by rw [List.length_append, List.length_singleton]; go_num, hST⟩
      case measure => simp [intOf]; omega
    · have hGl : G.length = n := by omega
      have hM := hR.done hGl
      have HGL := Lib.hid hGl
      rw [hGl]
      clear hGl hlt hR hGn
      have hM0 : FarM n w.heap.size w wa (rowV n w.heap.size) G (fun x y => (many (ls.take 0) (x : Int) (y : Int) : Int)) := hM.of_eq fun _ _ => rfl
      clear hM
      go_wp2_with fail
      go_loopw [38] (fun ii wr => ∃ k : Nat, k ≤ ls.length ∧ ii = .int .i64 k ∧ FarM n w.heap.size w wr (rowV n w.heap.size) G (fun x y => (many (ls.take k) (x : Int) (y : Int) : Int))) (fun ii _ => ls.length - (intOf ii).toNat)
      case atStart => exact ⟨0, by omega, rfl, hM0⟩
      case round =>
        clear hM0
        obtain ⟨k, hk, rfl, hM⟩ := hrel
        have hwr := hM.below.size
        by_cases hlk : k < ls.length
        · have hki : (k : Int) < (ls.length : Int) := by omega
          obtain ⟨_, _, e, _, _, _, hcx⟩ := hr.later hM.below
          cases e
          obtain ⟨bl, ol, rfl, hbl, hcl⟩ := hcx (by omega)
          obtain ⟨g1, g2⟩ := lines_at hcl hlk
          have HMS := Lib.hid (many_snocI ls hlk)
          have hlg := HG.out.2.2.2 _ (List.getElem_mem hlk)
          clear hcl hcx
          generalize ls[k] = l at *
          obtain ⟨p, q⟩ := l
          obtain ⟨p, rfl⟩ : ∃ k : Nat, p = (k : Int) := ⟨p.toNat, by simp only at hlg; omega⟩
          obtain ⟨q, rfl⟩ : ∃ k : Nat, q = (k : Int) := ⟨q.toNat, by simp only at hlg; omega⟩
          simp only at g1 g2 hlg
          have hp : p < n := by omega
          have hq : q < n := by omega
          have hpq : p ≠ q := by omega
          have hpi : (p : Int) < (n : Int) := by omega
          have hqi : (q : Int) < (n : Int) := by omega
          have hpG : p < G.length := by rw [HGL.out]; exact hp
          have hqG : q < G.length := by rw [HGL.out]; exact hq
          have hml1 := many_le (ls.take k) (p : Int) (q : Int)
          have hml2 := many_le (ls.take k) (q : Int) (p : Int)
          have htl : (ls.take k).length ≤ 24 := by simp; omega
          have HME : Hid (∀ x y : Nat, (many (ls.take (k + 1)) (x : Int) (y : Int) : Int) = if x = q ∧ y = p then (many (ls.take k) (q : Int) (p : Int) : Int) + 1 else if x = p ∧ y = q then (many (ls.take k) (p : Int) (q : Int) : Int) + 1 else (many (ls.take k) (x : Int) (y : Int) : Int)) := fun x y => by
            rw [HMS.out]
            have hj : joins (x : Int) (y : Int) ((p : Int), (q : Int)) = true ↔ (x = p ∧ y = q) ∨ (x = q ∧ y = p) := by
              unfold joins
              simp only [Bool.or_eq_true, Bool.and_eq_true, beq_iff_eq]
              omega
            by_cases e1 : x = q ∧ y = p
            · rw [if_pos e1, if_pos (hj.2 (.inr e1)), e1.1, e1.2]; omega
            · rw [if_neg e1]
              by_cases e2 : x = p ∧ y = q
              · rw [if_pos e2, if_pos (hj.2 (.inl e2)), e2.1, e2.2]; omega
              · rw [if_neg e2, if_neg (fun h => (hj.1 h).elim e2 e1)]; omega
          go_wp2_with fail
          have hB1 := below_alloc' wr (.cells #[.int .i64 (p : Int), .int .i64 (q : Int)] 33)
          have hM1 := hM.later hB1 hwr
          have cS : ∀ j u, (#[Value.int .i64 (p : Int), Value.int .i64 (q : Int)] : Array Value)[j]? = some u → (wr.alloc (.cells #[.int .i64 (p : Int), .int .i64 (q : Int)] 33)).cell? ⟨wr.heap.size, j, none⟩ = some u := fun j u hu => by
            rw [cell_of_row _ _ _ _ _ (0, 0) (World.alloc_heap_new wr _)]
            exact hu
          have cS1 : (wr.alloc (.cells #[.int .i64 (p : Int), .int .i64 (q : Int)] 33)).cell? ⟨wr.heap.size, 0, none⟩ = some (.int .i64 (p : Int)) := cS 0 _ rfl
          have cS2 : (wr.alloc (.cells #[.int .i64 (p : Int), .int .i64 (q : Int)] 33)).cell? ⟨wr.heap.size, 1, none⟩ = some (.int .i64 (q : Int)) := cS 1 _ rfl
          have hSz : wr.heap.size < (wr.alloc (.cells #[.int .i64 (p : Int), .int .i64 (q : Int)] 33)).heap.size := by simp
          have hGS : ∀ (x : Nat) (hx : x < G.length), G[x] ≠ wr.heap.size := fun x hx e => by
            have := ((hM.rows x hx).lt G[x] rfl).2
            omega
          generalize wr.alloc (.cells #[.int .i64 (p : Int), .int .i64 (q : Int)] 33) = V1 at *
          generalize hSb : wr.heap.size = S at *
          clear hM hB1 cS g1 g2 hbl hSb
          obtain ⟨r1, r2, r3⟩ := far_cells hM1 HGL.out hp hq
          have hp0 : (0 : Int) ≤ (p : Int) := by omega
          have hq0 : (0 : Int) ≤ (q : Int) := by omega
          have hpn : ¬ (p : Int) < 0 := by omega
          have hqn : ¬ (q : Int) < 0 := by omega
          have hpt : ((p : Int)).toNat = p := by omega
          have hqt : ((q : Int)).toNat = q := by omega
          have wp : IntKind.i64.wrap (p : Int) = (p : Int) := IntWalk.i64_in _ (by omega)
          have wq : IntKind.i64.wrap (q : Int) = (q : Int) := IntWalk.i64_in _ (by omega)
          have wm1 : IntKind.i64.wrap ((many (ls.take k) (p : Int) (q : Int) : Int) + 1) = (many (ls.take k) (p : Int) (q : Int) : Int) + 1 := IntWalk.i64_in _ (by omega)
          have hM2 := ((hM1.set hpG q ((many (ls.take k) (p : Int) (q : Int) : Int) + 1)).later (Below.refl _ _).drew (by have := hM1.below.size; simp [World.setCell]; omega))
          have hgS := hGS p hpG
          have gq := grownBy_setCell_at V1 G[p] q (.int .i64 ((many (ls.take k) (p : Int) (q : Int) : Int) + 1))
          have cT1 := gq.cell cS1 (fun e => hgS (by injection e with e; exact e.symm))
          have cT2 := gq.cell cS2 (fun e => hgS (by injection e with e; exact e.symm))
          generalize hgp : G[p] = gp at *
          have HGP := Lib.hid hgp
          clear hgp
          go_wp2_with fail
          refine wp_region_still_tail 11 (by kernel_rfl) (by kernel_rfl) ?_
          simp only [List.take_succ_cons, List.take_zero, List.drop_succ_cons, List.drop_zero]
          change wpStill _ _ (World.drew _) _ _ _
          repeat still_step
          refine wpStill_nil ?_
          change wpList _ _ _ _ _ (World.drew _)
          go_wp2_with fail
          have hD := (Below.refl (V1.setCell ⟨gp, q, none⟩ (.int .i64 ((many (ls.take k) (p : Int) (q : Int) : Int) + 1))).heap.size (V1.setCell ⟨gp, q, none⟩ (.int .i64 ((many (ls.take k) (p : Int) (q : Int) : Int) + 1)))).drew
          have hSz2 : S < (V1.setCell ⟨gp, q, none⟩ (.int .i64 ((many (ls.take k) (p : Int) (q : Int) : Int) + 1))).heap.size := by simp [World.setCell]; omega
          have dT1 := (hD.cell (p := ⟨S, 0, none⟩) hSz2).trans cT1
          have dT2 := (hD.cell (p := ⟨S, 1, none⟩) hSz2).trans cT2
          clear r1 r2 r3 cS1 cS2 cT1 cT2 gq hD hSz2 hM1 hSz wm1
          generalize (V1.setCell ⟨gp, q, none⟩ (.int .i64 ((many (ls.take k) (p : Int) (q : Int) : Int) + 1))).drew = V2 at *
          obtain ⟨r1, r2, r3⟩ := far_cells hM2 HGL.out hq hp
          rw [if_neg (by omega)] at r2
          have wm2 : IntKind.i64.wrap ((many (ls.take k) (q : Int) (p : Int) : Int) + 1) = (many (ls.take k) (q : Int) (p : Int) : Int) + 1 := IntWalk.i64_in _ (by omega)
          have hM3 := ((hM2.set hqG p ((many (ls.take k) (q : Int) (p : Int) : Int) + 1)).later (Below.refl _ _).drew (by have := hM2.below.size; simp [World.setCell]; omega)).of_eq (E' := fun x y => (many (ls.take (k + 1)) (x : Int) (y : Int) : Int)) (fun x y => (HME.out x y).symm)
          generalize G[q] = gq at *
          refine wp_region_still_tail 11 (by kernel_rfl) (by kernel_rfl) ?_
          simp only [List.take_succ_cons, List.take_zero, List.drop_succ_cons, List.drop_zero]
          change wpStill _ _ (World.drew _) _ _ _
          repeat still_step
          refine wpStill_nil ?_
          change wpList _ _ _ _ _ (World.drew _)
          go_wp2
          go_roundw
          case rel => exact ⟨k + 1, by omega, by go_num, hM3⟩
          case measure => simp [intOf]; omega
        · obtain rfl : k = ls.length := by omega
          have e : ls.take ls.length = ls := List.take_of_length_le (Nat.le_refl _)
          rw [e] at hM
          clear e
          have hF0 : Hid (Flow n ls a b (netK a b ((0 : Nat) : Int)) (fun x y => (many ls (x : Int) (y : Int) : Int))) := flow_start ls a b
          go_wp2_with fail
          go_loopw [14] (fun mm wr => ∃ (k : Nat) (R : Nat → Nat → Int), mm = .int .i64 k ∧ Hid (Flow n ls a b (netK a b (k : Int)) R) ∧ FarM n w.heap.size w wr (rowV n w.heap.size) G R) (fun mm _ => 25 - (intOf mm).toNat)
          case atStart => exact ⟨0, _, rfl, hF0, hM⟩
          case round =>
            clear hM hF0
            obtain ⟨k, R, rfl, HF, hM⟩ := hrel
            have hwr := hM.below.size
            have hk24 := flow_bound HG.out HF.out ha hab
            obtain ⟨wb, hwb⟩ : ∃ wb, wb = wr := ⟨wr, rfl⟩
            subst hwb
            go_wp2_with (at_make; go_must (refine wpList_make_full _ rfl _ _ _ rfl w.heap.size 3 i0 (.int .i64 0) 1 Try.underlying28 hi hz0 hz1 .i64 .i64 _ _ n rfl rfl rfl rfl (by rw [hz2]; omega) (by unfold maxLen; omega) hwr ?_); intro w2 hown2 hgr2)
            have ez : (madeCells (Value.int .i64 0).cells (n * 1)).toList = ints ((List.range n).map fun y => if y < 0 then (-1 : Int) else 0) := by
              rw [Nat.mul_one]; show (madeCells #[Value.int .i64 0] n).toList = _
              rw [toList_madeCells_one]
              refine List.ext_getElem? fun i => ?_
              by_cases hi : i < n
              · simp [hi]
              · rw [List.getElem?_eq_none (by simp; omega), List.getElem?_eq_none (by simp; omega)]
            rw [ez] at hown2
            have hB2 := below_iff_grown.2 hgr2
            have hM2 := hM.later hB2 hwr
            have hx0 : wb.heap.size ≠ w.heap.size ∧ ∀ x ∈ G, x ≠ wb.heap.size := by
              have h1 := (hM.out.lt w.heap.size rfl).2
              refine ⟨by omega, fun x hx e => ?_⟩
              obtain ⟨i, hi, rfl⟩ := List.mem_iff_getElem.1 hx
              have := ((hM.rows i hi).lt G[i] rfl).2
              omega
            clear ez hgr2 hM
            go_wp2_with fail
            go_loopw [71] (fun ii wr => ∃ i : Nat, i ≤ n ∧ ii = .int .i64 i ∧ FarM n w.heap.size w wr (rowV n w.heap.size) G R ∧ wr.ownsRow w.heap.size 3 1 (rowV n wb.heap.size) n (ints ((List.range n).map fun y => if y < i then (-1 : Int) else 0))) (fun ii _ => n - (intOf ii).toNat)
            case atStart => exact ⟨0, by omega, rfl, hM2, hown2⟩
            case round =>
              clear hM2 hown2 hB2
              obtain ⟨i, hi', rfl, hM, hown⟩ := hrel
              have hwr2 := hM.below.size
              by_cases hli : i < n
              · have hii : (i : Int) < (n : Int) := by omega
                have hci := owns_at hown (k := i) (u := .int .i64 (if i < i then (-1 : Int) else 0)) (by simp [hli])
                have hfi := hown.frozenAt i
                have own3 := (hown.stored i (.int .i64 (-1))).1
                rw [ints_set, fill_succ] at own3
                have hM3 := hM.kept (grownBy_setCell_at wr wb.heap.size i (.int .i64 (-1))) hwr2 (fun r e => by cases e; exact ⟨hwr, hx0⟩)
                clear hown hM
                go_wp2
                go_roundw
                case rel => exact ⟨i + 1, by omega, by go_num, hM3, own3⟩
                case measure => simp [intOf]; omega
              · obtain rfl : i = n := by omega
                obtain ⟨n, hnn⟩ : ∃ n, n = i := ⟨i, rfl⟩
                subst hnn
                have e : ((List.range n).map fun y => if y < n then (-1 : Int) else 0) = (List.range n).map fun _ => -1 := List.map_congr_left fun y hy => by rw [if_pos (List.mem_range.1 hy)]
                rw [e] at hown
                clear e
                have hai : (a : Int) < (n : Int) := by omega
                have hca := owns_at hown (k := a) (u := .int .i64 (-1)) (by simp [ha])
                have hfa := hown.frozenAt a
                have own3 := (hown.stored a (.int .i64 (a : Int))).1
                rw [ints_set, range_set] at own3
                have gq := grownBy_setCell_at wr wb.heap.size a (.int .i64 (a : Int))
                have hM3 := hM.kept gq hwr2 (fun r e => by cases e; exact ⟨hwr, hx0⟩)
                have hsz3 : (wr.setCell ⟨wb.heap.size, a, none⟩ (.int .i64 (a : Int))).heap.size = wr.heap.size := by simp [World.setCell]
                have hb3 := below_alloc' (wr.setCell ⟨wb.heap.size, a, none⟩ (.int .i64 (a : Int))) (.cells #[.int .i64 (a : Int)] 3)
                have hI : BfsM n w w.heap.size G R wb.heap.size (fun x => if x = a then (a : Int) else -1) (.slice (some ⟨wr.heap.size, 0, none⟩) 1 1) [a] ((wr.setCell ⟨wb.heap.size, a, none⟩ (.int .i64 (a : Int))).alloc (.cells #[.int .i64 (a : Int)] 3)) := by
                  refine ⟨hM3.later hb3 (by rw [hsz3]; exact hwr2), owns_later own3 hb3, QRow.of_lit (w := wr.setCell ⟨wb.heap.size, a, none⟩ (.int .i64 (a : Int))) (xs := nats [a]) hsz3.symm rfl rfl (by rw [hsz3]; exact hwr2) (by simp [maxLen]), hx0, fun r hr => ?_⟩
                  have hr2 : wr.heap.size = r := Option.some.inj hr
                  subst hr2
                  have h1 := (hown.lt wb.heap.size rfl).2
                  have h2 := (hM.out.lt w.heap.size rfl).2
                  refine ⟨by omega, by omega, fun x hx e => ?_⟩
                  obtain ⟨i, hi, rfl⟩ := List.mem_iff_getElem.1 hx
                  have := ((hM.rows i hi).lt G[i] rfl).2
                  omega
                clear hM hM3 gq hown own3 hb3
                go_wp2_with fail
                have hC0 := Lib.hid (come_start (R := R) ha)
                have hD0 : Hid (BDone n R [a] 0 0) := comed_start rfl
                go_loopw [17] (fun tv wx => ∃ (ord : List Nat) (F : Nat → Int) (h : Nat), h ≤ ord.length ∧ Hid (ComeR n a R ord F) ∧ Hid (BDone n R ord h 0) ∧ BfsM n w w.heap.size G R wb.heap.size F tv (ord.drop h) wx) (fun tv wx => 2 * negs n wb.heap.size wx + lenOf tv)
                case atStart => exact ⟨[a], _, 0, by simp, hC0, hD0, hI⟩
                case round =>
                  clear hI hC0 hD0 hca hfa hsz3
                  obtain ⟨ord, F, h, hh, HC, HD, hI⟩ := hrel
                  have hfew := HC.out.few
                  by_cases hlh : h < ord.length
                  · have hdr : ord.drop h = ord[h] :: ord.drop (h + 1) := List.drop_eq_getElem_cons hlh
                    have hun := HC.out.lt _ (List.getElem_mem hlh)
                    have hmu := hI.negsEq HC.out
                    have hMU : Hid (2 * negs n wb.heap.size wr + (ord.length - h) = 2 * n - ord.length - h) := by show _ = _; omega
                    rw [hdr] at hI
                    generalize ord[h] = u at *
                    obtain ⟨bq, oq, cq, rfl, hq1, hq2, hqc, _⟩ := hI.front
                    have hdl : (ord.drop (h + 1)).length + 1 = ord.length - h := by simp; omega
                    have hui : (u : Int) < (n : Int) := by omega
                    rw [hdl] at hI hq1
                    rw [hdl]
                    have hgt : decide (((ord.length - h : Nat) : Int) > 0) = true := by simp; omega
                    have hgt' : (0 : Int) < ((ord.length - h : Nat) : Int) := by omega
                    have HDR := Lib.hid hdr
                    have HU : Hid (ord[h]? = some u) := by
                      show _ = _
                      have : (ord.drop h)[0]? = some u := by rw [hdr]; rfl
                      simpa using this
                    generalize hL0 : ord.length - h = L0 at *
                    have HL0 := Lib.hid hL0
                    have h0L : 0 < L0 := by omega
                    have h0Ld : decide (0 < L0) = true := decide_eq_true h0L
                    obtain ⟨wc, hwc⟩ : ∃ wc, wc = wr := ⟨wr, rfl⟩
                    subst hwc
                    clear hdr hdl hL0 hmu hqc
                    go_wp2_with fail
                    go_loopw [17, 90] (fun tv jj wx => ∃ (j : Nat) (ord' : List Nat) (F' : Nat → Int), j ≤ n ∧ jj = .int .i64 j ∧ ord.length ≤ ord'.length ∧ ord'[h]? = some u ∧ Hid (ComeR n a R ord' F') ∧ Hid (BDone n R ord' h j) ∧ BfsM n w w.heap.size G R wb.heap.size F' tv (ord'.drop h) wx) (fun _ jj _ => n - (intOf jj).toNat)
                    case atStart => exact ⟨0, ord, F, by omega, rfl, Nat.le_refl _, HU.out, HC, HD, by rw [HDR.out]; exact hI⟩
                    case round =>
                      clear hI
                      obtain ⟨j, ord', F', hj, rfl, hol, hou, HC', HD', hI'⟩ := hrel
                      have hhl : h < ord'.length := by omega
                      have hdr' : ord'.drop h = u :: ord'.drop (h + 1) := by
                        rw [List.drop_eq_getElem_cons hhl]
                        congr 1
                        rw [List.getElem?_eq_getElem hhl] at hou
                        exact Option.some.inj hou
                      have hug : ord'[h] = u := by
                        rw [List.getElem?_eq_getElem hhl] at hou
                        exact Option.some.inj hou
                      have hI2 := hI'
                      rw [hdr'] at hI2
                      obtain ⟨bt, ot, ct, rfl, hc1, hc2, hcc, hbt⟩ := hI2.front
                      obtain ⟨a', hrun, hPop⟩ := hI2.pop
                      have hfew' := HC'.out.few
                      have hL2 : (ord'.drop (h + 1)).length = ord'.length - (h + 1) := by simp
                      generalize (ord'.drop (h + 1)).length = L2 at *
                      have HL2 := Lib.hid hL2
                      clear hL2 hI2
                      by_cases hlj : j < n
                      · have hji : (j : Int) < (n : Int) := by omega
                        obtain ⟨y1, y2, _⟩ := far_cells hI'.room HGL.out hun hlj
                        have cF := owns_at hI'.frm (k := j) (u := .int .i64 (F' j)) (by simp [hlj])
                        have fF := hI'.frm.frozenAt j
                        have hS := hI'.setF j (u : Int)
                        have HCP := Lib.hid (fun hF hR => HC'.out.push hhl hlj hF hR)
                        have HDM := Lib.hid ((HD'.out.more (x := j) hhl))
                        have HDN := Lib.hid (fun hx => HD'.out.next hhl hx)
                        have HNON := Lib.hid (HC'.out.non j hlj)
                        rw [hug] at HCP HDN
                        generalize hGu : G[u]'(by have := HGL.out; omega) = gu at *
                        generalize hFj : F' j = f at *
                        generalize hRu : R u j = r at *
                        have HOU := Lib.hid hou
                        have HHL := Lib.hid hhl
                        have hql : (nats (ord'.drop h)).length ≤ 1000 := by rw [nats_len]; simp; omega
                        have hSs := hS.size
                        clear hGu hFj hRu hug hou hdr' hPop
                        by_cases hf : f < 0
                        · have hfd : decide (f < 0) = true := decide_eq_true hf
                          by_cases hr1 : 1 ≤ r
                          · have hrd : decide (r > 0) = true := by simp; omega
                            have hrd' : 0 < r := by omega
                            have HC3 := Lib.hid (HCP.out hf hr1)
                            have HD3 := Lib.hid (HDM.out.next (j := j) (by simp; omega) (fun _ => List.mem_append_right _ (List.mem_singleton.2 rfl)))
                            clear HCP HDM HDN HNON
                            go_wp2_with (at_builtin; go_must (refine wpl_append_q _ _ (j : Int) hS.que rfl rfl Try.underlying28 hi hz0 hz1 hz2 rfl (by first | rfl | (rw [setSzM]; rfl)) hql hSs ?_); intro v8 w8 hq8 hg8 ho8)
                            have hI3 := hS.queued hq8 hg8 ho8
                            go_roundw
                            case rel => exact ⟨j + 1, ord' ++ [j], _, by omega, by go_num, by simp; omega, by rw [List.getElem?_append_left HHL.out]; exact HOU.out, HC3, HD3, by rw [List.drop_append_of_le_length (by omega)]; exact hI3⟩
                            case measure => simp [intOf]; omega
                          · have hrd : decide (r > 0) = false := by simp; omega
                            have hrd' : ¬ 0 < r := by omega
                            have HD3 := Lib.hid (HDN.out (fun hR => absurd hR hr1))
                            clear HCP HDM HDN HNON hS
                            go_wp2
                            go_roundw
                            case rel => exact ⟨j + 1, ord', F', by omega, by go_num, hol, HOU.out, HC', HD3, hI'⟩
                            case measure => simp [intOf]; omega
                        · have hfd : decide (f < 0) = false := decide_eq_false hf
                          have HD3 := Lib.hid (HDN.out (fun _ => Classical.byContradiction fun hx => hf (HNON.out.2 hx)))
                          clear HCP HDM HDN HNON hS
                          go_wp2
                          go_roundw
                          case rel => exact ⟨j + 1, ord', F', by omega, by go_num, hol, HOU.out, HC', HD3, hI'⟩
                          case measure => simp [intOf]; omega
                      · obtain rfl : j = n := by omega
                        have HD3 := Lib.hid HD'.out.round
                        have hne1 := hPop.negsEq HC'.out
                        have HHL := Lib.hid hhl
                        have HNE := Lib.hid hne1
                        clear hne1 hI' hdr' hug hou
                        go_wp2
                        go_roundw
                        case rel => exact ⟨ord', F', h + 1, HHL.out, HC', HD3, hPop⟩
                        case measure =>
                          have h1 := HNE.out
                          have h2 := hMU.out
                          have h3 := HL2.out
                          have h4 := HL0.out
                          simp only [lenOf]
                          omega
                  · have hhe : h = ord.length := by omega
                    have hq0 : QRow wr w.heap.size _ (nats (ord.drop h)) := hI.que
                    rw [hhe, List.drop_length] at hq0
                    obtain ⟨bq, oq, cq, rfl⟩ := hq0.empty
                    clear hq0
                    have HDE : Hid (BDone n R ord ord.length 0) := by have := HD.out; rwa [hhe] at this
                    have hM4 := hI.room
                    have hfr := hI.frm
                    clear hI hhe hlh HD hh
                    have hbi : (b : Int) < (n : Int) := by omega
                    have cb := owns_at hfr (k := b) (u := .int .i64 (F b)) (by simp [hb])
                    have HNB := Lib.hid (HC.out.non b hb)
                    by_cases hFb : F b < 0
                    · have HCUT := Lib.hid (come_cut HG.out HF.out ha hb HC.out HDE.out hFb)
                      generalize F b = fb at *
                      have hfd : decide (fb < 0) = true := decide_eq_true hFb
                      clear HNB
                      obtain ⟨wz, hwz⟩ : ∃ wz, wz = wr := ⟨wr, rfl⟩
                      subst hwz
                      go_wp2_with fail
                      go_loopw [19, 128] (fun ss ii wx => ∃ (i s : Nat), i ≤ n ∧ ii = .int .i64 i ∧ ss = .int .u64 (s : Int) ∧ s < 256 ∧ wx = wz) (fun _ ii _ => n - (intOf ii).toNat)
                      case atStart => exact ⟨0, 0, by omega, rfl, rfl, by omega, rfl⟩
                      case round =>
                        obtain ⟨i, s, hi', rfl, rfl, hs, rfl⟩ := hrel
                        by_cases hli : i < n
                        · have hii : (i : Int) < (n : Int) := by omega
                          have ci := owns_at hfr (k := i) (u := .int .i64 (F i)) (by simp [hli])
                          have hs2 : s ||| 2 ^ i < 256 := or_small hs (pow_small (by omega))
                          have KW := fun w => with_any s i w (by omega) (by omega)
                          generalize F i = f at *
                          by_cases hf : 0 ≤ f
                          · have hd : decide (f ≥ 0) = true := decide_eq_true hf
                            go_wp2_with fail
                            refine (KW _).mono ?_
                            rintro e w' ⟨rfl, rfl⟩
                            go_wp2
                            go_roundw
                            case rel => exact ⟨i + 1, s ||| 2 ^ i, by omega, by go_num, rfl, hs2, by first | rfl | trivial⟩
                            case measure => simp [intOf]; omega
                          · have hd : decide (f ≥ 0) = false := decide_eq_false hf
                            go_wp2
                            go_roundw
                            case rel => exact ⟨i + 1, s, by omega, by go_num, rfl, hs, by first | rfl | trivial⟩
                            case measure => simp [intOf]; omega
                        · obtain rfl : i = n := by omega
                          have hbw := hM4.below
                          go_wp2
                          go_ret2
                          refine ⟨k, s, rfl, fun T h1 h2 => ?_, ?_, hbw⟩
                          · have := flow_le HG.out HF.out ha T h1 h2
                            omega
                          · obtain ⟨T, h1, h2, h3⟩ := HCUT.out
                            exact ⟨T, h1, h2, by omega⟩
                    · have hbo : b ∈ ord := Classical.byContradiction fun hx => hFb (HNB.out.2 hx)
                      obtain ⟨d0, hd0, hdb⟩ := List.mem_iff_getElem.1 hbo
                      have hA0 := Lib.hid (aug_start HF.out hd0 hdb)
                      generalize F b = fb at *
                      have hfd : decide (fb < 0) = false := decide_eq_false hFb
                      clear HNB hbo
                      have hb0 : ord[d0]? = some b := by rw [List.getElem?_eq_getElem hd0, hdb]
                      clear hdb
                      go_wp2_with fail
                      go_loopw [22] (fun ii wx => ∃ (d x : Nat) (R' : Nat → Nat → Int), ord[d]? = some x ∧ ii = .int .i64 x ∧ Hid (Aug n ls a b (k : Int) R ord d R') ∧ FarM n w.heap.size w wx (rowV n w.heap.size) G R' ∧ wx.ownsRow w.heap.size 3 1 (rowV n wb.heap.size) n (ints ((List.range n).map F))) (fun ii _ => ord.idxOf (intOf ii).toNat)
                      case atStart => exact ⟨d0, b, R, hb0, rfl, hA0, hM4, hfr⟩
                      case round =>
                        clear hM4 hfr cb hA0 hb0 hd0
                        obtain ⟨d, x, R', hx, rfl, HA, hM, hfr⟩ := hrel
                        have hdl := HA.out.hd
                        have hxe : ord[d] = x := by
                          rw [List.getElem?_eq_getElem hdl] at hx
                          exact Option.some.inj hx
                        have hxn : x < n := hxe ▸ HC.out.lt _ (List.getElem_mem hdl)
                        have hwr3 := hM.below.size
                        by_cases hd : d = 0
                        · have hxa : x = a := by
                            rw [← hxe, ← HC.out.first]
                            subst hd; rfl
                          have HFN : Hid (Flow n ls a b (netK a b ((k + 1 : Nat) : Int)) R') := by
                            have hA := HA.out
                            subst hd
                            have := hA.last HC.out
                            have e : ((k + 1 : Nat) : Int) = (k : Int) + 1 := by omega
                            show Flow _ _ _ _ _ _
                            rw [e]; exact this
                          rw [hxa]
                          have hna : ((a : Int) != (a : Int)) = false := by simp
                          clear hxa hxe hx hd
                          go_wp2
                          go_roundw
                          case rel => exact ⟨k + 1, R', by go_num, HFN, hM⟩
                          case measure => simp [intOf]; omega
                        · obtain ⟨j, hj, hFj, hRj⟩ := HC.out.par d (by omega) hdl
                          have hjl : j < ord.length := by omega
                          have HST := Lib.hid (HA.out.step HC.out hj hRj)
                          have hy? : ord[j]? = some ord[j] := List.getElem?_eq_getElem hjl
                          have hyn : ord[j] < n := HC.out.lt _ (List.getElem_mem hjl)
                          have hyx : ord[j] ≠ x := by
                            rw [← hxe]
                            exact List.pairwise_iff_getElem.1 HC.out.nd j d hjl hdl hj
                          have hxa : x ≠ a := by
                            rw [← hxe, ← HC.out.first]
                            exact fun e => List.pairwise_iff_getElem.1 HC.out.nd 0 d HC.out.pos hdl (by omega) e.symm
                          have HID : Hid (ord.idxOf x = d ∧ ord.idxOf ord[j] = j) := by
                            show _ ∧ _
                            refine ⟨?_, HC.out.nd.idxOf_getElem j hjl⟩
                            rw [← hxe]; exact HC.out.nd.idxOf_getElem d hdl
                          rw [hxe] at HST hFj
                          have hyG : ord[j] < G.length := by rw [HGL.out]; exact hyn
                          have hxG : x < G.length := by rw [HGL.out]; exact hxn
                          generalize ord[j] = y at *
                          have hna : ((x : Int) != (a : Int)) = true := by simp; omega
                          have hxi : (x : Int) < (n : Int) := by omega
                          have hyi : (y : Int) < (n : Int) := by omega
                          obtain ⟨m1, m2, m3⟩ := far_cells hM HGL.out hyn hxn
                          have hp1 := HA.out.flow.pos y x hyn hxn
                          have hp2 := HA.out.flow.pos x y hxn hyn
                          have htw := HA.out.flow.two y x hyn hxn
                          have hml := many_le ls (y : Int) (x : Int)
                          have cx := owns_at hfr (k := x) (u := .int .i64 (F x)) (by simp [hxn])
                          rw [hFj] at cx
                          have hMA := hM.set hyG x (R' y x - 1)
                          have gq := grownBy_setCell_at wr G[y] x (.int .i64 (R' y x - 1))
                          have hneA := hx0.2 _ (List.getElem_mem hyG)
                          have hfrA := hfr.kept gq (.inr (fun e => hneA (by injection e with e; exact e.symm)))
                          have cxA := owns_at hfrA (k := x) (u := .int .i64 (F x)) (by simp [hxn])
                          rw [hFj] at cxA
                          obtain ⟨s1, s2, s3⟩ := far_cells hMA HGL.out hxn hyn
                          rw [if_neg (by omega)] at s2
                          have hMB := ((hMA.set hxG y (R' x y + 1)).later (Below.refl _ _).drew (by have := hMA.below.size; rw [setSzM]; exact this)).of_eq (E' := pushR R' y x) (fun u v => by
                            unfold pushR
                            by_cases e1 : u = y ∧ v = x
                            · rw [if_neg (by omega), if_pos e1, if_pos e1, e1.1, e1.2]
                            · by_cases e2 : u = x ∧ v = y
                              · simp only [if_neg e1, if_pos e2]
                                rw [e2.1, e2.2]
                              · simp only [if_neg e1, if_neg e2])
                          have gq2 := grownBy_setCell_at (wr.setCell ⟨G[y], x, none⟩ (.int .i64 (R' y x - 1))) G[x] y (.int .i64 (R' x y + 1))
                          have hneB := hx0.2 _ (List.getElem_mem hxG)
                          have hfrB := owns_later (hfrA.kept gq2 (.inr (fun e => hneB (by injection e with e; exact e.symm)))) (Below.refl _ _).drew
                          have w1' : IntKind.i64.wrap (R' y x - 1) = R' y x - 1 := IntWalk.i64_in _ (by omega)
                          have w2' : IntKind.i64.wrap (R' x y + 1) = R' x y + 1 := IntWalk.i64_in _ (by omega)
                          have hx0' : (0 : Int) ≤ (x : Int) := by omega
                          have hy0' : (0 : Int) ≤ (y : Int) := by omega
                          have hxn' : ¬ (x : Int) < 0 := by omega
                          have hyn' : ¬ (y : Int) < 0 := by omega
                          have hxt : ((x : Int)).toNat = x := by omega
                          have hyt : ((y : Int)).toNat = y := by omega
                          have wx' : IntKind.i64.wrap (x : Int) = (x : Int) := IntWalk.i64_in _ (by omega)
                          have wy' : IntKind.i64.wrap (y : Int) = (y : Int) := IntWalk.i64_in _ (by omega)
                          have hIDm : ord.idxOf y < ord.idxOf x := by have h1 := HID.out.1; have h2 := HID.out.2; omega
                          have HIDM := Lib.hid hIDm
                          have HY := Lib.hid hy?
                          generalize R' y x = ryx at *
                          generalize R' x y = rxy at *
                          generalize G[y] = gy at *
                          generalize G[x] = gx at *
                          have HFJ := Lib.hid hFj
                          clear hy? hIDm hFj hxe hx hxa hyx gq gq2 hRj htw hml hd
                          go_wp2_with fail
                          generalize wr.setCell ⟨gy, x, none⟩ (.int .i64 (ryx - 1)) = V at *
                          clear m1 m2 m3 cx hM hfr
                          refine wp_region_still_tail 12 (by kernel_rfl) (by kernel_rfl) ?_
                          simp only [List.take_succ_cons, List.take_zero, List.drop_succ_cons, List.drop_zero]
                          change wpStill _ _ (World.drew _) _ _ _
                          repeat still_step
                          refine wpStill_nil ?_
                          change wpList _ _ _ _ _ (World.drew _)
                          have cxB := owns_at hfrB (k := x) (u := .int .i64 (F x)) (by simp [hxn])
                          rw [HFJ.out] at cxB
                          go_wp2
                          go_roundw
                          case rel => exact ⟨j, y, pushR R' y x, HY.out, rfl, HST, hMB, hfrB⟩
                          case measure => have := HIDM.out; simpa [intOf] using this
end Go.Proofs.Ytjeafgnaoncphaa
