/- What deep.Lowest returns: the walk. Conditions: in each statement. -/
import Derived.Test.YtjeafgnaoncphaaDeepFact
import Derived.Test.YtjeafgnaoncphaaPlainA
import Derived.Test.YtjeafgnaoncphaaFrom
import Derived.Sort.QuietIn
namespace Go.Proofs.Ytjeafgnaoncphaa
open Go.RowKit Go.Shelf Gr
attribute [local go_sem] Oper.semAt_some

/-- the earliest times that come back, of all points -/
def lows (O : List Nat) (n : Nat) (m l c : List Int) : List Int := (List.range n).map (lowOf O n m l c)

/-- a loop's relation, shut -/
def Held (f : Nat → Act → World → Prop) (μ : Nat) (a : Act) (W : World) : Prop := f μ a W

/-- what the slots of a frame hold -/
def slotsOf (a : Act) (t : Nat) : Value := a.tmps.getD t undef

structure LowM (n g b11 B B3 : Nat) (w2 W : World) (L : List Int) (ds : List Deferred) : Prop where
  len : L.length = n
  bx : Boxed W b11 28 (.slice (some ⟨g, 0, none⟩) n n)
  row : W.ownsRow B 3 1 (.slice (some ⟨g, 0, none⟩) n n) n (ints L)
  below : Below B w2 W
  size : B3 ≤ W.heap.size
  marks : Marks B3 W ds

theorem LowM.later {n g b11 B B3 : Nat} {w2 W W' : World} {L : List Int} {ds : List Deferred} (h : LowM n g b11 B B3 w2 W L ds) (hb : Below W.heap.size W W') (hB : B ≤ B3) : LowM n g b11 B B3 w2 W' L ds :=
  ⟨h.len, boxed_later h.bx hb, owns_later h.row hb, h.below.trans (hb.mono (Nat.le_trans hB h.size)), Nat.le_trans h.size hb.size, h.marks.later hb⟩

theorem LowM.set {n g b11 B B3 : Nat} {w2 W : World} {L : List Int} {ds : List Deferred} (h : LowM n g b11 B B3 w2 W L ds) (hne : b11 ≠ g) (hB : B ≤ g) (i : Nat) (x : Int) (hi : i < n) : LowM n g b11 B B3 w2 (W.setCell ⟨g, i, none⟩ (.int .i64 x)) (L.set i x) ds := by
  obtain ⟨own', gr'⟩ := h.row.stored i (.int .i64 x)
  rw [ints_set] at own'
  have hg := grownBy_setCell_at W g i (.int .i64 x)
  have hc := owns_at h.row (ints_get (k := i) (by rw [h.len]; exact hi))
  have hgc : ∃ o : Obj, W.heap[g]? = some o ∧ o.isCells = true := by obtain ⟨o, ho, hc⟩ := cells_of_cell hc; exact ⟨o, ho, hc⟩
  exact ⟨by simpa using h.len, h.bx.kept hg (by simp; omega), own', h.below.setCell (p := ⟨g, i, none⟩) hB _, Nat.le_trans h.size hg.size, marks_row h.marks hg hgc⟩

theorem LowM.at {n g b11 B B3 : Nat} {w2 W : World} {L : List Int} {ds : List Deferred} (h : LowM n g b11 B B3 w2 W L ds) {i : Nat} (hi : i < n) : W.cell? ⟨g, i, none⟩ = some (.int .i64 (at1 L i)) := by
  have hi' : i < L.length := by rw [h.len]; exact hi
  have := owns_at h.row (ints_get hi')
  have e : L[i] = at1 L i := by have := at1_lt hi'; rw [List.getElem?_eq_getElem hi'] at this; simpa using this
  rwa [e] at this

theorem LowM.drew {n g b11 B B3 : Nat} {w2 W : World} {L : List Int} {ds : List Deferred} (h : LowM n g b11 B B3 w2 W L ds) (hB : B ≤ B3) : LowM n g b11 B B3 w2 W.drew L ds := h.later (Below.refl _ _).drew hB

/-- between two neighbors of j -/
def LowI (n g b11 B B3 : Nat) (w2 : World) (m c : List Int) (k j Bi Bj Bs s : Nat) (acc : Int) (low : Nat → Int) (ds : List Deferred) (pre : List (PtIn s)) (W : World) : Prop :=
  ∃ L, LowM n g b11 B B3 w2 W L ds ∧ Boxed W Bi 3 (.int .i64 (k : Int)) ∧ Boxed W Bj 3 (.int .i64 (j : Int)) ∧ Boxed W Bs 65 (.int .u64 (s : Int)) ∧
    Hid (∀ x, x < k → at1 L x = low x) ∧ Hid (at1 L k = (pre.map (fun (x : PtIn s) => x.1.val)).foldl (lowOne m c j) acc)

theorem calm_min {P : Program} {o : Oper} {args : Array Operand} {ts : Array TypeId} (ho : o.op = .call { callee := .builtin .min, args := args, argTypes := ts }) : Calm P o := by
  refine calm_b (fun a => Builtin.min_ ts o.type (args.map a.eval)) (fun _ v => v) (fun c e => by rw [ho] at e; cases e) (fun a => ?_)
  unfold execOp
  simp only [ho, resolve]
  rfl

theorem rd_at {w : World} {v : Value} {n : Nat} {xs : List Int} (h : Rd w v n (ints xs)) (hl : xs.length = n) (hn : 0 < n) : ∃ b off c, v = .slice (some ⟨b, off, none⟩) n c ∧ b < w.heap.size ∧ ∀ j, j < n → w.cell? ⟨b, off + j, none⟩ = some (.int .i64 (at1 xs j)) := by
  obtain ⟨a, c, rfl, _, _, _, h5⟩ := h
  obtain ⟨b, off, rfl, hb, hc⟩ := h5 hn
  refine ⟨b, off, c, rfl, hb, fun j hj => ?_⟩
  have hj' : j < xs.length := by omega
  exact hc j _ (by rw [List.getElem?_map, at1_lt hj']; rfl)

set_option maxRecDepth 100000 in
set_option maxHeartbeats 4000000 in
theorem lowest_ok (n : Nat) (v : Value) (ls : List Ln) (w : World) (hr : LinesRd w v ls) (hg : GoodG n ls) :
    Calls Try.prog 33 #[.int .i64 (n : Int), v] w fun e w' => ∃ a c, e = .returned (.tuple #[.slice a n c, .nilIface]) ∧
      Rd w' (.slice a n c) n (ints (lows (beside n ls) n (deepWalk (beside n ls) n).met (deepWalk (beside n ls) n).left (deepWalk (beside n ls) n).frm)) ∧ Below w.heap.size w w' := by
  obtain ⟨i0, hi, hz0, hz1, hz2⟩ := info_parts info_int
  have HG := Lib.hid hg
  have hn1 : 1 ≤ n := hg.1
  have hn8 : n ≤ 8 := hg.2.1
  have hlen : (beside n ls).length = n := beside_length n ls
  have h1 : 1 ≤ 20 := by omega
  have HD := Lib.hid (deepWalk_is hn8 (adj_bounded hg) (fun i j => adj_symm (i := i) (j := j) hg))
  have KD := deep_ok n v ls w hr hg
  generalize hm : (deepWalk (beside n ls) n).met = m at *
  generalize hl : (deepWalk (beside n ls) n).left = l at *
  generalize hc : (deepWalk (beside n ls) n).frm = c at *
  have hLm : m.length = n := HD.out.lm
  have hLl : l.length = n := HD.out.ll
  have hLc : c.length = n := HD.out.lc
  have HAB := Lib.hid (adj_bounded hg)
  clear hg hm hl hc
  refine (callsIn_wide (n := 20)).1 ?_
  refine callsIn_of_wp_marks Try.func33 rfl trivial ?_ rfl
  simp only [Try.ntmps33, List.size_toArray, List.length_cons, List.length_nil, Nat.reduceAdd, Nat.reduceSub, Array.replicate_succ, Array.replicate_zero, List.push_toArray, List.append_toArray, List.nil_append, List.cons_append]
  gi_wp2_with fail
  refine ⟨trivial, ?_⟩
  refine (callsIn_wide.2 KD).mono ?_
  rintro e w1 ⟨a1, c1, a2, c2, a3, c3, rfl, m1, m2, m3, hB1⟩
  have hb2 := below_2 w1 (.cells #[.slice a1 n c1] 28) (.cells #[.slice a3 n c3] 28)
  have hb3 := below_c hB1 hb2
  have x6 := (Boxed.new w1 28 (.slice a1 n c1)).alloc (.cells #[.slice a3 n c3] 28)
  have x8 : Boxed ((w1.alloc (.cells #[.slice a1 n c1] 28)).alloc (.cells #[.slice a3 n c3] 28)) (w1.heap.size + 1) 28 (.slice a3 n c3) := by
    have := Boxed.new (w1.alloc (.cells #[.slice a1 n c1] 28)) 28 (.slice a3 n c3)
    rwa [World.size_alloc] at this
  have m1 := m1.later hb2
  have m2 := m2.later hb2
  have m3 := m3.later hb2
  have hszW : ((w1.alloc (.cells #[.slice a1 n c1] 28)).alloc (.cells #[.slice a3 n c3] 28)).heap.size = w1.heap.size + 2 := by simp
  gi_wp2_with fail
  generalize hW : (w1.alloc (.cells #[.slice a1 n c1] 28)).alloc (.cells #[.slice a3 n c3] 28) = W1 at *
  clear hW
  refine ⟨trivial, ?_⟩
  refine (callsIn_wide.2 (coreBeside_any n v ls _ (hr.later hb3) HG.out)).mono ?_
  rintro e w2 ⟨gs, caps, rfl, ho2, hB2, hS⟩
  have HS := Lib.hid hS
  have x6 := boxed_later x6 hB2
  have x8 := boxed_later x8 hB2
  obtain ⟨bm, om, c1', e1, hbm, hcm⟩ := rd_at (m1.later hB2) hLm hn1
  obtain ⟨bl, ol, c2', e2, hbl, hcl⟩ := rd_at (m2.later hB2) hLl hn1
  obtain ⟨bf, of, c3', e3, hbf, hcf⟩ := rd_at (m3.later hB2) hLc hn1
  cases e1
  cases e2
  cases e3
  have HM := Lib.hid hcm
  have HL := Lib.hid hcl
  have HF := Lib.hid hcf
  have hB02 := below_c hb3 hB2
  have hs2 := hB2.size
  have hgs := ho2.lt gs rfl
  clear hS hcm hcl hcf m1 m2 m3 hb2 hb3 hr hB1 KD
  generalize hOe : beside n ls = O at *
  have HOe := Lib.hid hOe
  clear hOe
  gi_wp2_with (gi_at_make; refine wpListIn_make_full _ rfl _ _ _ rfl w2.heap.size 3 i0 (.int .i64 0) 1 Try.underlying28 hi hz0 hz1 .i64 .i64 _ _ n rfl rfl rfl rfl (by rw [hz2]; omega) (by unfold maxLen; omega) (Nat.le_refl _) ?_; intro w3 hown hgr)
  have ez : (madeCells (Value.int .i64 0).cells (n * 1)).toList = ints (List.replicate n 0) := by
    rw [Nat.mul_one]; show (madeCells #[Value.int .i64 0] n).toList = _; rw [toList_madeCells_one]; simp
  rw [ez] at hown
  clear ez
  have hB3 := below_iff_grown.2 hgr
  have hlt3 : w2.heap.size < w3.heap.size := (hown.lt _ rfl).2
  have hM0 : LowM n w2.heap.size w3.heap.size w2.heap.size (w3.heap.size + 1) w2 (w3.alloc (.cells #[.slice (some ⟨w2.heap.size, 0, none⟩) n n] 28)) (List.replicate n 0) [] :=
    ⟨by simp, Boxed.new _ _ _, hown.alloc _, below_c hB3 (below_alloc' _ _), by simp, .nil⟩
  clear hown hgr hB3
  refine loop_ghost (Held fun μ a W => ∃ (k : Nat) (L : List Int) (ds : List Deferred), a = { tmps := #[.int .i64 (n : Int), v, slotsOf a 2, slotsOf a 3, slotsOf a 4, slotsOf a 5, .pointer (some ⟨w1.heap.size, 0, none⟩), .slice (some ⟨bl, ol, none⟩) n c2, .pointer (some ⟨w1.heap.size + 1, 0, none⟩), slotsOf a 9, .slice (some ⟨gs, 0, none⟩) n caps, .pointer (some ⟨w3.heap.size, 0, none⟩), slotsOf a 12, slotsOf a 13, slotsOf a 14, slotsOf a 15, slotsOf a 16, slotsOf a 17, slotsOf a 18, slotsOf a 19, slotsOf a 20, slotsOf a 21, slotsOf a 22, slotsOf a 23, slotsOf a 24, slotsOf a 25, slotsOf a 26, slotsOf a 27, slotsOf a 28, slotsOf a 29, slotsOf a 30, .int .i64 (n : Int), .int .i64 (k : Int), slotsOf a 33, slotsOf a 34, slotsOf a 35, slotsOf a 36, slotsOf a 37, slotsOf a 38, slotsOf a 39, slotsOf a 40, slotsOf a 41, slotsOf a 42, slotsOf a 43, slotsOf a 44, slotsOf a 45, slotsOf a 46, slotsOf a 47, slotsOf a 48, slotsOf a 49, slotsOf a 50, slotsOf a 51, slotsOf a 52, slotsOf a 53, slotsOf a 54, slotsOf a 55, slotsOf a 56, slotsOf a 57, slotsOf a 58, slotsOf a 59, slotsOf a 60, slotsOf a 61, slotsOf a 62, slotsOf a 63, slotsOf a 64, slotsOf a 65, slotsOf a 66, slotsOf a 67, slotsOf a 68, slotsOf a 69, slotsOf a 70, slotsOf a 71, slotsOf a 72, slotsOf a 73, slotsOf a 74, slotsOf a 75, slotsOf a 76, slotsOf a 77, slotsOf a 78, slotsOf a 79, slotsOf a 80, slotsOf a 81, slotsOf a 82, slotsOf a 83, slotsOf a 84, slotsOf a 85, slotsOf a 86, slotsOf a 87, slotsOf a 88, slotsOf a 89, slotsOf a 90, slotsOf a 91, slotsOf a 92], defers := ds } ∧ μ = n - k ∧ k ≤ n ∧
    LowM n w2.heap.size w3.heap.size w2.heap.size (w3.heap.size + 1) w2 W L ds ∧ Hid (∀ x, x < k → at1 L x = lowOf O n m l c x)) _ (show ∃ _, _ from ⟨0, List.replicate n 0, [], rfl, rfl, by omega, hM0, fun x hx => absurd hx (by omega)⟩) ?_
  intro μ a W hJ
  obtain ⟨k, L, ds, ha, rfl, hk, hM, HL0⟩ := hJ
  generalize slotsOf a = y at ha
  subst ha
  clear hM0
  by_cases hkn : k < n
  · have hki : (k : Int) < (n : Int) := by omega
    gi_wp2_with fail
    have hBB : w2.heap.size ≤ w3.heap.size + 1 := by omega
    have hMa := hM.later (below_alloc' W (.cells #[.int .i64 (k : Int)] 3)) hBB
    have hxi := Boxed.new W 3 (.int .i64 (k : Int))
    have hsW := hM.size
    have hsV : (W.alloc (.cells #[.int .i64 (k : Int)] 3)).heap.size = W.heap.size + 1 := by simp
    generalize (W.alloc (.cells #[.int .i64 (k : Int)] 3)) = V at *
    have c11 := hMa.bx.cell
    have c6 := (boxed_later x6 hMa.below).cell
    have ci := hxi.cell
    have cm := (hMa.below.cell (p := ⟨bm, om + k, none⟩) hbm).trans (HM.out k hkn)
    have ck := hMa.at hkn
    have cf := hMa.row.frozenAt k
    have hMs := Lib.hid ((hMa.set (by omega) (Nat.le_refl _) k (at1 m k) hkn).drew hBB)
    have hxs := Lib.hid (boxed_later (hxi.kept (grownBy_setCell_at V w2.heap.size k (.int .i64 (at1 m k))) (by simp; omega)) (Below.refl _ _).drew)
    have hsz' : ((V.setCell ⟨w2.heap.size, k, none⟩ (.int .i64 (at1 m k))).drew).heap.size = V.heap.size := by show (World.setCell _ _ _).heap.size = _; simp [World.setCell]
    refine region_tail_in wide_wide 7 (by kernel_rfl) (by kernel_rfl) ?_ ?_
    · exact calm_cons (calm_load rfl) (calm_cons (calm_load rfl) (calm_cons (calm_load rfl) (calm_cons (calm_load rfl) (calm_cons (calm_index rfl) (calm_cons (calm_load rfl) (calm_cons (calm_index rfl) (calm_cons (calm_store rfl) calm_nil)))))))
    simp only [List.take_succ_cons, List.take_zero, List.drop_succ_cons, List.drop_zero]
    change wpStill _ _ (World.drew _) _ _ _
    repeat still_step
    refine wpStill_nil ?_
    change wpList _ _ _ _ _ (World.drew _)
    go_wp2
    generalize hV' : (V.setCell ⟨w2.heap.size, k, none⟩ (.int .i64 (at1 m k))).drew = V' at *
    gi_wp2_with fail
    have HLs : Hid (∀ x, x < k → at1 (L.set k (at1 m k)) x = lowOf O n m l c x) := fun x hx => by
      rw [at1_set (by rw [hM.len]; exact hkn), if_neg (by omega)]; exact HL0.out x hx
    have HLk : Hid (at1 (L.set k (at1 m k)) k = at1 m k) := by
      show _ = _
      rw [at1_set (by rw [hM.len]; exact hkn), if_pos rfl]
    clear c11 c6 ci cm ck cf hMa hxi
    clear hV' 
    refine loop_ghost (Held fun μ a W' => ∃ (j : Nat) (L' : List Int) (ds' : List Deferred), a = { tmps := #[.int .i64 (n : Int), v, slotsOf a 2, slotsOf a 3, slotsOf a 4, slotsOf a 5, .pointer (some ⟨w1.heap.size, 0, none⟩), .slice (some ⟨bl, ol, none⟩) n c2, .pointer (some ⟨w1.heap.size + 1, 0, none⟩), slotsOf a 9, .slice (some ⟨gs, 0, none⟩) n caps, .pointer (some ⟨w3.heap.size, 0, none⟩), .pointer (some ⟨W.heap.size, 0, none⟩), slotsOf a 13, slotsOf a 14, slotsOf a 15, slotsOf a 16, slotsOf a 17, slotsOf a 18, slotsOf a 19, slotsOf a 20, slotsOf a 21, slotsOf a 22, slotsOf a 23, slotsOf a 24, slotsOf a 25, slotsOf a 26, slotsOf a 27, slotsOf a 28, slotsOf a 29, slotsOf a 30, .int .i64 (n : Int), .int .i64 (k : Int), slotsOf a 33, slotsOf a 34, slotsOf a 35, slotsOf a 36, slotsOf a 37, slotsOf a 38, slotsOf a 39, slotsOf a 40, slotsOf a 41, .int .i64 (n : Int), .int .i64 (j : Int), slotsOf a 44, slotsOf a 45, slotsOf a 46, slotsOf a 47, slotsOf a 48, slotsOf a 49, slotsOf a 50, slotsOf a 51, slotsOf a 52, slotsOf a 53, slotsOf a 54, slotsOf a 55, slotsOf a 56, slotsOf a 57, slotsOf a 58, slotsOf a 59, slotsOf a 60, slotsOf a 61, slotsOf a 62, slotsOf a 63, slotsOf a 64, slotsOf a 65, slotsOf a 66, slotsOf a 67, slotsOf a 68, slotsOf a 69, slotsOf a 70, slotsOf a 71, slotsOf a 72, slotsOf a 73, slotsOf a 74, slotsOf a 75, slotsOf a 76, slotsOf a 77, slotsOf a 78, slotsOf a 79, slotsOf a 80, slotsOf a 81, slotsOf a 82, slotsOf a 83, slotsOf a 84, slotsOf a 85, slotsOf a 86, slotsOf a 87, slotsOf a 88, slotsOf a 89, slotsOf a 90, slotsOf a 91, slotsOf a 92], defers := ds' } ∧ μ = n - j ∧ j ≤ n ∧
      LowM n w2.heap.size w3.heap.size w2.heap.size (w3.heap.size + 1) w2 W' L' ds' ∧ Boxed W' W.heap.size 3 (.int .i64 (k : Int)) ∧ Hid (∀ x, x < k → at1 L' x = lowOf O n m l c x) ∧ Hid (at1 L' k = (List.range j).foldl (lowStep O m l c k) (at1 m k))) _
      (show ∃ _, _ from ⟨0, _, ds, rfl, rfl, by omega, hMs.out, hxs.out, HLs, HLk⟩) ?_
    clear hMs hxs HLs HLk hsz' hM HL0 hsV
    intro μ a W' hJ
    obtain ⟨j, L', ds', ha, rfl, hj, hM, hbi, HL0, HLk⟩ := hJ
    generalize slotsOf a = z at ha
    subst ha
    by_cases hjn : j < n
    · have hji : (j : Int) < (n : Int) := by omega
      have hMa := hM.later (below_alloc' W' (.cells #[.int .i64 (j : Int)] 3)) hBB
      have hbia := hbi.alloc (.cells #[.int .i64 (j : Int)] 3)
      have hxj := Boxed.new W' 3 (.int .i64 (j : Int))
      have hsV : (W'.alloc (.cells #[.int .i64 (j : Int)] 3)).heap.size = W'.heap.size + 1 := by simp
      have hbil := hbi.lt
      gi_wp2_with fail
      generalize (W'.alloc (.cells #[.int .i64 (j : Int)] 3)) = V at *
      have c6 := (boxed_later x6 hMa.below).cell
      have ci := hbia.cell
      have cj := hxj.cell
      have cmk := (hMa.below.cell (p := ⟨bm, om + k, none⟩) hbm).trans (HM.out k hkn)
      have cmj := (hMa.below.cell (p := ⟨bm, om + j, none⟩) hbm).trans (HM.out j hjn)
      have clk := (hMa.below.cell (p := ⟨bl, ol + k, none⟩) hbl).trans (HL.out k hkn)
      have clj := (hMa.below.cell (p := ⟨bl, ol + j, none⟩) hbl).trans (HL.out j hjn)
      have HSk : Hid ((at1 m j < at1 m k ∨ at1 l k < at1 l j) → (List.range (j + 1)).foldl (lowStep O m l c k) (at1 m k) = (List.range j).foldl (lowStep O m l c k) (at1 m k)) := fun h => by
        rw [List.range_succ, List.foldl_append, List.foldl_cons, List.foldl_nil]
        generalize (List.range j).foldl (lowStep O m l c k) (at1 m k) = acc
        unfold lowStep; rw [if_pos h]
      have HNk : Hid (¬ (at1 m j < at1 m k ∨ at1 l k < at1 l j) → (List.range (j + 1)).foldl (lowStep O m l c k) (at1 m k) = (nbs O j).foldl (lowOne m c j) ((List.range j).foldl (lowStep O m l c k) (at1 m k))) := fun h => by
        rw [List.range_succ, List.foldl_append, List.foldl_cons, List.foldl_nil]
        generalize (List.range j).foldl (lowStep O m l c k) (at1 m k) = acc
        unfold lowStep; rw [if_neg h]
      have hMq := fun q => Lib.hid (hMa.later (below_drewN' _ q) hBB)
      have hbiq := fun q => Lib.hid (boxed_later hbia (below_drewN' _ q))
      have hxjq := fun q => Lib.hid (boxed_later hxj (below_drewN' _ q))
      by_cases hA : at1 m j < at1 m k
      · gi_quiet (fail)
        gi_wp2_with fail
        exact ⟨n - (j + 1), by omega, (show ∃ _, _ from ⟨j + 1, L', ds', rfl, rfl, by omega, (hMq nq).out, (hbiq nq).out, HL0, (show _ = _ from HLk.out.trans (HSk.out (.inl hA)).symm)⟩)⟩
      · by_cases hA2 : at1 l k < at1 l j
        · gi_quiet (fail)
          gi_wp2_with fail
          exact ⟨n - (j + 1), by omega, (show ∃ _, _ from ⟨j + 1, L', ds', rfl, rfl, by omega, (hMq nq).out, (hbiq nq).out, HL0, (show _ = _ from HLk.out.trans (HSk.out (.inr hA2)).symm)⟩)⟩
        · gi_quiet (fail)
          have hN := HNk.out (by omega)
          have HN := Lib.hid hN
          have hMn := (hMq nq).out
          have hbin := (hbiq nq).out
          have hxjn := (hxjq nq).out
          clear hN HNk HSk hMq hbiq hxjq c6 ci cj cmk cmj clk clj hMa hbia hxj
          have hszn : (V.drewN nq).heap.size = V.heap.size := by rfl
          generalize V.drewN nq = V at *
          have cj := hxjn.cell
          have csj := (hMn.below.cell (p := ⟨gs, j, none⟩) hgs.2).trans (owns_at ho2 (setsOf_get (by omega : j < O.length)))
          have hs8 := HS.out O[j] (List.getElem_mem _)
          have hNb : nbs O j = (elems O[j]).map (·.val) := by unfold nbs; rw [List.getElem?_eq_getElem (by omega)]; rfl
          have HNb := Lib.hid hNb
          have hSe : O[j]?.getD 0 = O[j] := by rw [List.getElem?_eq_getElem (by omega)]; rfl
          generalize O[j] = s at *
          have HSe := Lib.hid hSe
          clear hNb hSe
          gi_wp2_with fail
          refine ⟨trivial, ?_⟩
          refine (callsIn_wide.2 (each_any s _)).mono ?_
          rintro e w' ⟨rfl, rfl⟩
          gi_wp2_with fail
          have hbs := Boxed.new V 65 (.int .u64 (s : Int))
          have hMb := hMn.later (below_alloc' V (.cells #[.int .u64 (s : Int)] 65)) hBB
          have hbib := hbin.alloc (.cells #[.int .u64 (s : Int)] 65)
          have hxjb := hxjn.alloc (.cells #[.int .u64 (s : Int)] 65)
          have hVs : V.heap.size = W'.heap.size + 1 := hszn.trans hsV
          rw [hVs] at hbs
          generalize hacc : (List.range j).foldl (lowStep O m l c k) (at1 m k) = acc at *
          refine wpIn_rangeFunc_ownF rfl h1 (gf := 67) (lb := #[.pointer (some ⟨W'.heap.size + 1, 0, none⟩)]) rfl trivial (enters_of Try.func67 (by kernel_rfl) rfl)
            (each_stopsIn 19 (by omega) (W'.heap.size + 1) s hs8 _ hbs (by simp; omega)) (fun h k => keepsBlock_t h k) (keepsBlock_b (by simp; omega)) (Below.refl _ _) (fun _ => rfl)
            (LowI n w2.heap.size w3.heap.size w2.heap.size (w3.heap.size + 1) w2 m c k j W.heap.size W'.heap.size (W'.heap.size + 1) s acc (lowOf O n m l c) ds')
            (fun _ _ _ => False) ?hI (fun _ _ _ _ _ hs _ _ => hs) ?h0 ?a1 ?assign ?body ?done ?stop
          case hI =>
            rintro pre A A' row ⟨L, h, b1, b2, b3, e1, e2⟩ hg hr
            have hr2 : ∀ r, row = some r → ∃ o : Obj, A.heap[r]? = some o ∧ o.isCells = false := fun r e => (hr r e).2
            refine ⟨L, ⟨h.len, boxed_k h.bx hg hr2, owns_k h.row hg hr2, h.below.grown hg (Nat.le_trans hBB h.size) (fun r e => ?_), Nat.le_trans h.size hg.size, marks_k h.marks hg (fun r e => (hr r e).1) (fun dd hd => ?_)⟩, boxed_k b1 hg hr2, boxed_k b2 hg hr2, boxed_k b3 hg hr2, e1, e2⟩
            · have := (hr r e).1; simp at this; have := hMn.size; omega
            · obtain ⟨D, hD1, hD2⟩ := hMn.marks.old dd hd
              exact ⟨D, hD1, by simp; omega⟩
          case h0 => exact ⟨L', hMb, hbib, hxjb, hbs, HL0, HLk⟩
          case assign =>
            intro l x W' K hK
            gi_wp2
            exact hK
          case body =>
            rintro lx pre x W4 ⟨L, h, b1, b2, b3, e1, e2⟩ hlt
            have c8 := (boxed_later x8 h.below).cell
            have cj := b2.cell
            have cfj := (h.below.cell (p := ⟨bf, of + j, none⟩) hbf).trans (HF.out j hjn)
            have hadj : adjS O j x.1.val := by unfold adjS; rw [HSe.out]; exact x.2
            have hxn : x.1.val < n := (HAB.out _ _ hadj).2
            by_cases hq : at1 c j = (x.1.val : Int)
            · gi_wp2
              refine ⟨KeepsOthers.refl _, rfl, ?_⟩
              refine ⟨L, h, b1, b2, b3, e1, ?_⟩
              show _ = _
              rw [List.map_append, List.foldl_append, ← e2.out]
              unfold lowOne
              simp [hq]
            · have HQ := Lib.hid hq
              gi_wp2_with fail
              clear cfj
              have c11 := h.bx.cell
              have c6 := (boxed_later x6 h.below).cell
              have ci := b1.cell
              have cmx := (h.below.cell (p := ⟨bm, om + x.1.val, none⟩) hbm).trans (HM.out x.1.val hxn)
              have clk := h.at hkn
              have cf := h.row.frozenAt k
              have hxi : (x.1.val : Int) < (n : Int) := by omega
              obtain ⟨mv, hmv⟩ : ∃ mv, (if at1 m x.1.val < at1 L k then at1 m x.1.val else at1 L k) = mv := ⟨_, rfl⟩
              have HMV := Lib.hid hmv
              refine region_tail_in (wide_wide.inRound lx) 12 (by kernel_rfl) (by kernel_rfl) ?_ ?_
              · exact calm_cons (calm_load rfl) (calm_cons (calm_load rfl) (calm_cons (calm_load rfl) (calm_cons (calm_load rfl) (calm_cons (calm_index rfl) (calm_cons (calm_load rfl) (calm_cons (calm_load rfl) (calm_cons (calm_move rfl) (calm_cons (calm_index rfl) (calm_cons (calm_load rfl) (calm_cons (calm_min rfl) (calm_cons (calm_index rfl) (calm_cons (calm_store rfl) calm_nil))))))))))))
              simp only [List.take_succ_cons, List.take_zero, List.drop_succ_cons, List.drop_zero]
              change wpStill _ _ (World.drew _) _ _ _
              repeat still_step
              refine wpStill_nil ?_
              change wpList _ _ _ _ _ (World.drew _)
              go_wp2
              have g0 := grownBy_setCell_at W4 w2.heap.size k (.int .i64 mv)
              have hMs := (h.set (by omega) (Nat.le_refl _) k mv hkn).drew hBB
              have hgc : ∃ o : Obj, W4.heap[w2.heap.size]? = some o ∧ o.isCells = true := by obtain ⟨o, ho, hc⟩ := cells_of_cell clk; exact ⟨o, ho, hc⟩
              have hlW := hM.size
              have b1s := boxed_later (b1.kept g0 (by simp; omega)) (Below.refl _ _).drew
              have b2s := boxed_later (b2.kept g0 (by simp; omega)) (Below.refl _ _).drew
              have b3s := boxed_later (b3.kept g0 (by simp; omega)) (Below.refl _ _).drew
              have ko := keeps_row g0 hgc
              have hHL : Hid (∀ y, y < k → at1 (L.set k mv) y = lowOf O n m l c y) := fun y hy => by
                rw [at1_set (by rw [h.len]; exact hkn), if_neg (by omega)]; exact e1.out y hy
              have hHk : Hid (at1 (L.set k mv) k = ((pre ++ [x]).map (fun (x : PtIn s) => x.1.val)).foldl (lowOne m c j) acc) := by
                show _ = _
                rw [at1_set (by rw [h.len]; exact hkn), if_pos rfl, List.map_append, List.foldl_append, ← e2.out, ← HMV.out]
                show _ = lowOne m c j (at1 L k) x.1.val
                unfold lowOne
                rw [if_neg HQ.out]
                split <;> omega
              refine ⟨?_, ?_, ?_⟩
              · exact ko.trans (KeepsOthers.drew _)
              · exact (show _ = _ from b3s).trans (show _ = _ from b3).symm
              · exact ⟨_, hMs, b1s, b2s, b3s, hHL, hHk⟩
          case done =>
            rintro D xs W4 hD hxs ⟨L, h, b1, b2, b3, e1, e2⟩ hK
            have hxm : xs.map (fun (x : PtIn s) => x.1.val) = nbs O j := by rw [HNb.out, ← hxs, List.map_map]; rfl
            have hsn := hMn.size
            have hMk := h.marks
            have hDs : w3.heap.size + 1 ≤ D := by simp at hD; omega
            have hmk' : Marks (w3.heap.size + 1) W4 ({ target := .collected D, args := #[] } :: ds') := .cons hDs hK (fun dd hd e => by
              obtain ⟨D', g1, g2⟩ := hMn.marks.old dd hd
              rw [g1] at e
              simp at e hD
              omega) hMk
            have HE : Hid (at1 L k = (List.range (j + 1)).foldl (lowStep O m l c k) (at1 m k)) := by
              show _ = _
              rw [HN.out, ← hxm]; exact e2.out
            have hMf : LowM n w2.heap.size w3.heap.size w2.heap.size (w3.heap.size + 1) w2 W4 L ({ target := .collected D, args := #[] } :: ds') := ⟨h.len, h.bx, h.row, h.below, h.size, hmk'⟩
            clear hxm hacc
            gi_wp2_with fail
            exact ⟨n - (j + 1), by omega, (show ∃ _, _ from ⟨j + 1, L, _, rfl, rfl, by omega, hMf, b1, e1, HE⟩)⟩
          case stop =>
            rintro D c pre W' _ _ h _
            exact h.elim
    · obtain rfl : j = n := by omega
      gi_wp2_with fail
      refine ⟨j - (k + 1), by omega, (show ∃ _, _ from ⟨k + 1, L', ds', rfl, rfl, by omega, hM, ?_⟩)⟩
      show ∀ x, _ → _
      intro x hx
      by_cases e : x = k
      · subst e; exact HLk.out
      · exact HL0.out x (by omega)
  · obtain rfl : k = n := by omega
    have c11 := hM.bx.cell
    have hrd := rd_of_owns hM.row
    have hLL : L = lows O k m l c := by
      have hl := hM.len
      refine List.ext_getElem? fun i => ?_
      by_cases hi : i < k
      · rw [at1_lt (by omega), HL0.out i hi]
        simp [lows, hi]
      · rw [List.getElem?_eq_none (by omega), List.getElem?_eq_none (by simp [lows]; omega)]
    have HB := Lib.hid (hB02.trans (hM.below.mono (by have := hB02.size; omega)))
    rw [hLL] at hrd
    gi_wp2
    refine leaves_marks hM.marks (fun W' => results_tmp2 rfl _ _ W') ?_ ⟨_, _, rfl, by rw [HOe.out]; exact hrd, HB.out⟩
    rintro s A A' row ⟨a, c, e, g1, g2⟩ hg hr
    exact ⟨a, c, e, rd_k g1 hg (fun r e => (hr r e).2), ownFrom_below (Nat.le_refl _) (by have := hB02.size; omega) s A A' row g2 hg hr⟩


end Go.Proofs.Ytjeafgnaoncphaa
