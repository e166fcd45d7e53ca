/- What span.Least returns of good lines that cost 3 each: the walk. Conditions: in each statement. -/
import Derived.Test.YtjeafgnaoncphaaSpanA
import Derived.Test.YtjeafgnaoncphaaTreeA
import Derived.Test.YtjeafgnaoncphaaLowest
import Derived.Test.YtjeafgnaoncphaaHeldIn
namespace Go.Proofs.Ytjeafgnaoncphaa
open Go.RowKit Go.Shelf Gr
attribute [local go_sem] Oper.semAt_some

abbrev bools (xs : List Bool) : List Value := xs.map Value.bool
theorem info_boolS : (Try.prog.info? 4).map (fun i => (i.zero, i.size, i.bytes)) = some (some (.bool false), 1, 1) := by kernel_rfl
theorem nats_set (xs : List Nat) (k x : Nat) : (nats xs).set k (.int .i64 ((x : Nat) : Int)) = nats (xs.set k x) := by simp [nats, List.map_set]
theorem fill_up (m k : Nat) (hk : k < m) : (List.range k ++ List.replicate (m - k) 0).set k k = List.range (k + 1) ++ List.replicate (m - (k + 1)) 0 := by
  have e : List.replicate (m - k) 0 = 0 :: List.replicate (m - (k + 1)) 0 := by
    rw [← List.replicate_succ]; congr 1; omega
  rw [e, List.set_append_right _ _ (by simp), List.length_range, Nat.sub_self, List.set_cons_zero, List.range_succ, List.append_assoc]
  rfl

/-- the first k points by themselves -/
def ownSets (n k : Nat) : List Nat := ((List.range k).map fun i => 2 ^ i) ++ List.replicate (n - k) 0
theorem ownSets_length (n k : Nat) (hk : k ≤ n) : (ownSets n k).length = n := by simp [ownSets]; omega
theorem ownSets_set (n k : Nat) (hk : k < n) : (ownSets n k).set k (2 ^ k) = ownSets n (k + 1) := by
  unfold ownSets
  have e : List.replicate (n - k) 0 = 0 :: List.replicate (n - (k + 1)) 0 := by
    rw [← List.replicate_succ]; congr 1; omega
  rw [e, List.set_append_right _ _ (by simp), List.length_map, List.length_range, Nat.sub_self, List.set_cons_zero, List.range_succ, List.map_append, List.append_assoc]
  rfl
theorem ownSets_full (n : Nat) : ownSets n n = (List.range n).map fun i => 2 ^ i := by simp [ownSets]

theorem with_own (k : Nat) (hk : k < 8) (w : World) : Calls Try.prog 53 #[.int .u64 0, .int .i64 (k : Int)] w fun e w' => e = .returned (.int .u64 ((2 ^ k : Nat) : Int)) ∧ w = w' := by
  refine (with_any 0 k w (by omega) (by omega)).mono ?_
  rintro e w' ⟨rfl, h⟩
  exact ⟨by rw [Nat.zero_or], h⟩

structure SpM (n m g10 b10 g12 B5 : Nat) (W5 W : World) (S : List Nat) (us : List Bool) (ds : List Deferred) : Prop where
  bx : Boxed W b10 62 (.slice (some ⟨g10, 0, none⟩) n n)
  row : W.ownsRow g10 65 1 (.slice (some ⟨g10, 0, none⟩) n n) n (setsOf S)
  use : W.ownsRow g12 4 1 (.slice (some ⟨g12, 0, none⟩) m m) m (bools us)
  below : Below g10 W5 W
  size : B5 ≤ W.heap.size
  marks : Marks B5 W ds
theorem SpM.later {n m g10 b10 g12 B5 : Nat} {W5 W W' : World} {S : List Nat} {us : List Bool} {ds : List Deferred} (h : SpM n m g10 b10 g12 B5 W5 W S us ds) (hb : Below W.heap.size W W') (hB : g10 ≤ B5) : SpM n m g10 b10 g12 B5 W5 W' S us ds :=
  ⟨boxed_later h.bx hb, owns_later h.row hb, owns_later h.use hb, h.below.trans (hb.mono (Nat.le_trans hB h.size)), Nat.le_trans h.size hb.size, h.marks.later hb⟩
theorem SpM.set {n m g10 b10 g12 B5 : Nat} {W5 W : World} {S : List Nat} {us : List Bool} {ds : List Deferred} (h : SpM n m g10 b10 g12 B5 W5 W S us ds) (h1 : b10 ≠ g10) (h2 : g12 ≠ g10) (i x : Nat) (hi : i < S.length) : SpM n m g10 b10 g12 B5 W5 (W.setCell ⟨g10, i, none⟩ (.int .u64 (x : Int))) (S.set i x) us ds := by
  obtain ⟨own', gr'⟩ := h.row.stored i (.int .u64 (x : Int))
  rw [setsOf_set] at own'
  have hg := grownBy_setCell_at W g10 i (.int .u64 (x : Int))
  have hc := owns_at h.row (setsOf_get hi)
  have hgc : ∃ o : Obj, W.heap[g10]? = some o ∧ o.isCells = true := by obtain ⟨o, ho, hc⟩ := cells_of_cell hc; exact ⟨o, ho, hc⟩
  exact ⟨h.bx.kept hg (by simp; omega), own', h.use.kept hg (.inr (by simp [Value.ownBlock]; omega)), h.below.setCell (p := ⟨g10, i, none⟩) (Nat.le_refl _) _, Nat.le_trans h.size hg.size, marks_row h.marks hg hgc⟩
theorem bools_set (us : List Bool) (i : Nat) (b : Bool) : (bools us).set i (.bool b) = bools (us.set i b) := by simp [bools, List.map_set]
theorem SpM.mark {n m g10 b10 g12 B5 : Nat} {W5 W : World} {S : List Nat} {us : List Bool} {ds : List Deferred} (h : SpM n m g10 b10 g12 B5 W5 W S us ds) (h1 : b10 ≠ g12) (h2 : g12 ≠ g10) (h3 : g10 ≤ g12) (i : Nat) (b : Bool) (hi : i < us.length) : SpM n m g10 b10 g12 B5 W5 (W.setCell ⟨g12, i, none⟩ (.bool b)) S (us.set i b) ds := by
  obtain ⟨own', gr'⟩ := h.use.stored i (.bool b)
  rw [bools_set] at own'
  have hg := grownBy_setCell_at W g12 i (.bool b)
  have hc := owns_at h.use (u := .bool us[i]) (k := i) (by simp [bools, hi])
  have hgc : ∃ o : Obj, W.heap[g12]? = some o ∧ o.isCells = true := by obtain ⟨o, ho, hc⟩ := cells_of_cell hc; exact ⟨o, ho, hc⟩
  exact ⟨h.bx.kept hg (by simp; omega), h.row.kept hg (.inr (by simp [Value.ownBlock]; omega)), own', h.below.setCell (p := ⟨g12, i, none⟩) h3 _, Nat.le_trans h.size hg.size, marks_row h.marks hg hgc⟩

/-- between two points of the set -/
def SpI (n m g10 b10 g12 B5 : Nat) (W5 : World) (S : List Nat) (us : List Bool) (b Bb Bs : Nat) (ds : List Deferred) (pre : List (PtIn b)) (W : World) : Prop :=
  SpM n m g10 b10 g12 B5 W5 W (setAll S b (pre.map fun (x : PtIn b) => x.1.val)) us ds ∧ Boxed W Bb 65 (.int .u64 (b : Int)) ∧ Boxed W Bs 65 (.int .u64 (b : Int))

-- one operation of a region is taken first


set_option maxRecDepth 100000 in
set_option maxHeartbeats 4000000 in
theorem spanLeast_ok (n : Nat) (v : Value) (ls : List Ln) (w : World) (hr : CostRd w v ls) (hg : GoodG n ls) :
    Calls Try.prog 28 #[.int .i64 (n : Int), v] w fun e w' =>
      (((∀ x, x < n → Conn (beside n ls) 0 x) ∧ ∃ (a : Option Addr) (c : Nat) (us : List Bool) (s : Int), e = .returned (.tuple #[.slice a ls.length c, .int .i64 s, .nilIface]) ∧ us.length = ls.length ∧ (AllBr n ls → ∀ u ∈ us, u = true) ∧ Rd w' (.slice a ls.length c) ls.length (bools us)) ∨
        (¬ (∀ x, x < n → Conn (beside n ls) 0 x) ∧ e = .returned (.tuple #[.slice none 0 0, .int .i64 0, errV 5]))) ∧ Below w.heap.size w w' := by
  obtain ⟨i0, hi, hz0, hz1, hz2⟩ := info_parts info_int
  obtain ⟨i1, hi1, hy0, hy1, hy2⟩ := info_parts info_boolS
  obtain ⟨i2, hi2, hx0, hx1, hx2⟩ := info_parts info_set
  have HG := Lib.hid hg
  have hn1 : 1 ≤ n := hg.1
  have hn8 : n ≤ 8 := hg.2.1
  have hl24 := hg.2.2.1
  have h1 : 1 ≤ 20 := by omega
  have KC := fun w hr => spanCheck_ok n v ls w hr hg
  obtain ⟨av, cv, rfl⟩ : ∃ a c, v = .slice a ls.length c := by obtain ⟨a, c, h, _⟩ := id hr; exact ⟨a, c, h⟩
  clear hg
  refine (callsIn_wide (n := 20)).1 ?_
  refine callsIn_of_wp_marks Try.func28 rfl trivial ?_ rfl
  simp only [Try.ntmps28, List.size_toArray, List.length_cons, List.length_nil, Nat.reduceAdd, Nat.reduceSub, Array.replicate_succ, Array.replicate_zero, List.push_toArray, List.append_toArray, List.nil_append, List.cons_append]
  have hb0 := below_alloc' w (.cells #[.slice av ls.length cv] 49)
  have hx3 := Boxed.new w 49 (.slice av ls.length cv)
  have hs0 : (w.alloc (.cells #[.slice av ls.length cv] 49)).heap.size = w.heap.size + 1 := by simp
  gi_wp2_with fail
  refine ⟨trivial, ?_⟩
  refine (callsIn_wide.2 (KC _ (hr.later hb0))).mono ?_
  rintro e w1 ⟨rfl, hB1⟩
  have hx3 := boxed_later hx3 hB1
  have hB01 := below_c hb0 hB1
  have hs1 := hB1.size
  have c3 := hx3.cell
  gi_wp2_with (gi_at_make; refine wpListIn_make_full _ rfl _ _ _ rfl w1.heap.size 3 i0 (.int .i64 0) 1 Try.underlying28 hi hz0 hz1 .i64 .i64 _ _ ls.length rfl rfl rfl rfl (by rw [hz2]; omega) (by unfold maxLen; omega) (Nat.le_refl _) ?_; intro w2 hown hgr)
  have hB2 := below_iff_grown.2 hgr
  have hsz2 := hB2.size
  have hlt2 : w1.heap.size < w2.heap.size := (hown.lt _ rfl).2
  have ez : (madeCells (Value.int .i64 0).cells (ls.length * 1)).toList = nats (List.range 0 ++ List.replicate (ls.length - 0) 0) := by
    rw [Nat.mul_one]; show (madeCells #[Value.int .i64 0] ls.length).toList = _; rw [toList_madeCells_one]; simp
  rw [ez] at hown
  clear ez hgr c3
  gi_loopw [30, 9] (fun i _ wr => ∃ k : Nat, k ≤ ls.length ∧ i = .int .i64 k ∧
    wr.ownsRow w1.heap.size 3 1 (.slice (some ⟨w1.heap.size, 0, none⟩) ls.length ls.length) ls.length (nats (List.range k ++ List.replicate (ls.length - k) 0)) ∧ Below w1.heap.size w1 wr) (fun i _ _ => ls.length - (intOf i).toNat)
  case atStart => exact ⟨0, by omega, rfl, hown, hB2⟩
  case round =>
    obtain ⟨k, hk, rfl, hor, hbr⟩ := hrel
    by_cases hlt : k < ls.length
    · have hfk := hor.frozenAt k
      have hck := owns_at hor (u := .int .i64 (((List.range k ++ List.replicate (ls.length - k) 0)[k]'(by simp; omega) : Nat) : Int)) (k := k) (by rw [List.getElem?_map, List.getElem?_eq_getElem (by simp; omega)]; rfl)
      have hkn : (k : Int) < (ls.length : Int) := by omega
      gi_wp2
      obtain ⟨own', gr'⟩ := hor.stored k (.int .i64 (k : Int))
      rw [nats_set, fill_up ls.length k hlt] at own'
      go_roundw
      case rel => exact ⟨k + 1, by omega, by go_num, own', hbr.setCell (p := ⟨w1.heap.size, k, none⟩) (Nat.le_refl _) _⟩
      case measure => simp [intOf]; omega
    · obtain rfl : k = ls.length := by omega
      have hL : (List.range ls.length ++ List.replicate (ls.length - ls.length) 0) = List.range ls.length := by simp
      rw [hL] at hor
      clear hL hlt hown
      have hx3r := boxed_later hx3 hbr
      have hB0r := below_c hB01 hbr
      have hEQ : EqF wr w.heap.size ls.length := least1_any ls w.heap.size _ wr hx3r.lt hx3r.cell (hr.later hB0r) hl24
      have KS := sortEq w.heap.size ls.length _ _ ls.length (List.range ls.length) (by simp) (fun i h => List.mem_range.1 h) hl24 wr hEQ (rd_of_owns hor)
      clear hEQ
      gi_wp2_with fail
      refine ⟨trivial, ?_⟩
      refine (callsIn_wide.2 KS).mono ?_
      rintro e w3 ⟨rfl, hB3⟩
      have hx33 := boxed_later hx3r hB3
      have hor3 := owns_later hor hB3
      have hB03 := below_c hB0r hB3
      have hs13 : w1.heap.size < w3.heap.size := by have := hbr.size; have := hB3.size; have : w1.heap.size < wr.heap.size := (hor.lt _ rfl).2; omega
      have hs03 : w.heap.size < w3.heap.size := hx33.lt
      clear KS hor hx3r hx3 hbr hB3 hB2 hsz2 hlt2
      gi_wp2_with (gi_at_make; refine wpListIn_make_full _ rfl _ _ _ rfl w3.heap.size 65 i2 (.int .u64 0) 1 Try.underlying62 hi2 hx0 hx1 .i64 .i64 _ _ n rfl rfl rfl rfl (by rw [hx2]; omega) (by unfold maxLen; omega) (Nat.le_refl _) ?_; intro w4 hown4 hgr4)
      have hB4 := below_iff_grown.2 hgr4
      have hsz4 := hB4.size
      have hlt4 : w3.heap.size < w4.heap.size := (hown4.lt _ rfl).2
      have ez4 : (madeCells (Value.int .u64 0).cells (n * 1)).toList = setsOf (ownSets n 0) := by
        rw [Nat.mul_one]; show (madeCells #[Value.int .u64 0] n).toList = _; rw [toList_madeCells_one]; simp [setsOf, ownSets]
      rw [ez4] at hown4
      clear ez4 hgr4
      gi_loopw [45, 11] (fun i _ wr => ∃ k : Nat, k ≤ n ∧ i = .int .i64 k ∧ Boxed wr w4.heap.size 62 (.slice (some ⟨w3.heap.size, 0, none⟩) n n) ∧
        wr.ownsRow w3.heap.size 65 1 (.slice (some ⟨w3.heap.size, 0, none⟩) n n) n (setsOf (ownSets n k)) ∧ Below w3.heap.size w3 wr) (fun i _ _ => n - (intOf i).toNat)
      case atStart => exact ⟨0, by omega, rfl, Boxed.new _ _ _, hown4.alloc _, below_c hB4 (below_alloc' _ _)⟩
      case round =>
        clear hk
        obtain ⟨k, hk, rfl, hbox, hor, hbr⟩ := hrel
        by_cases hlt : k < n
        · have hbc := hbox.cell
          have hfk := hor.frozenAt k
          have hko : k < (ownSets n k).length := by rw [ownSets_length n k hk]; exact hlt
          have hck := owns_at hor (setsOf_get hko)
          have hkn : (k : Int) < (n : Int) := by omega
          gi_wp2_with fail
          refine region_tail_in wide_wide 4 (by kernel_rfl) (by kernel_rfl) ?_ ?_
          · exact calm_cons (calm_load rfl) (calm_cons (calm_move rfl) (calm_cons (calm_move rfl) (calm_cons (calm_call _ _ _ rfl (enters_of Try.func53 (by kernel_rfl) rfl)) (calm_cons (calm_index rfl) (calm_cons (calm_store rfl) calm_nil)))))
          simp only [List.take_succ_cons, List.take_zero, List.drop_succ_cons, List.drop_zero]
          change wpStill _ _ (World.drew _) _ _ _
          repeat still_step
          refine wpStill_step (fun K hK => ?_)
          go_simp
          refine ⟨_, still_of (with_own k (by omega) _), hK _ ?_⟩
          clear hK K
          refine wpStill_nil ?_
          change wpList _ _ _ _ _ (World.drew _)
          obtain ⟨own', gr'⟩ := hor.stored k (.int .u64 ((2 ^ k : Nat) : Int))
          rw [setsOf_set, ownSets_set n k hlt] at own'
          have HB1 := Lib.hid (boxed_later (hbox.kept (grownBy_setCell_at wr w3.heap.size k (.int .u64 ((2 ^ k : Nat) : Int))) (by simp; omega)) (Below.refl _ _).drew)
          have HO1 := Lib.hid own'.drew
          have HL1 := Lib.hid ((hbr.setCell (p := ⟨w3.heap.size, k, none⟩) (Nat.le_refl _) (.int .u64 ((2 ^ k : Nat) : Int))).drew)
          clear own' gr' hbox hor hbr
          generalize hpw : (2 ^ k : Nat) = pw at *
          clear hpw
          go_wp2
          gi_wp2
          go_roundw
          case rel => exact ⟨k + 1, by omega, by go_num, HB1.out, HO1.out, HL1.out⟩
          case measure => simp [intOf]; omega
        · obtain rfl : n = k := by omega
          rw [ownSets_full] at hor
          clear hown4 hB4 hlt
          have hx3b := boxed_later hx33 hbr
          have c3 := hx3b.cell
          have hor8 := owns_later hor3 hbr
          have hB0b := below_c hB03 hbr
          have hszb := hbr.size
          have hbl := hbox.lt
          gi_wp2_with (gi_at_make; refine wpListIn_make_full _ rfl _ _ _ rfl wr.heap.size 4 i1 (.bool false) 1 Try.underlying53 hi1 hy0 hy1 .i64 .i64 _ _ ls.length rfl rfl rfl rfl (by rw [hy2]; omega) (by unfold maxLen; omega) (Nat.le_refl _) ?_; intro w5 hown5 hgr5)
          have hB5 := below_iff_grown.2 hgr5
          have hsz5 := hB5.size
          have hlt5 : wr.heap.size < w5.heap.size := (hown5.lt _ rfl).2
          have ez5 : (madeCells (Value.bool false).cells (ls.length * 1)).toList = bools (List.replicate ls.length false) := by
            rw [Nat.mul_one]; show (madeCells #[Value.bool false] ls.length).toList = _; rw [toList_madeCells_one]; simp [bools]
          rw [ez5] at hown5
          have hx35 := boxed_later hx3b hB5
          have hor5 := owns_later hor8 hB5
          have hB05 := below_c hB0b hB5
          have hM0 : SpM n ls.length w3.heap.size w4.heap.size wr.heap.size w5.heap.size w5 w5 ((List.range n).map fun i => 2 ^ i) (List.replicate ls.length false) [] :=
            ⟨boxed_later hbox hB5, owns_later hor hB5, hown5, Below.refl _ _, Nat.le_refl _, .nil⟩
          clear ez5 hgr5 hown5 hB5 hor hbox hor8 hx3b hor3 hx33 hbr
          refine loop_ghost (Held fun μ a W => ∃ (k : Nat) (S : List Nat) (us : List Bool) (s : Int) (ds : List Deferred), a = { tmps := #[.int .i64 (n : Int), slotsOf a 1, slotsOf a 2, .pointer (some ⟨w.heap.size, 0, none⟩), slotsOf a 4, slotsOf a 5, slotsOf a 6, slotsOf a 7, slotsOf a 8, slotsOf a 9, .pointer (some ⟨w4.heap.size, 0, none⟩), slotsOf a 11, .slice (some ⟨wr.heap.size, 0, none⟩) ls.length ls.length, .int .i64 s, slotsOf a 14, slotsOf a 15, slotsOf a 16, slotsOf a 17, slotsOf a 18, slotsOf a 19, slotsOf a 20, slotsOf a 21, slotsOf a 22, slotsOf a 23, slotsOf a 24, slotsOf a 25, slotsOf a 26, slotsOf a 27, slotsOf a 28, slotsOf a 29, slotsOf a 30, slotsOf a 31, slotsOf a 32, slotsOf a 33, slotsOf a 34, slotsOf a 35, slotsOf a 36, slotsOf a 37, slotsOf a 38, slotsOf a 39, slotsOf a 40, slotsOf a 41, slotsOf a 42, slotsOf a 43, slotsOf a 44, slotsOf a 45, slotsOf a 46, slotsOf a 47, slotsOf a 48, slotsOf a 49, slotsOf a 50, slotsOf a 51, slotsOf a 52, slotsOf a 53, slotsOf a 54, slotsOf a 55, slotsOf a 56, .slice (some ⟨w1.heap.size, 0, none⟩) ls.length ls.length, .int .i64 (ls.length : Int), .int .i64 (k : Int), slotsOf a 60, slotsOf a 61, slotsOf a 62, slotsOf a 63, slotsOf a 64, slotsOf a 65, slotsOf a 66, slotsOf a 67, slotsOf a 68, slotsOf a 69, slotsOf a 70, slotsOf a 71, slotsOf a 72, slotsOf a 73, slotsOf a 74, slotsOf a 75, slotsOf a 76, slotsOf a 77, slotsOf a 78, slotsOf a 79, slotsOf a 80, slotsOf a 81, slotsOf a 82, slotsOf a 83, slotsOf a 84, slotsOf a 85, slotsOf a 86, slotsOf a 87, slotsOf a 88, slotsOf a 89, slotsOf a 90, slotsOf a 91, slotsOf a 92, slotsOf a 93, slotsOf a 94, slotsOf a 95, slotsOf a 96, slotsOf a 97, slotsOf a 98, slotsOf a 99, slotsOf a 100, slotsOf a 101, slotsOf a 102, slotsOf a 103, slotsOf a 104, slotsOf a 105, slotsOf a 106, slotsOf a 107, slotsOf a 108, slotsOf a 109], defers := ds } ∧ μ = ls.length - k ∧ k ≤ ls.length ∧
            SpM n ls.length w3.heap.size w4.heap.size wr.heap.size w5.heap.size w5 W S us ds ∧ Hid (IsWith n (ls.take k) S) ∧ us.length = ls.length ∧ Hid (AllBr n ls → ∀ j, j < k → us[j]? = some true) ∧ 0 ≤ s ∧ s ≤ 3 * (k : Int)) _
            (show ∃ _, _ from ⟨0, _, _, 0, [], rfl, rfl, by omega, hM0, with_start hn1 hn8, by simp, fun _ j hj => absurd hj (by omega), by omega, by omega⟩) ?_
          intro μ a W hJ
          obtain ⟨k, S, us, s, ds, ha, rfl, hk, hM, HW, hul, HU, hs1, hs2⟩ := hJ
          generalize slotsOf a = y at ha
          subst ha
          clear hM0
          by_cases hkn : k < ls.length
          · have hki : (k : Int) < (ls.length : Int) := by omega
            have ck := (hM.below.cell (p := ⟨w1.heap.size, k, none⟩) hs13).trans (owns_at hor5 (u := .int .i64 (k : Int)) (k := k) (by simp [nats, hkn]))
            have c3 := (hM.below.cell (p := ⟨w.heap.size, 0, none⟩) hs03).trans hx35.cell
            obtain ⟨_, _, e, _, _, _, hcx⟩ := id hr
            cases e
            obtain ⟨bv, ov, rfl, hbv, hcv⟩ := hcx (by omega)
            obtain ⟨q1, q2, q3⟩ := costs_at hcv hkn
            obtain ⟨px, py, hxy, hpx, hpy, _⟩ := line_nat HG.out (List.getElem_mem hkn)
            rw [hxy] at q1 q2
            have q1 := (hM.below.cell (p := ⟨bv, ov + k * 3, none⟩) (Nat.lt_trans hbv hs03)).trans ((hB05.cell (p := ⟨bv, ov + k * 3, none⟩) hbv).trans q1)
            have q2 := (hM.below.cell (p := ⟨bv, ov + k * 3 + 1, none⟩) (Nat.lt_trans hbv hs03)).trans ((hB05.cell (p := ⟨bv, ov + k * 3 + 1, none⟩) hbv).trans q2)
            have q3 := (hM.below.cell (p := ⟨bv, ov + k * 3 + 2, none⟩) (Nat.lt_trans hbv hs03)).trans ((hB05.cell (p := ⟨bv, ov + k * 3 + 2, none⟩) hbv).trans q3)
            have hBB : w3.heap.size ≤ w5.heap.size := by omega
            have hMa := hM.later (below_alloc' W (.cells #[.int .i64 (px : Int), .int .i64 (py : Int), .int .i64 3] 52)) hBB
            have hSl := HW.out.len
            have hxo : px < S.length := by omega
            have hyo : py < S.length := by omega
            have hSx := HW.out.low _ (List.getElem_mem hxo)
            have hSy := HW.out.low _ (List.getElem_mem hyo)
            have hbl := World.alloc_heap_new W (.cells #[.int .i64 (px : Int), .int .i64 (py : Int), .int .i64 3] 52)
            have a0 := cell_of_row _ _ 0 _ _ _ hbl
            have a1 := cell_of_row _ _ 1 _ _ _ hbl
            have a2 := cell_of_row _ _ 2 _ _ _ hbl
            simp only [List.getElem?_toArray, List.getElem?_cons_zero, List.getElem?_cons_succ] at a0 a1 a2
            have hsV : (W.alloc (.cells #[.int .i64 (px : Int), .int .i64 (py : Int), .int .i64 3] 52)).heap.size = W.heap.size + 1 := by simp
            clear hcx hcv
            gi_wp2_with fail
            generalize W.alloc (.cells #[.int .i64 (px : Int), .int .i64 (py : Int), .int .i64 3] 52) = V at *
            have c10 := hMa.bx.cell
            have cx := owns_at hMa.row (setsOf_get hxo)
            have cy := owns_at hMa.row (setsOf_get hyo)
            have hxn : (px : Int) < (n : Int) := by omega
            have hyn : (py : Int) < (n : Int) := by omega
            refine region_tail_in wide_wide 7 (by kernel_rfl) (by kernel_rfl) ?_ ?_
            · exact calm_cons (calm_load rfl) (calm_cons (calm_field rfl) (calm_cons (calm_load rfl) (calm_cons (calm_index rfl) (calm_cons (calm_load rfl) (calm_cons (calm_field rfl) (calm_cons (calm_load rfl) (calm_cons (calm_call _ _ _ rfl (enters_of Try.func45 (by kernel_rfl) rfl)) calm_nil)))))))
            simp only [List.take_succ_cons, List.take_zero, List.drop_succ_cons, List.drop_zero]
            change wpStill _ _ (World.drew _) _ _ _
            repeat still_step
            refine wpStill_nil ?_
            change wpList _ _ _ _ _ (World.drew _)
            go_wp2_with fail
            refine (has_any S[px] py _ (by omega) (by omega)).mono ?_
            rintro e w' ⟨rfl, rfl⟩
            have hadjS : S[px].testBit py = true ↔ Conn (beside n (ls.take k)) px py := by
              have := HW.out.bit px py hpx
              unfold adjS at this
              rw [List.getElem?_eq_getElem hxo] at this
              exact this
            have htk : ls.take (k + 1) = ls.take k ++ [((px : Int), (py : Int))] := by rw [List.take_succ_eq_append_getElem hkn, hxy]
            have hgt := good_take HG.out k
            have hgt1 : GoodG n (ls.take k ++ [((px : Int), (py : Int))]) := by rw [← htk]; exact good_take HG.out (k + 1)
            cases hbit : S[px].testBit py with
            | true =>
              have hcon := hadjS.1 hbit
              have HW1 : Hid (IsWith n (ls.take (k + 1)) S) := by show IsWith _ _ _; rw [htk]; exact with_skip hgt hgt1 HW.out hcon
              have HU1 : Hid (AllBr n ls → ∀ j, j < k + 1 → us[j]? = some true) := fun hb j hj => by
                by_cases e : j = k
                · subst e; exact absurd hcon (br_used HG.out hb hkn hxy)
                · exact HU.out hb j (by omega)
              have hMd := Lib.hid (hMa.later (Below.refl _ _).drew hBB)
              clear hadjS hcon hbit htk hgt hgt1 c10 cx cy a0 a1 a2 q1 q2 q3 ck c3 hSx hSy
              go_wp2
              gi_wp2_with fail
              exact ⟨ls.length - (k + 1), by omega, (show ∃ _, _ from ⟨k + 1, S, us, s, ds, rfl, rfl, by omega, hMd.out, HW1, hul, HU1, by omega, by omega⟩)⟩
            | false =>
              have hku : k < us.length := by omega
              have fk := hMa.use.frozenAt k
              have cu := owns_at hMa.use (u := .bool us[k]) (k := k) (by simp [bools, hku])
              have wk3 : IntKind.i64.wrap (s + 3) = s + 3 := IntWalk.i64_in _ (by omega)
              have hMm := hMa.mark (by omega) (by omega) (by omega) k true hku
              have hsW := hM.size
              have hfar : ∀ j, (V.setCell ⟨wr.heap.size, k, none⟩ (.bool true)).cell? ⟨W.heap.size, j, none⟩ = V.cell? ⟨W.heap.size, j, none⟩ := fun j => World.cell?_setCell_far _ _ _ _ (by show wr.heap.size ≠ W.heap.size; omega)
              rw [← hfar] at a0 a1 a2
              have hsV2 : (V.setCell ⟨wr.heap.size, k, none⟩ (.bool true)).heap.size = W.heap.size + 1 := by rw [← hsV]; simp [World.setCell]
              clear c10 cx cy hfar ck c3 q1 q2 q3 hbl
              go_wp2
              gi_wp2_with fail
              generalize V.setCell ⟨wr.heap.size, k, none⟩ (.bool true) = V2 at *
              have c10 := hMm.bx.cell
              have cx := owns_at hMm.row (setsOf_get hxo)
              have cy := owns_at hMm.row (setsOf_get hyo)
              have hor25 := bits_or_u64_nat S[px] S[py] (by omega) (by omega)
              have hbth : S[px] ||| S[py] < 256 := Nat.or_lt_two_pow (n := 8) hSx hSy
              generalize hsx : S[px] = sx at *
              generalize hsy : S[py] = sy at *
              refine region_held_in wide_wide (fun w' => w'.cell? ⟨w4.heap.size, 0, none⟩ = some (.slice (some ⟨w3.heap.size, 0, none⟩) n n) ∧ w'.cell? ⟨W.heap.size, 0, none⟩ = some (.int .i64 (px : Int)) ∧ w'.cell? ⟨W.heap.size, 1, none⟩ = some (.int .i64 (py : Int)) ∧ w'.cell? ⟨w3.heap.size, px, none⟩ = some (.int .u64 (sx : Int)) ∧ w'.cell? ⟨w3.heap.size, py, none⟩ = some (.int .u64 (sy : Int))) (by kernel_rfl) ?_ ⟨c10, a0, a1, cx, cy⟩ (fun hHeld => ?_)
              · exact calm_cons (calm_load rfl) (calm_cons (calm_field rfl) (calm_cons (calm_load rfl) (calm_cons (calm_index rfl) (calm_cons (calm_load rfl) (calm_cons (calm_load rfl) (calm_cons (calm_field rfl) (calm_cons (calm_load rfl) (calm_cons (calm_index rfl) (calm_cons (calm_load rfl) (calm_cons (calm_bin rfl) (calm_cons (calm_alloc rfl) (calm_cons (calm_store rfl) calm_nil))))))))))))
              refine wpAnyH_take (i := 0) (v := ?v0) rfl (by kernel_rfl) (by kernel_rfl) (by kernel_rfl) held_panic (Or.inl ⟨by rfl, ?hy0⟩) (by assumption) ?rest0
              case hy0 =>
                intro w hSw
                try dsimp only at hSw
                go_simp
                try with_reducible rfl
              simp only [Act.put, List.getElem_toArray, List.getElem_cons_zero, List.setIfInBounds_toArray, List.set_cons_zero, List.set_cons_succ]
              refine wpAnyH_take (i := 1) (v := ?v1) rfl (by kernel_rfl) (by kernel_rfl) (by kernel_rfl) held_panic (Or.inl ⟨by rfl, ?hy1⟩) (by assumption) ?rest1
              case hy1 =>
                intro w hSw
                try dsimp only at hSw
                go_simp
                try with_reducible rfl
              simp only [Act.put, List.getElem_toArray, List.getElem_cons_zero, List.getElem_cons_succ, List.setIfInBounds_toArray, List.set_cons_zero, List.set_cons_succ]
              refine wpAnyH_take (i := 2) (v := ?v2) rfl (by kernel_rfl) (by kernel_rfl) (by kernel_rfl) held_panic (Or.inl ⟨by rfl, ?hy2⟩) (by assumption) ?rest2
              case hy2 =>
                intro w hSw
                try dsimp only at hSw
                go_simp
                try with_reducible rfl
              simp only [Act.put, List.getElem_toArray, List.getElem_cons_zero, List.getElem_cons_succ, List.setIfInBounds_toArray, List.set_cons_zero, List.set_cons_succ]
              refine wpAnyH_take (i := 3) (v := ?v3) rfl (by kernel_rfl) (by kernel_rfl) (by kernel_rfl) held_panic (Or.inl ⟨by rfl, ?hy3⟩) (by assumption) ?rest3
              case hy3 =>
                intro w hSw
                try dsimp only at hSw
                go_simp
                try with_reducible rfl
              simp only [Act.put, List.getElem_toArray, List.getElem_cons_zero, List.getElem_cons_succ, List.setIfInBounds_toArray, List.set_cons_zero, List.set_cons_succ]
              refine wpAnyH_take (i := 4) (v := ?v4) rfl (by kernel_rfl) (by kernel_rfl) (by kernel_rfl) held_panic (Or.inl ⟨by rfl, ?hy4⟩) (by assumption) ?rest4
              case hy4 =>
                intro w hSw
                try dsimp only at hSw
                go_simp
                try with_reducible rfl
              simp only [Act.put, List.getElem_toArray, List.getElem_cons_zero, List.getElem_cons_succ, List.setIfInBounds_toArray, List.set_cons_zero, List.set_cons_succ]
              refine wpAnyH_take (i := 5) (v := ?v5) rfl (by kernel_rfl) (by kernel_rfl) (by kernel_rfl) held_panic (Or.inl ⟨by rfl, ?hy5⟩) (by assumption) ?rest5
              case hy5 =>
                intro w hSw
                try dsimp only at hSw
                go_simp
                try with_reducible rfl
              simp only [Act.put, List.getElem_toArray, List.getElem_cons_zero, List.getElem_cons_succ, List.setIfInBounds_toArray, List.set_cons_zero, List.set_cons_succ]
              refine wpAnyH_take (i := 6) (v := ?v6) rfl (by kernel_rfl) (by kernel_rfl) (by kernel_rfl) held_panic (Or.inl ⟨by rfl, ?hy6⟩) (by assumption) ?rest6
              case hy6 =>
                intro w hSw
                try dsimp only at hSw
                go_simp
                try with_reducible rfl
              simp only [Act.put, List.getElem_toArray, List.getElem_cons_zero, List.getElem_cons_succ, List.setIfInBounds_toArray, List.set_cons_zero, List.set_cons_succ]
              refine wpAnyH_take (i := 7) (v := ?v7) rfl (by kernel_rfl) (by kernel_rfl) (by kernel_rfl) held_panic (Or.inl ⟨by rfl, ?hy7⟩) (by assumption) ?rest7
              case hy7 =>
                intro w hSw
                try dsimp only at hSw
                go_simp
                try with_reducible rfl
              simp only [Act.put, List.getElem_toArray, List.getElem_cons_zero, List.getElem_cons_succ, List.setIfInBounds_toArray, List.set_cons_zero, List.set_cons_succ]
              refine wpAnyH_take (i := 8) (v := ?v8) rfl (by kernel_rfl) (by kernel_rfl) (by kernel_rfl) held_panic (Or.inl ⟨by rfl, ?hy8⟩) (by assumption) ?rest8
              case hy8 =>
                intro w hSw
                try dsimp only at hSw
                go_simp
                try with_reducible rfl
              simp only [Act.put, List.getElem_toArray, List.getElem_cons_zero, List.getElem_cons_succ, List.setIfInBounds_toArray, List.set_cons_zero, List.set_cons_succ]
              refine wpAnyH_take (i := 9) (v := ?v9) rfl (by kernel_rfl) (by kernel_rfl) (by kernel_rfl) held_panic (Or.inl ⟨by rfl, ?hy9⟩) (by assumption) ?rest9
              case hy9 =>
                intro w hSw
                try dsimp only at hSw
                go_simp
                try with_reducible rfl
              simp only [Act.put, List.getElem_toArray, List.getElem_cons_zero, List.getElem_cons_succ, List.setIfInBounds_toArray, List.set_cons_zero, List.set_cons_succ]
              refine wpAnyH_take (i := 10) (v := ?v10) rfl (by kernel_rfl) (by kernel_rfl) (by kernel_rfl) held_panic (Or.inl ⟨by rfl, ?hy10⟩) (by assumption) ?rest10
              case hy10 =>
                intro w hSw
                try dsimp only at hSw
                go_simp
                try with_reducible rfl
              simp only [Act.put, List.getElem_toArray, List.getElem_cons_zero, List.getElem_cons_succ, List.setIfInBounds_toArray, List.set_cons_zero, List.set_cons_succ]
              refine wpAnyH_ready (rs := [11]) (by kernel_rfl) (by simp) ?_
              refine AllReadyH.cons rfl (fun K hK => ?_) AllReadyH.nil
              have hbx := Boxed.new V2 65 (.int .u64 0)
              rw [hsV2] at hbx
              have hMl := hMm.later (below_alloc' V2 (.cells #[.int .u64 0] 65)) hBB
              have hbxc := hbx.cell
              have hbxf := hbx.frozen
              have ne1 : W.heap.size + 1 ≠ w4.heap.size := by omega
              have ne2 : W.heap.size + 1 ≠ W.heap.size := by omega
              have ne3 : W.heap.size + 1 ≠ w3.heap.size := by omega
              go_simp
              refine hK.out _ _ ?_ (fun hHeld2 => ?_)
              · go_keep
              clear hK K
              refine wpAnyH_ready (rs := [12]) (by kernel_rfl) (by simp) ?_
              refine AllReadyH.cons rfl (fun K hK => ?_) AllReadyH.nil
              go_simp
              refine hK.out _ _ ?_ (fun hHeld3 => ?_)
              · go_keep
              clear hK K
              refine wpAnyH_done (by kernel_rfl) ?_ _
              refine ⟨rfl, ?_⟩
              have hbitn : ∀ i, (sx ||| sy).testBit i = true → i < n := fun i hi => by
                rw [Nat.testBit_or, Bool.or_eq_true] at hi
                have hO := adj_bounded hgt
                have key : ∀ p, (hp : p < n) → (hpo : p < S.length) → S[p].testBit i = true → i < n := fun p hp hpo h => by
                  have h2 := (HW.out.bit p i hp).1 (by unfold adjS; rw [List.getElem?_eq_getElem hpo]; exact h)
                  exact h2.in_ hO hp
                rcases hi with hi | hi
                · exact key px hpx hxo (by rw [hsx]; exact hi)
                · exact key py hpy hyo (by rw [hsy]; exact hi)
              have HBN := Lib.hid hbitn
              have HJ : Hid (IsWith n (ls.take (k + 1)) (setAll S (sx ||| sy) ((elems (sx ||| sy)).map (·.val)))) := by
                show IsWith _ _ _
                rw [htk]
                refine with_join hgt hgt1 hpx hpy HW.out ?_
                rw [List.getElem?_eq_getElem hxo, List.getElem?_eq_getElem hyo, hsx, hsy]; rfl
              have HU1 : Hid (AllBr n ls → ∀ j, j < k + 1 → (us.set k true)[j]? = some true) := fun hb j hj => by
                rw [List.getElem?_set]
                by_cases e : k = j
                · rw [if_pos e, if_pos hku]
                · rw [if_neg e]; exact HU.out hb j (by omega)
              clear hbitn hMl hbx hbxc hbxf hHeld hHeld2 hHeld3 htk hgt hgt1 hadjS hbit
              have hMe := ((hMm.later (below_alloc' V2 (.cells #[.int .u64 ((sx ||| sy : Nat) : Int)] 65)) hBB).later (Below.refl _ _).drew hBB).later (Below.refl _ _).drew hBB
              have hbb := Boxed.new V2 65 (.int .u64 ((sx ||| sy : Nat) : Int))
              rw [hsV2] at hbb
              have hbb := boxed_later (boxed_later hbb (Below.refl _ _).drew) (Below.refl _ _).drew
              have hsV3 : ((V2.alloc (.cells #[.int .u64 ((sx ||| sy : Nat) : Int)] 65)).drew.drew).heap.size = W.heap.size + 2 := by show (V2.alloc _).heap.size = _; simp [hsV2]
              gi_wp2_with fail
              refine ⟨trivial, ?_⟩
              refine (callsIn_wide.2 (each_any (sx ||| sy) _)).mono ?_
              rintro e w' ⟨rfl, rfl⟩
              generalize (V2.alloc (.cells #[.int .u64 ((sx ||| sy : Nat) : Int)] 65)).drew.drew = V3 at *
              clear a0 a1 a2 c10 cx cy hor25 fk cu wk3 hMm hMa
              generalize hbo : (sx ||| sy) = bo at *
              have hbs := Boxed.new V3 65 (.int .u64 ((bo : Nat) : Int))
              rw [hsV3] at hbs
              have hMb := hMe.later (below_alloc' V3 (.cells #[.int .u64 ((bo : Nat) : Int)] 65)) hBB
              have hbbb := hbb.alloc (.cells #[.int .u64 ((bo : Nat) : Int)] 65)
              gi_wp2_with fail
              refine wpIn_rangeFunc_ownF rfl h1 (gf := 67) (lb := #[.pointer (some ⟨W.heap.size + 2, 0, none⟩)]) rfl trivial (enters_of Try.func67 (by kernel_rfl) rfl)
                (each_stopsIn 19 (by omega) (W.heap.size + 2) bo hbth _ hbs (by simp; omega)) (fun h k => keepsBlock_t h k) (keepsBlock_b (by simp; omega)) (Below.refl _ _) (fun _ => rfl)
                (SpI n ls.length w3.heap.size w4.heap.size wr.heap.size w5.heap.size w5 S (us.set k true) bo (W.heap.size + 1) (W.heap.size + 2) ds)
                (fun _ _ _ => False) ?hI (fun _ _ _ _ _ hs _ _ => hs) ?h0 ?a1 ?assign ?body ?done ?stop
              case hI =>
                rintro pre A A' row ⟨h, b1, b2⟩ hg hr
                have hr2 : ∀ r, row = some r → ∃ o : Obj, A.heap[r]? = some o ∧ o.isCells = false := fun r e => (hr r e).2
                refine ⟨⟨boxed_k h.bx hg hr2, owns_k h.row hg hr2, owns_k h.use hg hr2, h.below.grown hg (Nat.le_trans hBB h.size) (fun r e => ?_), Nat.le_trans h.size hg.size, marks_k h.marks hg (fun r e => (hr r e).1) (fun dd hd => ?_)⟩, boxed_k b1 hg hr2, boxed_k b2 hg hr2⟩
                · have := (hr r e).1; simp at this; have := hMe.size; omega
                · obtain ⟨D, hD1, hD2⟩ := hMe.marks.old dd hd
                  exact ⟨D, hD1, by simp; omega⟩
              case h0 => exact ⟨hMb, hbbb, hbs⟩
              case assign =>
                intro l x W' K hK
                gi_wp2
                exact hK
              case body =>
                rintro lx pre x W4 ⟨h, b1, b2⟩ hlt
                have hxn2 : x.1.val < n := HBN.out _ x.2
                have hxi : (x.1.val : Int) < (n : Int) := by omega
                have hxs : x.1.val < (setAll S bo (pre.map fun (x : PtIn bo) => x.1.val)).length := by rw [setAll_length]; omega
                have c10 := h.bx.cell
                have cb := b1.cell
                have cr := owns_at h.row (setsOf_get hxs)
                have fr := h.row.frozenAt x.1.val
                have hsW2 := hM.size
                have HMs := Lib.hid (h.set (by omega) (by omega) x.1.val bo hxs)
                have g0 := grownBy_setCell_at W4 w3.heap.size x.1.val (.int .u64 (bo : Int))
                have hgc : ∃ o : Obj, W4.heap[w3.heap.size]? = some o ∧ o.isCells = true := by obtain ⟨o, ho, hc⟩ := cells_of_cell cr; exact ⟨o, ho, hc⟩
                have b1s := b1.kept g0 (by simp; omega)
                have b2s := b2.kept g0 (by simp; omega)
                have ko := keeps_row g0 hgc
                clear hgc
                gi_wp2
                refine ⟨ko, (show _ = _ from b2s).trans (show _ = _ from b2).symm, ?_, b1s, b2s⟩
                rw [List.map_append, List.map_singleton, setAll_snoc]
                exact HMs.out
              case done =>
                rintro D xs W4 hD hxs ⟨h, b1, b2⟩ hK
                have hxm : xs.map (fun (x : PtIn bo) => x.1.val) = (elems bo).map (·.val) := by rw [← hxs, List.map_map]; rfl
                rw [hxm] at h
                have hsn := hMe.size
                have hMk := h.marks
                have hDs : w5.heap.size ≤ D := by simp at hD; omega
                have hmk' : Marks w5.heap.size W4 ({ target := .collected D, args := #[] } :: ds) := .cons hDs hK (fun dd hd e => by
                  obtain ⟨D', g1, g2⟩ := hMe.marks.old dd hd
                  rw [g1] at e
                  simp at e hD
                  omega) hMk
                have hMf : SpM n ls.length w3.heap.size w4.heap.size wr.heap.size w5.heap.size w5 W4 (setAll S bo ((elems bo).map (·.val))) (us.set k true) ({ target := .collected D, args := #[] } :: ds) := ⟨h.bx, h.row, h.use, h.below, h.size, hmk'⟩
                have hul2 : (us.set k true).length = ls.length := by simpa using hul
                clear hxm
                gi_wp2_with fail
                exact ⟨ls.length - (k + 1), by omega, (show ∃ _, _ from ⟨k + 1, _, _, s + 3, _, rfl, rfl, by omega, hMf, HJ, hul2, HU1, by omega, by omega⟩)⟩
              case stop =>
                rintro D c pre W' _ _ h _
                exact h.elim
          · obtain rfl : k = ls.length := by omega
            have c10 := hM.bx.cell
            have hSl := HW.out.len
            have h0o : 0 < S.length := by omega
            have c0 := owns_at hM.row (setsOf_get h0o)
            have hn0 : 0 < n := by omega
            have HWF := HW.out
            rw [List.take_length] at HWF
            have hfull := with_full HG.out HWF
            rw [List.getElem?_eq_getElem h0o, Option.getD_some] at hfull
            have hbl := fun w => below_any n w (by omega)
            generalize hM0' : 2 ^ n - 1 = M at *
            generalize S[0] = s0 at *
            have HRD := Lib.hid (rd_of_owns hM.use)
            have HB := Lib.hid (hB05.trans (hM.below.mono (Nat.le_of_lt hs03)))
            have HAT : Hid (AllBr n ls → ∀ u ∈ us, u = true) := fun hb u hu => by
              obtain ⟨j, hj, rfl⟩ := List.mem_iff_getElem.1 hu
              have := HU.out hb j (by omega)
              rw [List.getElem?_eq_getElem hj] at this
              exact Option.some.inj this
            gi_wp2_with fail
            refine region_tail_in wide_wide 5 (by kernel_rfl) (by kernel_rfl) ?_ ?_
            · exact calm_cons (calm_load rfl) (calm_cons (calm_index rfl) (calm_cons (calm_load rfl) (calm_cons (calm_move rfl) (calm_cons (calm_call _ _ _ rfl (enters_of Try.func39 (by kernel_rfl) rfl)) (calm_cons (calm_bin rfl) calm_nil)))))
            simp only [List.take_succ_cons, List.take_zero, List.drop_succ_cons, List.drop_zero]
            change wpStill _ _ (World.drew _) _ _ _
            repeat still_step
            refine wpStill_step (fun K hK => ?_)
            go_simp
            refine ⟨_, still_of (hbl _), hK _ ?_⟩
            clear hK K
            refine wpStill_nil ?_
            change wpList _ _ _ _ _ (World.drew _)
            by_cases hT : ∀ x, x < n → Conn (beside n ls) 0 x
            · have hneq : ((s0 : Int) != (M : Int)) = false := by simp [hfull.2 hT]
              have HT := Lib.hid hT
              clear hT hfull
              go_wp2
              gi_wp2
              refine leaves_marks (hM.marks.later (Below.refl _ _).drew) (fun W' => results_tmp3 rfl _ _ W') ?_ ⟨.inl ⟨HT.out, _, _, us, s, rfl, hul, HAT.out, HRD.out.later (Below.refl _ _).drew⟩, below_c HB.out (Below.refl _ _).drew⟩
              rintro s A A' row ⟨h | h, g2⟩ hg hr
              · obtain ⟨l0, a, c, us, s, e, l1, l2, r1⟩ := h
                exact ⟨.inl ⟨l0, a, c, us, s, e, l1, l2, rd_k r1 hg (fun r e => (hr r e).2)⟩, ownFrom_below (Nat.le_refl _) (by have := hB05.size; omega) s A A' row g2 hg hr⟩
              · exact absurd HT.out h.1
            · have hneq : ((s0 : Int) != (M : Int)) = true := by
                rw [bne_iff_ne]
                exact fun e => hT (hfull.1 (by omega))
              have HT := Lib.hid hT
              clear hT hfull
              go_wp2
              gi_wp2
              refine leaves_marks (hM.marks.later (Below.refl _ _).drew) (fun W' => results_tmp3 rfl _ _ W') ?_ ⟨.inr ⟨HT.out, rfl⟩, below_c HB.out (Below.refl _ _).drew⟩
              rintro s A A' row ⟨h | h, g2⟩ hg hr
              · exact absurd h.1 HT.out
              · exact ⟨.inr h, ownFrom_below (Nat.le_refl _) (by have := hB05.size; omega) s A A' row g2 hg hr⟩
end Go.Proofs.Ytjeafgnaoncphaa
