/- TopTrees returns true for every input: the walk. Conditions: none. -/
import Derived.Test.YtjeafgnaoncphaaOnes
import Derived.Test.YtjeafgnaoncphaaPrufer
import Derived.Test.YtjeafgnaoncphaaBetwA
import Derived.Test.YtjeafgnaoncphaaRing
import Derived.Test.YtjeafgnaoncphaaParts
import Derived.Test.YtjeafgnaoncphaaRowEq
import Derived.Deep.RegionHeld3
namespace Go.Proofs.Ytjeafgnaoncphaa
open Go.RowKit Gr

theorem info_cost : (Try.prog.info? 52).map (fun i => (i.zero, i.size, i.bytes)) = some (some (.agg #[.int .i64 0, .int .i64 0, .int .i64 0]), 3, 24) := by kernel_rfl

theorem parts_connT {O : List Nat} {n : Nat} {p : List Int} (hn : n ≤ 8) (hO : Bounded n O) (hs : Symm O) (hp : IsParts O n p) {i j : Nat} (hi : i < n) (hj : j < n) : at1 p i = at1 p j ↔ Conn O i j := by
  obtain ⟨D, hD⟩ := exists_dist hn hO hi (O := O)
  rw [parts_dist hn hO hs hp hD hi hj, dist_conn hD]
theorem sum_zero : ∀ (xs : List Int), (∀ x ∈ xs, 0 ≤ x) → (0 ≤ xs.sum ∧ (xs.sum = 0 ↔ ∀ x ∈ xs, x = 0)) := by
  intro xs
  induction xs with
  | nil => intro _; simp
  | cons x xs ih =>
    intro h
    obtain ⟨i1, i2⟩ := ih fun y hy => h y (List.mem_cons_of_mem _ hy)
    have hx := h x List.mem_cons_self
    rw [List.sum_cons]
    refine ⟨by omega, fun e => ?_, fun e => ?_⟩
    · have hxs := i2.1 (by omega)
      intro y hy
      rcases List.mem_cons.1 hy with rfl | hy
      · omega
      · exact hxs y hy
    · have h1 := e x List.mem_cons_self
      have h2 := i2.2 fun y hy => e y (List.mem_cons_of_mem _ hy)
      omega
/-- the parts' numbers -/
theorem parts_in {O : List Nat} {n : Nat} {p : List Int} (hn : n ≤ 8) (hp : IsParts O n p) : ∀ x ∈ p, 0 ≤ x ∧ x ≤ 100 := fun x hx => by
  obtain ⟨i, hi, rfl⟩ := List.mem_iff_getElem.1 hx
  have hin : i < n := by rw [← hp.len]; exact hi
  have := parts_le hp hin
  have e : at1 p i = p[i] := by have := at1_lt hi; rw [List.getElem?_eq_getElem hi] at this; simpa using this.symm
  rw [e] at this
  omega
theorem parts_sum {n : Nat} {ls : List Ln} (hg : GoodG n ls) {p : List Int} (hp : IsParts (beside n ls) n p) : p.sum = 0 ↔ ∀ x, x < n → Conn (beside n ls) 0 x := by
  have hn1 := hg.1
  have hO := adj_bounded hg
  have hs : Symm (beside n ls) := fun _ _ h => adj_symm hg h
  have h0 : at1 p 0 = 0 := by have := parts_le hp (show 0 < n by omega); omega
  rw [(sum_zero p fun x hx => (parts_in hg.2.1 hp x hx).1).2]
  constructor
  · intro h x hx
    have hxp : x < p.length := by rw [hp.len]; exact hx
    rw [← parts_connT hg.2.1 hO hs hp (by omega) hx, h0]
    have e : at1 p x = p[x] := by have := at1_lt hxp; rw [List.getElem?_eq_getElem hxp] at this; simpa using this.symm
    rw [e]
    exact (h _ (List.getElem_mem hxp)).symm
  · intro h x hx
    obtain ⟨i, hi, rfl⟩ := List.mem_iff_getElem.1 hx
    have hin : i < n := by rw [← hp.len]; exact hi
    have e : at1 p i = p[i] := by have := at1_lt hi; rw [List.getElem?_eq_getElem hi] at this; simpa using this.symm
    rw [← e, ← (parts_connT hg.2.1 hO hs hp (by omega) hin).2 (h i hin), h0]

theorem tt_good : GoodG 2 [(1, 0)] := by
  refine ⟨by decide, by decide, by decide, fun l hl => ?_⟩
  simp only [List.mem_cons, List.not_mem_nil, or_false] at hl
  rcases hl with rfl; decide
theorem tt_parts {p : List Int} (hp : IsParts (beside 2 [(1, 0)]) 2 p) : p = [0, 0] := by
  have hl := hp.len
  have h0 : at1 p 0 = 0 := by have := parts_le hp (show 0 < 2 by omega); omega
  have h1 : at1 p 1 = 0 := by
    rw [← h0]
    refine ((parts_connT (by omega) (adj_bounded tt_good) (fun _ _ h => adj_symm tt_good h) hp (by omega) (by omega)).2 ?_).symm
    exact (Conn.refl _ _).step ((adj_near tt_good 0 1).2 (by decide))
  match p, hl with
  | [a, b], _ =>
    have e0 : at1 [a, b] 0 = a := rfl
    have e1 : at1 [a, b] 1 = b := rfl
    rw [e0] at h0
    rw [e1] at h1
    rw [h0, h1]

set_option maxHeartbeats 400000 in
theorem parts_lit (v : Value) (w : World) (hr : LinesRd w v [(1, 0)]) : Calls Try.prog 15 #[.int .i64 2, v] w fun e w' => ∃ a c, e = .returned (.tuple #[.slice a 2 c, .nilIface]) ∧ Rd w' (.slice a 2 c) 2 (ints [0, 0]) ∧ Below w.heap.size w w' := by
  refine (parts_ok 2 v [(1, 0)] w hr tt_good).mono ?_
  rintro e w' ⟨p, a, c, rfl, hp, r, hB⟩
  rw [tt_parts hp] at r
  exact ⟨a, c, rfl, r, hB⟩

theorem treeT_yes (n : Nat) (v : Value) (ls : List Ln) (w : World) (hr : LinesRd w v ls) (hg : GoodG n ls) (hT : IsTreeG n ls) :
    Calls Try.prog 22 #[.int .i64 n, v] w fun e w' => e = .returned .nilIface ∧ Below w.heap.size w w' := by
  refine (treeCheck_ok n v ls w hr hg).mono ?_
  rintro e w' ⟨⟨_, rfl⟩ | ⟨h, _⟩, hB⟩
  · exact ⟨rfl, hB⟩
  · exact absurd hT h
theorem treeT_not (n : Nat) (v : Value) (ls : List Ln) (w : World) (hr : LinesRd w v ls) (hg : GoodG n ls) (hT : ¬ IsTreeG n ls) :
    Calls Try.prog 22 #[.int .i64 n, v] w fun e w' => e = .returned (errV 7) ∧ Below w.heap.size w w' := by
  refine (treeCheck_ok n v ls w hr hg).mono ?_
  rintro e w' ⟨⟨h, _⟩ | ⟨_, rfl⟩, hB⟩
  · exact absurd h hT
  · exact ⟨rfl, hB⟩

-- the parts, and the two points that hang together

set_option maxRecDepth 100000 in
set_option maxHeartbeats 1000000 in
theorem topTrees_bad (n : Int) {v : Value} {ls : List Ln} {w : World} (hr : LinesRd w v ls) (hc : chk n ls ≠ 0) :
    Calls Try.prog 8 #[.int .i64 n, v] w fun e w' => e = .returned (.bool true) ∧ Below w.heap.size w w' := by
  have KP := fun w hr => parts_bad n v ls w hr hc
  clear hc
  go_enter Try.func8, Try.ntmps8
  go_wp2_with fail
  refine (KP _ hr).mono ?_
  rintro e w1 ⟨rfl, hB1⟩
  go_wp2_with fail
  refine (parts_lit _ _ (lines_lit [(1, 0)] rfl rfl rfl (by decide))).mono ?_
  rintro e w2 ⟨a2, c2, rfl, r2, hB2⟩
  have hB02 := below_c hB1 (below_c (below_alloc' _ _) hB2)
  have hB12 := below_c (below_alloc' w1 (.cells #[.int .i64 1, .int .i64 0] 33)) hB2
  go_wp2_with fail
  refine (ints_b _ _ [0, 0] [0, 0] _ (r2.later (below_alloc' _ _)) (ints_lit [0, 0] rfl rfl rfl (by decide))).mono ?_
  rintro e w3 ⟨rfl, hB3⟩
  rw [decide_eq_true rfl]
  have hB23 := below_c (below_alloc' w2 (.cells #[.int .i64 0, .int .i64 0] 3)) hB3
  have hB03 := below_c hB02 hB23
  go_wp2
  go_ret
  exact ⟨rfl, hB03⟩

/-- two points have several lines, among the first k -/
def twU (ls : List Ln) (k : Nat) : Bool := (ls.take k).any fun l => betw ls l.1 l.2 != 1
theorem twU_succ (ls : List Ln) (k : Nat) (h : k < ls.length) : twU ls (k + 1) = (twU ls k || (betw ls ls[k].1 ls[k].2 != 1)) := by
  unfold twU; rw [List.take_succ_eq_append_getElem h, List.any_append]; simp
theorem twU_all (ls : List Ln) : twU ls ls.length = false ↔ ∀ l ∈ ls, many ls l.1 l.2 = 1 := by
  unfold twU
  rw [List.take_length, List.any_eq_false]
  constructor
  · intro h l hl
    have h2 : betw ls l.1 l.2 = 1 := by simpa using h l hl
    exact h2
  · intro h l hl
    have : betw ls l.1 l.2 = 1 := h l hl
    simp [this]

theorem ret_tw {a b : Bool} (h : a = b) : Value.bool b = .bool a := by rw [h]

-- the line is written with what it costs

-- from the parts' sum to the end of the loop


-- the used lines are all of them


set_option maxRecDepth 100000 in
set_option maxHeartbeats 8000000 in
theorem topTrees_tree (n : Nat) {v : Value} {ls : List Ln} {w : World} (hr : LinesRd w v ls) (hg : GoodG n ls) (hT : IsTreeG n ls) :
    Calls Try.prog 8 #[.int .i64 (n : Int), v] w fun e w' => e = .returned (.bool true) ∧ Below w.heap.size w w' := by
  obtain ⟨i0, hi, hz0, hz1, hz2⟩ := info_parts info_cost
  have KP := fun w hr => parts_ok n v ls w hr hg
  have KL := fun w hr => refLines_any (n : Int) v ls w hr
  rw [chk_good hg] at KL
  have KTy := fun w hr hT => treeT_yes n v ls w hr hg hT
  have KTn := fun w hr hT => treeT_not n v ls w hr hg hT
  have KR := fun w hr => ring_ok n v ls w hr hg
  have KB := fun w hr => bridges_ok n v ls w hr hg
  have KS := fun u w hr => spanLeast_ok n u ls w hr hg
  have KW := fun w hr hT h2 => prufer_ok n v ls w hr hg hT h2
  have HG := Lib.hid hg
  have hn1 := hg.1
  have hn8 := hg.2.1
  have hl24 := hg.2.2.1
  have hnn : ((n : Int) != (n : Int)) = false := by simp
  obtain ⟨av, cv, rfl⟩ : ∃ a c, v = .slice a ls.length c := by obtain ⟨a, c, h, _⟩ := id hr; exact ⟨a, c, h⟩
  clear hg
  go_enter Try.func8, Try.ntmps8
  go_wp2_with fail
  refine (KP _ hr).mono ?_
  rintro e w1 ⟨p, ap, cp, rfl, hp, rp, hB1⟩
  go_wp2_with fail
  refine (parts_lit _ _ (lines_lit [(1, 0)] rfl rfl rfl (by decide))).mono ?_
  rintro e w2 ⟨a2, c2, rfl, r2, hB2⟩
  have hB02 := below_c hB1 (below_c (below_alloc' _ _) hB2)
  have hB12 := below_c (below_alloc' w1 (.cells #[.int .i64 1, .int .i64 0] 33)) hB2
  go_wp2_with fail
  refine (ints_b _ _ [0, 0] [0, 0] _ (r2.later (below_alloc' _ _)) (ints_lit [0, 0] rfl rfl rfl (by decide))).mono ?_
  rintro e w3 ⟨rfl, hB3⟩
  rw [decide_eq_true rfl]
  have hB23 := below_c (below_alloc' w2 (.cells #[.int .i64 0, .int .i64 0] 3)) hB3
  have hB03 := below_c hB02 hB23
  have rp3 := rp.later (below_c hB12 hB23)
  have hpsum := parts_sum HG.out hp
  have KSum := fun w (hb : Below w3.heap.size w3 w) => sum_ok _ n p w (rp3.later hb) hp.len (by omega) (parts_in hn8 hp)
  clear KP rp r2 hB02 hB12 hB23 hp hB1 hB2 hB3
  go_wp2_with fail
  refine (KL _ (hr.later hB03)).mono ?_
  rintro e w4 ⟨rfl, hB4⟩
  have hB04 := below_c hB03 hB4
  go_wp2_with fail
  refine (KSum _ hB4).mono ?_
  rintro e w' ⟨rfl, rfl⟩
  have hsum : p.sum = 0 := hpsum.2 hT.2
  rw [hsum]
  clear hpsum hsum
  have HT := Lib.hid hT
  have KT := fun w hr => KTy w hr hT
  clear hT
  go_wp2_with fail
  refine (KT _ (hr.later hB04)).mono ?_
  rintro e w5 ⟨rfl, hB5⟩
  have hB05 := below_c hB04 hB5
  go_wp2_with fail
  refine (KR _ (hr.later hB05)).mono ?_
  rintro e w6 ⟨kr, rfl, hbest, hB6⟩
  have hB06 := below_c hB05 hB6
  have HRING := Lib.hid (br_ring HG.out hbest)
  go_wp2_with fail
  refine (KB _ (hr.later hB06)).mono ?_
  rintro e w7 ⟨ab, cb, rfl, _, hB7⟩
  have hB07 := below_c hB06 hB7
  have HCNT := Lib.hid (br_count HG.out)
  generalize (bridgesL n ls).length = nb at *
  clear hbest KR KB KL KSum hB4 hB5 hB6 hB7 hB03 hB04 hB05 hB06
  go_wp2_with fail
  go_loopw [15, 16, 17] (fun tt oo ii wr => ∃ k : Nat, k ≤ ls.length ∧ ii = .int .i64 k ∧ tt = .bool (twU ls k) ∧ wr.ownsRow w7.heap.size 52 3 oo k (cellsC (ls.take k)) ∧ Below w7.heap.size w7 wr) (fun _ _ ii _ => ls.length - (intOf ii).toNat)
  case atStart => exact ⟨0, by omega, rfl, by simp [twU], by simpa [cellsC] using World.ownsRow_nil _ w7.heap.size 52 3, Below.refl _ _⟩
  case round =>
    obtain ⟨k, hk, rfl, rfl, ho, hB⟩ := hrel
    obtain ⟨ao, co, rfl⟩ := owns_slice ho
    have hsB := hB.size
    by_cases hlt : k < ls.length
    · have hki : (k : Int) < (ls.length : Int) := by omega
      obtain ⟨_, _, e, _, _, _, hcell⟩ := id hr
      cases e
      obtain ⟨bv, ov, rfl, hbv, hcx⟩ := hcell (by omega)
      obtain ⟨g1, g2⟩ := lines_at hcx hlt
      have hBk := below_c hB07 hB
      have g1 := (hBk.cell (p := ⟨bv, ov + k * 2, none⟩) hbv).trans g1
      have g2 := (hBk.cell (p := ⟨bv, ov + k * 2 + 1, none⟩) hbv).trans g2
      have hbv4 : bv < w7.heap.size := Nat.lt_of_lt_of_le hbv hB07.size
      have HTW := Lib.hid (twU_succ ls k hlt)
      have HTK : Hid (ls.take (k + 1) = ls.take k ++ [(ls[k].1, ls[k].2)]) := by show _ = _; rw [List.take_succ_eq_append_getElem hlt]
      have KBt := fun q => between_ok (.slice (some ⟨bv, ov, none⟩) ls.length cv) ls ls[k].1 ls[k].2 (wr.drewN q) (hr.later (hBk.trans ((below_drewN' wr q).mono hBk.size))) (by omega)
      clear hcx hcell KTy KTn KS KW
      generalize hx : ls[k].1 = x at *
      generalize hy : ls[k].2 = y at *
      generalize betw ls x y = z at *
      clear hx hy
      cases htw : twU ls k with
      | true =>
        rw [htw] at HTW
        have HS2 : Hid (twU ls (k + 1) = true) := by show _ = _; rw [HTW.out]; rfl
        clear htw HTW KBt
        go_wp2_with fail
        go_quiet (fail)
        have hoq := owns_later ho (below_drewN' wr nq)
        have hBq := hB.trans ((below_drewN' wr nq).mono hB.size)
        have e1 : (wr.drewN nq).cell? ⟨bv, ov + k * 2, none⟩ = some (.int .i64 x) := g1
        have e2 : (wr.drewN nq).cell? ⟨bv, ov + k * 2 + 1, none⟩ = some (.int .i64 y) := g2
        have hbq : bv < (wr.drewN nq).heap.size := Nat.lt_of_lt_of_le hbv4 hBq.size
        have hsq := hBq.size
        generalize wr.drewN nq = wq at *
        go_wp2_with fail
        go_region_held3 (fun w' => w'.cell? ⟨bv, ov + k * 2, none⟩ = some (.int .i64 x) ∧ w'.cell? ⟨bv, ov + k * 2 + 1, none⟩ = some (.int .i64 y)) (first | go_keep | exact ⟨(hst4.cell (p := ⟨bv, ov + k * 2, none⟩) hbv4).trans (((below_alloc' wq.drew _).cell (p := ⟨bv, ov + k * 2, none⟩) hbq).trans e1), (hst4.cell (p := ⟨bv, ov + k * 2 + 1, none⟩) hbv4).trans (((below_alloc' wq.drew _).cell (p := ⟨bv, ov + k * 2 + 1, none⟩) hbq).trans e2)⟩)
          (first | (refine step_app _ _ _ ((AppTo.refl hoq).drew.alloc _) wq.heap.size _ (World.alloc_heap_new _ _) rfl rfl Try.underlying49 hi hz0 hz1 hz2 rfl (by decide) rfl rfl rfl (by simp [Value.oneCell']) (by decide) (by omega) (by omega) ?_; intro v4 w9 hA4' hne4 hst4))
        all_goals
          go_wp2
          go_roundw
          case rel =>
            refine ⟨k + 1, by omega, by go_num, ret_tw HS2.out, ?_, (hBq.trans ((below_alloc' wq _).drew.mono hBq.size)).trans hst4⟩
            rw [HTK.out, cellsC_append]
            simpa [cellsC] using hA4'.own
          case measure => simp [intOf]; omega
      | false =>
        rw [htw] at HTW
        cases hz : (z != 1) with
        | true =>
          have HS2 : Hid (twU ls (k + 1) = true) := by show _ = _; rw [HTW.out, hz]; rfl
          have hzi : ((z : Int) != 1) = true := by rw [bne_iff_ne] at hz ⊢; omega
          clear htw HTW hz
          go_wp2_with fail
          go_quiet ((go_at_call 27; refine (KBt _).mono ?_; rintro e w' ⟨rfl, rfl⟩; exact ⟨rfl, _, rfl⟩))
          have hoq := owns_later ho (below_drewN' wr nq)
          have hBq := hB.trans ((below_drewN' wr nq).mono hB.size)
          have e1 : (wr.drewN nq).cell? ⟨bv, ov + k * 2, none⟩ = some (.int .i64 x) := g1
          have e2 : (wr.drewN nq).cell? ⟨bv, ov + k * 2 + 1, none⟩ = some (.int .i64 y) := g2
          have hbq : bv < (wr.drewN nq).heap.size := Nat.lt_of_lt_of_le hbv4 hBq.size
          have hsq := hBq.size
          generalize wr.drewN nq = wq at *
          go_wp2_with fail
          go_region_held3 (fun w' => w'.cell? ⟨bv, ov + k * 2, none⟩ = some (.int .i64 x) ∧ w'.cell? ⟨bv, ov + k * 2 + 1, none⟩ = some (.int .i64 y)) (first | go_keep | exact ⟨(hst4.cell (p := ⟨bv, ov + k * 2, none⟩) hbv4).trans (((below_alloc' wq.drew _).cell (p := ⟨bv, ov + k * 2, none⟩) hbq).trans e1), (hst4.cell (p := ⟨bv, ov + k * 2 + 1, none⟩) hbv4).trans (((below_alloc' wq.drew _).cell (p := ⟨bv, ov + k * 2 + 1, none⟩) hbq).trans e2)⟩)
            (first | (refine step_app _ _ _ ((AppTo.refl hoq).drew.alloc _) wq.heap.size _ (World.alloc_heap_new _ _) rfl rfl Try.underlying49 hi hz0 hz1 hz2 rfl (by decide) rfl rfl rfl (by simp [Value.oneCell']) (by decide) (by omega) (by omega) ?_; intro v4 w9 hA4' hne4 hst4))
          all_goals
            go_wp2
            go_roundw
            case rel =>
              refine ⟨k + 1, by omega, by go_num, ret_tw HS2.out, ?_, (hBq.trans ((below_alloc' wq _).drew.mono hBq.size)).trans hst4⟩
              rw [HTK.out, cellsC_append]
              simpa [cellsC] using hA4'.own
            case measure => simp [intOf]; omega
        | false =>
          have HS2 : Hid (twU ls (k + 1) = false) := by show _ = _; rw [HTW.out, hz]; rfl
          have hzi : ((z : Int) != 1) = false := by rw [bne_eq_false_iff_eq] at hz ⊢; omega
          clear htw HTW hz
          go_wp2_with fail
          go_quiet ((go_at_call 27; refine (KBt _).mono ?_; rintro e w' ⟨rfl, rfl⟩; exact ⟨rfl, _, rfl⟩))
          have hoq := owns_later ho (below_drewN' wr nq)
          have hBq := hB.trans ((below_drewN' wr nq).mono hB.size)
          have e1 : (wr.drewN nq).cell? ⟨bv, ov + k * 2, none⟩ = some (.int .i64 x) := g1
          have e2 : (wr.drewN nq).cell? ⟨bv, ov + k * 2 + 1, none⟩ = some (.int .i64 y) := g2
          have hbq : bv < (wr.drewN nq).heap.size := Nat.lt_of_lt_of_le hbv4 hBq.size
          have hsq := hBq.size
          generalize wr.drewN nq = wq at *
          go_wp2_with fail
          go_region_held3 (fun w' => w'.cell? ⟨bv, ov + k * 2, none⟩ = some (.int .i64 x) ∧ w'.cell? ⟨bv, ov + k * 2 + 1, none⟩ = some (.int .i64 y)) (first | go_keep | exact ⟨(hst4.cell (p := ⟨bv, ov + k * 2, none⟩) hbv4).trans (((below_alloc' wq.drew _).cell (p := ⟨bv, ov + k * 2, none⟩) hbq).trans e1), (hst4.cell (p := ⟨bv, ov + k * 2 + 1, none⟩) hbv4).trans (((below_alloc' wq.drew _).cell (p := ⟨bv, ov + k * 2 + 1, none⟩) hbq).trans e2)⟩)
            (first | (refine step_app _ _ _ ((AppTo.refl hoq).drew.alloc _) wq.heap.size _ (World.alloc_heap_new _ _) rfl rfl Try.underlying49 hi hz0 hz1 hz2 rfl (by decide) rfl rfl rfl (by simp [Value.oneCell']) (by decide) (by omega) (by omega) ?_; intro v4 w9 hA4' hne4 hst4))
          all_goals
            go_wp2
            go_roundw
            case rel =>
              refine ⟨k + 1, by omega, by go_num, ret_tw HS2.out, ?_, (hBq.trans ((below_alloc' wq _).drew.mono hBq.size)).trans hst4⟩
              rw [HTK.out, cellsC_append]
              simpa [cellsC] using hA4'.own
            case measure => simp [intOf]; omega
    · obtain rfl : k = ls.length := by omega
      rw [List.take_length] at ho
      have hB0r := below_c hB07 hB
      have hcr : CostRd wr (.slice ao ls.length co) ls := rd_of_owns ho
      have hbr := tree_br HG.out HT.out
      obtain ⟨hk0, hm1⟩ := HRING.out.1 hbr
      have hnb := HCNT.out.1 hbr
      have hl1 := HT.out.1
      rw [(twU_all ls).2 hm1]
      subst hk0
      subst hnb
      have HBR := Lib.hid hbr
      have wn1 : IntKind.i64.wrap ((n : Int) - 1) = (n : Int) - 1 := IntWalk.i64_in _ (by omega)
      have wn2 : IntKind.i64.wrap ((n : Int) - 2) = (n : Int) - 2 := IntWalk.i64_in _ (by omega)
      have hlen : ((ls.length : Int) == (n : Int) - 1) = true := by simp; omega
      clear hm1 hbr HRING HCNT KTy KTn KT hl1
      go_wp2_with fail
      refine (KS _ _ hcr).mono ?_
      rintro e w8 ⟨h | h, hB8⟩
      · obtain ⟨_, au, cu, us, s, rfl, hul, hall, rus⟩ := h
        have hus := hall HBR.out
        have hB08 := below_c hB0r hB8
        clear hall KS
        by_cases h2 : 2 ≤ n
        · have hn2 : decide ((n : Int) > 1) = true := by simp; omega
          have hn3 : 1 < (n : Int) := by omega
          have KW2 := fun w hr => KW w hr HT.out h2
          clear KW
          go_wp2_with fail
          refine (KW2 _ (hr.later hB08)).mono ?_
          rintro e w9 ⟨row, ar, cr, rfl, _, _, _, _, hB9⟩
          have hB09 := below_c hB08 hB9
          have hrow : (((n - 2 : Nat) : Int) != (n : Int) - 2) = false := by simp; omega
          generalize hr2 : n - 2 = r2 at *
          clear hr2 KW2
          go_wp2_with fail
          refine (ones_ok _ us ls.length _ (rus.later hB9) hul hl24).mono ?_
          rintro e w10 ⟨u10, rfl, r10, hB10⟩
          have KH := refHas_any u10 (onesL us) 0 w10 (by rw [show (onesL us).length = ls.length from by simp [onesL, hul]]; exact r10)
          rw [ones_has us hus] at KH
          go_wp2_with fail
          refine KH.mono ?_
          rintro e w' ⟨rfl, rfl⟩
          go_wp2
          go_ret
          exact ⟨rfl, below_c hB09 hB10⟩
        · have hn2 : decide ((n : Int) > 1) = false := by simp; omega
          have hn3 : ¬ 1 < (n : Int) := by omega
          clear KW
          go_wp2_with fail
          refine (ones_ok _ us ls.length _ rus hul hl24).mono ?_
          rintro e w10 ⟨u10, rfl, r10, hB10⟩
          have KH := refHas_any u10 (onesL us) 0 w10 (by rw [show (onesL us).length = ls.length from by simp [onesL, hul]]; exact r10)
          rw [ones_has us hus] at KH
          go_wp2_with fail
          refine KH.mono ?_
          rintro e w' ⟨rfl, rfl⟩
          go_wp2
          go_ret
          exact ⟨rfl, below_c hB08 hB10⟩
      · exact absurd HT.out.2 h.1

-- no tree: the last step

-- no tree, though all hang together

-- no tree, and not all hang together

set_option maxRecDepth 100000 in
set_option maxHeartbeats 8000000 in
theorem topTrees_conn (n : Nat) {v : Value} {ls : List Ln} {w : World} (hr : LinesRd w v ls) (hg : GoodG n ls) (hT : ¬ IsTreeG n ls) (hC : ∀ x, x < n → Conn (beside n ls) 0 x) :
    Calls Try.prog 8 #[.int .i64 (n : Int), v] w fun e w' => e = .returned (.bool true) ∧ Below w.heap.size w w' := by
  obtain ⟨i0, hi, hz0, hz1, hz2⟩ := info_parts info_cost
  have KP := fun w hr => parts_ok n v ls w hr hg
  have KL := fun w hr => refLines_any (n : Int) v ls w hr
  rw [chk_good hg] at KL
  have KTy := fun w hr hT => treeT_yes n v ls w hr hg hT
  have KTn := fun w hr hT => treeT_not n v ls w hr hg hT
  have KR := fun w hr => ring_ok n v ls w hr hg
  have KB := fun w hr => bridges_ok n v ls w hr hg
  have KS := fun u w hr => spanLeast_ok n u ls w hr hg
  have KW := fun w hr hT h2 => prufer_ok n v ls w hr hg hT h2
  have HG := Lib.hid hg
  have hn1 := hg.1
  have hn8 := hg.2.1
  have hl24 := hg.2.2.1
  have hnn : ((n : Int) != (n : Int)) = false := by simp
  obtain ⟨av, cv, rfl⟩ : ∃ a c, v = .slice a ls.length c := by obtain ⟨a, c, h, _⟩ := id hr; exact ⟨a, c, h⟩
  clear hg
  go_enter Try.func8, Try.ntmps8
  go_wp2_with fail
  refine (KP _ hr).mono ?_
  rintro e w1 ⟨p, ap, cp, rfl, hp, rp, hB1⟩
  go_wp2_with fail
  refine (parts_lit _ _ (lines_lit [(1, 0)] rfl rfl rfl (by decide))).mono ?_
  rintro e w2 ⟨a2, c2, rfl, r2, hB2⟩
  have hB02 := below_c hB1 (below_c (below_alloc' _ _) hB2)
  have hB12 := below_c (below_alloc' w1 (.cells #[.int .i64 1, .int .i64 0] 33)) hB2
  go_wp2_with fail
  refine (ints_b _ _ [0, 0] [0, 0] _ (r2.later (below_alloc' _ _)) (ints_lit [0, 0] rfl rfl rfl (by decide))).mono ?_
  rintro e w3 ⟨rfl, hB3⟩
  rw [decide_eq_true rfl]
  have hB23 := below_c (below_alloc' w2 (.cells #[.int .i64 0, .int .i64 0] 3)) hB3
  have hB03 := below_c hB02 hB23
  have rp3 := rp.later (below_c hB12 hB23)
  have hpsum := parts_sum HG.out hp
  have KSum := fun w (hb : Below w3.heap.size w3 w) => sum_ok _ n p w (rp3.later hb) hp.len (by omega) (parts_in hn8 hp)
  clear KP rp r2 hB02 hB12 hB23 hp hB1 hB2 hB3
  go_wp2_with fail
  refine (KL _ (hr.later hB03)).mono ?_
  rintro e w4 ⟨rfl, hB4⟩
  have hB04 := below_c hB03 hB4
  go_wp2_with fail
  refine (KSum _ hB4).mono ?_
  rintro e w' ⟨rfl, rfl⟩
  have hsum : p.sum = 0 := hpsum.2 hC
  rw [hsum]
  clear hpsum hsum
  have HT := Lib.hid hT
  have HC := Lib.hid hC
  have KT := fun w hr => KTn w hr hT
  clear hT hC
  go_wp2_with fail
  refine (KT _ (hr.later hB04)).mono ?_
  rintro e w5 ⟨rfl, hB5⟩
  have hB05 := below_c hB04 hB5
  go_wp2_with fail
  refine (KR _ (hr.later hB05)).mono ?_
  rintro e w6 ⟨kr, rfl, hbest, hB6⟩
  have hB06 := below_c hB05 hB6
  have HRING := Lib.hid (br_ring HG.out hbest)
  go_wp2_with fail
  refine (KB _ (hr.later hB06)).mono ?_
  rintro e w7 ⟨ab, cb, rfl, _, hB7⟩
  have hB07 := below_c hB06 hB7
  have HCNT := Lib.hid (br_count HG.out)
  generalize (bridgesL n ls).length = nb at *
  clear hbest KR KB KL KSum hB4 hB5 hB6 hB7 hB03 hB04 hB05 hB06
  go_wp2_with fail
  go_loopw [15, 16, 17] (fun tt oo ii wr => ∃ k : Nat, k ≤ ls.length ∧ ii = .int .i64 k ∧ tt = .bool (twU ls k) ∧ wr.ownsRow w7.heap.size 52 3 oo k (cellsC (ls.take k)) ∧ Below w7.heap.size w7 wr) (fun _ _ ii _ => ls.length - (intOf ii).toNat)
  case atStart => exact ⟨0, by omega, rfl, by simp [twU], by simpa [cellsC] using World.ownsRow_nil _ w7.heap.size 52 3, Below.refl _ _⟩
  case round =>
    obtain ⟨k, hk, rfl, rfl, ho, hB⟩ := hrel
    obtain ⟨ao, co, rfl⟩ := owns_slice ho
    have hsB := hB.size
    by_cases hlt : k < ls.length
    · have hki : (k : Int) < (ls.length : Int) := by omega
      obtain ⟨_, _, e, _, _, _, hcell⟩ := id hr
      cases e
      obtain ⟨bv, ov, rfl, hbv, hcx⟩ := hcell (by omega)
      obtain ⟨g1, g2⟩ := lines_at hcx hlt
      have hBk := below_c hB07 hB
      have g1 := (hBk.cell (p := ⟨bv, ov + k * 2, none⟩) hbv).trans g1
      have g2 := (hBk.cell (p := ⟨bv, ov + k * 2 + 1, none⟩) hbv).trans g2
      have hbv4 : bv < w7.heap.size := Nat.lt_of_lt_of_le hbv hB07.size
      have HTW := Lib.hid (twU_succ ls k hlt)
      have HTK : Hid (ls.take (k + 1) = ls.take k ++ [(ls[k].1, ls[k].2)]) := by show _ = _; rw [List.take_succ_eq_append_getElem hlt]
      have KBt := fun q => between_ok (.slice (some ⟨bv, ov, none⟩) ls.length cv) ls ls[k].1 ls[k].2 (wr.drewN q) (hr.later (hBk.trans ((below_drewN' wr q).mono hBk.size))) (by omega)
      clear hcx hcell KTy KTn KS KW
      generalize hx : ls[k].1 = x at *
      generalize hy : ls[k].2 = y at *
      generalize betw ls x y = z at *
      clear hx hy
      cases htw : twU ls k with
      | true =>
        rw [htw] at HTW
        have HS2 : Hid (twU ls (k + 1) = true) := by show _ = _; rw [HTW.out]; rfl
        clear htw HTW KBt
        go_wp2_with fail
        go_quiet (fail)
        have hoq := owns_later ho (below_drewN' wr nq)
        have hBq := hB.trans ((below_drewN' wr nq).mono hB.size)
        have e1 : (wr.drewN nq).cell? ⟨bv, ov + k * 2, none⟩ = some (.int .i64 x) := g1
        have e2 : (wr.drewN nq).cell? ⟨bv, ov + k * 2 + 1, none⟩ = some (.int .i64 y) := g2
        have hbq : bv < (wr.drewN nq).heap.size := Nat.lt_of_lt_of_le hbv4 hBq.size
        have hsq := hBq.size
        generalize wr.drewN nq = wq at *
        go_wp2_with fail
        go_region_held3 (fun w' => w'.cell? ⟨bv, ov + k * 2, none⟩ = some (.int .i64 x) ∧ w'.cell? ⟨bv, ov + k * 2 + 1, none⟩ = some (.int .i64 y)) (first | go_keep | exact ⟨(hst4.cell (p := ⟨bv, ov + k * 2, none⟩) hbv4).trans (((below_alloc' wq.drew _).cell (p := ⟨bv, ov + k * 2, none⟩) hbq).trans e1), (hst4.cell (p := ⟨bv, ov + k * 2 + 1, none⟩) hbv4).trans (((below_alloc' wq.drew _).cell (p := ⟨bv, ov + k * 2 + 1, none⟩) hbq).trans e2)⟩)
          (first | (refine step_app _ _ _ ((AppTo.refl hoq).drew.alloc _) wq.heap.size _ (World.alloc_heap_new _ _) rfl rfl Try.underlying49 hi hz0 hz1 hz2 rfl (by decide) rfl rfl rfl (by simp [Value.oneCell']) (by decide) (by omega) (by omega) ?_; intro v4 w9 hA4' hne4 hst4))
        all_goals
          go_wp2
          go_roundw
          case rel =>
            refine ⟨k + 1, by omega, by go_num, ret_tw HS2.out, ?_, (hBq.trans ((below_alloc' wq _).drew.mono hBq.size)).trans hst4⟩
            rw [HTK.out, cellsC_append]
            simpa [cellsC] using hA4'.own
          case measure => simp [intOf]; omega
      | false =>
        rw [htw] at HTW
        cases hz : (z != 1) with
        | true =>
          have HS2 : Hid (twU ls (k + 1) = true) := by show _ = _; rw [HTW.out, hz]; rfl
          have hzi : ((z : Int) != 1) = true := by rw [bne_iff_ne] at hz ⊢; omega
          clear htw HTW hz
          go_wp2_with fail
          go_quiet ((go_at_call 27; refine (KBt _).mono ?_; rintro e w' ⟨rfl, rfl⟩; exact ⟨rfl, _, rfl⟩))
          have hoq := owns_later ho (below_drewN' wr nq)
          have hBq := hB.trans ((below_drewN' wr nq).mono hB.size)
          have e1 : (wr.drewN nq).cell? ⟨bv, ov + k * 2, none⟩ = some (.int .i64 x) := g1
          have e2 : (wr.drewN nq).cell? ⟨bv, ov + k * 2 + 1, none⟩ = some (.int .i64 y) := g2
          have hbq : bv < (wr.drewN nq).heap.size := Nat.lt_of_lt_of_le hbv4 hBq.size
          have hsq := hBq.size
          generalize wr.drewN nq = wq at *
          go_wp2_with fail
          go_region_held3 (fun w' => w'.cell? ⟨bv, ov + k * 2, none⟩ = some (.int .i64 x) ∧ w'.cell? ⟨bv, ov + k * 2 + 1, none⟩ = some (.int .i64 y)) (first | go_keep | exact ⟨(hst4.cell (p := ⟨bv, ov + k * 2, none⟩) hbv4).trans (((below_alloc' wq.drew _).cell (p := ⟨bv, ov + k * 2, none⟩) hbq).trans e1), (hst4.cell (p := ⟨bv, ov + k * 2 + 1, none⟩) hbv4).trans (((below_alloc' wq.drew _).cell (p := ⟨bv, ov + k * 2 + 1, none⟩) hbq).trans e2)⟩)
            (first | (refine step_app _ _ _ ((AppTo.refl hoq).drew.alloc _) wq.heap.size _ (World.alloc_heap_new _ _) rfl rfl Try.underlying49 hi hz0 hz1 hz2 rfl (by decide) rfl rfl rfl (by simp [Value.oneCell']) (by decide) (by omega) (by omega) ?_; intro v4 w9 hA4' hne4 hst4))
          all_goals
            go_wp2
            go_roundw
            case rel =>
              refine ⟨k + 1, by omega, by go_num, ret_tw HS2.out, ?_, (hBq.trans ((below_alloc' wq _).drew.mono hBq.size)).trans hst4⟩
              rw [HTK.out, cellsC_append]
              simpa [cellsC] using hA4'.own
            case measure => simp [intOf]; omega
        | false =>
          have HS2 : Hid (twU ls (k + 1) = false) := by show _ = _; rw [HTW.out, hz]; rfl
          have hzi : ((z : Int) != 1) = false := by rw [bne_eq_false_iff_eq] at hz ⊢; omega
          clear htw HTW hz
          go_wp2_with fail
          go_quiet ((go_at_call 27; refine (KBt _).mono ?_; rintro e w' ⟨rfl, rfl⟩; exact ⟨rfl, _, rfl⟩))
          have hoq := owns_later ho (below_drewN' wr nq)
          have hBq := hB.trans ((below_drewN' wr nq).mono hB.size)
          have e1 : (wr.drewN nq).cell? ⟨bv, ov + k * 2, none⟩ = some (.int .i64 x) := g1
          have e2 : (wr.drewN nq).cell? ⟨bv, ov + k * 2 + 1, none⟩ = some (.int .i64 y) := g2
          have hbq : bv < (wr.drewN nq).heap.size := Nat.lt_of_lt_of_le hbv4 hBq.size
          have hsq := hBq.size
          generalize wr.drewN nq = wq at *
          go_wp2_with fail
          go_region_held3 (fun w' => w'.cell? ⟨bv, ov + k * 2, none⟩ = some (.int .i64 x) ∧ w'.cell? ⟨bv, ov + k * 2 + 1, none⟩ = some (.int .i64 y)) (first | go_keep | exact ⟨(hst4.cell (p := ⟨bv, ov + k * 2, none⟩) hbv4).trans (((below_alloc' wq.drew _).cell (p := ⟨bv, ov + k * 2, none⟩) hbq).trans e1), (hst4.cell (p := ⟨bv, ov + k * 2 + 1, none⟩) hbv4).trans (((below_alloc' wq.drew _).cell (p := ⟨bv, ov + k * 2 + 1, none⟩) hbq).trans e2)⟩)
            (first | (refine step_app _ _ _ ((AppTo.refl hoq).drew.alloc _) wq.heap.size _ (World.alloc_heap_new _ _) rfl rfl Try.underlying49 hi hz0 hz1 hz2 rfl (by decide) rfl rfl rfl (by simp [Value.oneCell']) (by decide) (by omega) (by omega) ?_; intro v4 w9 hA4' hne4 hst4))
          all_goals
            go_wp2
            go_roundw
            case rel =>
              refine ⟨k + 1, by omega, by go_num, ret_tw HS2.out, ?_, (hBq.trans ((below_alloc' wq _).drew.mono hBq.size)).trans hst4⟩
              rw [HTK.out, cellsC_append]
              simpa [cellsC] using hA4'.own
            case measure => simp [intOf]; omega
    · obtain rfl : k = ls.length := by omega
      rw [List.take_length] at ho
      have hB0r := below_c hB07 hB
      have hcr : CostRd wr (.slice ao ls.length co) ls := rd_of_owns ho
      have wn1 : IntKind.i64.wrap ((n : Int) - 1) = (n : Int) - 1 := IntWalk.i64_in _ (by omega)
      have hlen : ((ls.length : Int) == (n : Int) - 1) = false := by
        rw [beq_eq_false_iff_ne]
        exact fun e => HT.out ⟨by omega, HC.out⟩
      have hnbl : ((nb : Int) == (ls.length : Int)) = false := by
        rw [beq_eq_false_iff_ne]
        exact fun e => HT.out (br_conn HG.out (HCNT.out.2 (by omega)) HC.out)
      clear HRING HCNT KTy KTn KT KW
      go_wp2_with fail
      refine (KS _ _ hcr).mono ?_
      rintro e w8 ⟨h | h, hB8⟩
      · obtain ⟨_, au, cu, us, s, rfl, _⟩ := h
        have hB08 := below_c hB0r hB8
        clear KS
        by_cases hk0 : kr = 0
        · subst hk0
          cases htw : twU ls ls.length with
          | true =>
            go_wp2
            go_ret
            exact ⟨rfl, hB08⟩
          | false =>
            go_wp2
            go_ret
            exact ⟨rfl, hB08⟩
        · have hkz : (kr == 0) = false := by simpa using hk0
          clear hk0
          go_wp2
          go_ret
          exact ⟨rfl, hB08⟩
      · exact absurd HC.out h.1

set_option maxRecDepth 100000 in
set_option maxHeartbeats 8000000 in
theorem topTrees_apart (n : Nat) {v : Value} {ls : List Ln} {w : World} (hr : LinesRd w v ls) (hg : GoodG n ls) (hT : ¬ IsTreeG n ls) (hC : ¬ ∀ x, x < n → Conn (beside n ls) 0 x) :
    Calls Try.prog 8 #[.int .i64 (n : Int), v] w fun e w' => e = .returned (.bool true) ∧ Below w.heap.size w w' := by
  obtain ⟨i0, hi, hz0, hz1, hz2⟩ := info_parts info_cost
  have KP := fun w hr => parts_ok n v ls w hr hg
  have KL := fun w hr => refLines_any (n : Int) v ls w hr
  rw [chk_good hg] at KL
  have KTy := fun w hr hT => treeT_yes n v ls w hr hg hT
  have KTn := fun w hr hT => treeT_not n v ls w hr hg hT
  have KR := fun w hr => ring_ok n v ls w hr hg
  have KB := fun w hr => bridges_ok n v ls w hr hg
  have KS := fun u w hr => spanLeast_ok n u ls w hr hg
  have KW := fun w hr hT h2 => prufer_ok n v ls w hr hg hT h2
  have HG := Lib.hid hg
  have hn1 := hg.1
  have hn8 := hg.2.1
  have hl24 := hg.2.2.1
  have hnn : ((n : Int) != (n : Int)) = false := by simp
  obtain ⟨av, cv, rfl⟩ : ∃ a c, v = .slice a ls.length c := by obtain ⟨a, c, h, _⟩ := id hr; exact ⟨a, c, h⟩
  clear hg
  go_enter Try.func8, Try.ntmps8
  go_wp2_with fail
  refine (KP _ hr).mono ?_
  rintro e w1 ⟨p, ap, cp, rfl, hp, rp, hB1⟩
  go_wp2_with fail
  refine (parts_lit _ _ (lines_lit [(1, 0)] rfl rfl rfl (by decide))).mono ?_
  rintro e w2 ⟨a2, c2, rfl, r2, hB2⟩
  have hB02 := below_c hB1 (below_c (below_alloc' _ _) hB2)
  have hB12 := below_c (below_alloc' w1 (.cells #[.int .i64 1, .int .i64 0] 33)) hB2
  go_wp2_with fail
  refine (ints_b _ _ [0, 0] [0, 0] _ (r2.later (below_alloc' _ _)) (ints_lit [0, 0] rfl rfl rfl (by decide))).mono ?_
  rintro e w3 ⟨rfl, hB3⟩
  rw [decide_eq_true rfl]
  have hB23 := below_c (below_alloc' w2 (.cells #[.int .i64 0, .int .i64 0] 3)) hB3
  have hB03 := below_c hB02 hB23
  have rp3 := rp.later (below_c hB12 hB23)
  have hpsum := parts_sum HG.out hp
  have KSum := fun w (hb : Below w3.heap.size w3 w) => sum_ok _ n p w (rp3.later hb) hp.len (by omega) (parts_in hn8 hp)
  clear KP rp r2 hB02 hB12 hB23 hp hB1 hB2 hB3
  go_wp2_with fail
  refine (KL _ (hr.later hB03)).mono ?_
  rintro e w4 ⟨rfl, hB4⟩
  have hB04 := below_c hB03 hB4
  go_wp2_with fail
  refine (KSum _ hB4).mono ?_
  rintro e w' ⟨rfl, rfl⟩
  have hsum : (p.sum == 0) = false := by rw [beq_eq_false_iff_ne]; exact fun e => hC (hpsum.1 e)
  clear hpsum
  generalize p.sum = ps at *
  have HT := Lib.hid hT
  have HC := Lib.hid hC
  have KT := fun w hr => KTn w hr hT
  clear hT hC
  go_wp2_with fail
  refine (KT _ (hr.later hB04)).mono ?_
  rintro e w5 ⟨rfl, hB5⟩
  have hB05 := below_c hB04 hB5
  go_wp2_with fail
  refine (KR _ (hr.later hB05)).mono ?_
  rintro e w6 ⟨kr, rfl, hbest, hB6⟩
  have hB06 := below_c hB05 hB6
  have HRING := Lib.hid (br_ring HG.out hbest)
  go_wp2_with fail
  refine (KB _ (hr.later hB06)).mono ?_
  rintro e w7 ⟨ab, cb, rfl, _, hB7⟩
  have hB07 := below_c hB06 hB7
  have HCNT := Lib.hid (br_count HG.out)
  generalize (bridgesL n ls).length = nb at *
  clear hbest KR KB KL KSum hB4 hB5 hB6 hB7 hB03 hB04 hB05 hB06
  go_wp2_with fail
  go_loopw [15, 16, 17] (fun tt oo ii wr => ∃ k : Nat, k ≤ ls.length ∧ ii = .int .i64 k ∧ tt = .bool (twU ls k) ∧ wr.ownsRow w7.heap.size 52 3 oo k (cellsC (ls.take k)) ∧ Below w7.heap.size w7 wr) (fun _ _ ii _ => ls.length - (intOf ii).toNat)
  case atStart => exact ⟨0, by omega, rfl, by simp [twU], by simpa [cellsC] using World.ownsRow_nil _ w7.heap.size 52 3, Below.refl _ _⟩
  case round =>
    obtain ⟨k, hk, rfl, rfl, ho, hB⟩ := hrel
    obtain ⟨ao, co, rfl⟩ := owns_slice ho
    have hsB := hB.size
    by_cases hlt : k < ls.length
    · have hki : (k : Int) < (ls.length : Int) := by omega
      obtain ⟨_, _, e, _, _, _, hcell⟩ := id hr
      cases e
      obtain ⟨bv, ov, rfl, hbv, hcx⟩ := hcell (by omega)
      obtain ⟨g1, g2⟩ := lines_at hcx hlt
      have hBk := below_c hB07 hB
      have g1 := (hBk.cell (p := ⟨bv, ov + k * 2, none⟩) hbv).trans g1
      have g2 := (hBk.cell (p := ⟨bv, ov + k * 2 + 1, none⟩) hbv).trans g2
      have hbv4 : bv < w7.heap.size := Nat.lt_of_lt_of_le hbv hB07.size
      have HTW := Lib.hid (twU_succ ls k hlt)
      have HTK : Hid (ls.take (k + 1) = ls.take k ++ [(ls[k].1, ls[k].2)]) := by show _ = _; rw [List.take_succ_eq_append_getElem hlt]
      have KBt := fun q => between_ok (.slice (some ⟨bv, ov, none⟩) ls.length cv) ls ls[k].1 ls[k].2 (wr.drewN q) (hr.later (hBk.trans ((below_drewN' wr q).mono hBk.size))) (by omega)
      clear hcx hcell KTy KTn KS KW
      generalize hx : ls[k].1 = x at *
      generalize hy : ls[k].2 = y at *
      generalize betw ls x y = z at *
      clear hx hy
      cases htw : twU ls k with
      | true =>
        rw [htw] at HTW
        have HS2 : Hid (twU ls (k + 1) = true) := by show _ = _; rw [HTW.out]; rfl
        clear htw HTW KBt
        go_wp2_with fail
        go_quiet (fail)
        have hoq := owns_later ho (below_drewN' wr nq)
        have hBq := hB.trans ((below_drewN' wr nq).mono hB.size)
        have e1 : (wr.drewN nq).cell? ⟨bv, ov + k * 2, none⟩ = some (.int .i64 x) := g1
        have e2 : (wr.drewN nq).cell? ⟨bv, ov + k * 2 + 1, none⟩ = some (.int .i64 y) := g2
        have hbq : bv < (wr.drewN nq).heap.size := Nat.lt_of_lt_of_le hbv4 hBq.size
        have hsq := hBq.size
        generalize wr.drewN nq = wq at *
        go_wp2_with fail
        go_region_held3 (fun w' => w'.cell? ⟨bv, ov + k * 2, none⟩ = some (.int .i64 x) ∧ w'.cell? ⟨bv, ov + k * 2 + 1, none⟩ = some (.int .i64 y)) (first | go_keep | exact ⟨(hst4.cell (p := ⟨bv, ov + k * 2, none⟩) hbv4).trans (((below_alloc' wq.drew _).cell (p := ⟨bv, ov + k * 2, none⟩) hbq).trans e1), (hst4.cell (p := ⟨bv, ov + k * 2 + 1, none⟩) hbv4).trans (((below_alloc' wq.drew _).cell (p := ⟨bv, ov + k * 2 + 1, none⟩) hbq).trans e2)⟩)
          (first | (refine step_app _ _ _ ((AppTo.refl hoq).drew.alloc _) wq.heap.size _ (World.alloc_heap_new _ _) rfl rfl Try.underlying49 hi hz0 hz1 hz2 rfl (by decide) rfl rfl rfl (by simp [Value.oneCell']) (by decide) (by omega) (by omega) ?_; intro v4 w9 hA4' hne4 hst4))
        all_goals
          go_wp2
          go_roundw
          case rel =>
            refine ⟨k + 1, by omega, by go_num, ret_tw HS2.out, ?_, (hBq.trans ((below_alloc' wq _).drew.mono hBq.size)).trans hst4⟩
            rw [HTK.out, cellsC_append]
            simpa [cellsC] using hA4'.own
          case measure => simp [intOf]; omega
      | false =>
        rw [htw] at HTW
        cases hz : (z != 1) with
        | true =>
          have HS2 : Hid (twU ls (k + 1) = true) := by show _ = _; rw [HTW.out, hz]; rfl
          have hzi : ((z : Int) != 1) = true := by rw [bne_iff_ne] at hz ⊢; omega
          clear htw HTW hz
          go_wp2_with fail
          go_quiet ((go_at_call 27; refine (KBt _).mono ?_; rintro e w' ⟨rfl, rfl⟩; exact ⟨rfl, _, rfl⟩))
          have hoq := owns_later ho (below_drewN' wr nq)
          have hBq := hB.trans ((below_drewN' wr nq).mono hB.size)
          have e1 : (wr.drewN nq).cell? ⟨bv, ov + k * 2, none⟩ = some (.int .i64 x) := g1
          have e2 : (wr.drewN nq).cell? ⟨bv, ov + k * 2 + 1, none⟩ = some (.int .i64 y) := g2
          have hbq : bv < (wr.drewN nq).heap.size := Nat.lt_of_lt_of_le hbv4 hBq.size
          have hsq := hBq.size
          generalize wr.drewN nq = wq at *
          go_wp2_with fail
          go_region_held3 (fun w' => w'.cell? ⟨bv, ov + k * 2, none⟩ = some (.int .i64 x) ∧ w'.cell? ⟨bv, ov + k * 2 + 1, none⟩ = some (.int .i64 y)) (first | go_keep | exact ⟨(hst4.cell (p := ⟨bv, ov + k * 2, none⟩) hbv4).trans (((below_alloc' wq.drew _).cell (p := ⟨bv, ov + k * 2, none⟩) hbq).trans e1), (hst4.cell (p := ⟨bv, ov + k * 2 + 1, none⟩) hbv4).trans (((below_alloc' wq.drew _).cell (p := ⟨bv, ov + k * 2 + 1, none⟩) hbq).trans e2)⟩)
            (first | (refine step_app _ _ _ ((AppTo.refl hoq).drew.alloc _) wq.heap.size _ (World.alloc_heap_new _ _) rfl rfl Try.underlying49 hi hz0 hz1 hz2 rfl (by decide) rfl rfl rfl (by simp [Value.oneCell']) (by decide) (by omega) (by omega) ?_; intro v4 w9 hA4' hne4 hst4))
          all_goals
            go_wp2
            go_roundw
            case rel =>
              refine ⟨k + 1, by omega, by go_num, ret_tw HS2.out, ?_, (hBq.trans ((below_alloc' wq _).drew.mono hBq.size)).trans hst4⟩
              rw [HTK.out, cellsC_append]
              simpa [cellsC] using hA4'.own
            case measure => simp [intOf]; omega
        | false =>
          have HS2 : Hid (twU ls (k + 1) = false) := by show _ = _; rw [HTW.out, hz]; rfl
          have hzi : ((z : Int) != 1) = false := by rw [bne_eq_false_iff_eq] at hz ⊢; omega
          clear htw HTW hz
          go_wp2_with fail
          go_quiet ((go_at_call 27; refine (KBt _).mono ?_; rintro e w' ⟨rfl, rfl⟩; exact ⟨rfl, _, rfl⟩))
          have hoq := owns_later ho (below_drewN' wr nq)
          have hBq := hB.trans ((below_drewN' wr nq).mono hB.size)
          have e1 : (wr.drewN nq).cell? ⟨bv, ov + k * 2, none⟩ = some (.int .i64 x) := g1
          have e2 : (wr.drewN nq).cell? ⟨bv, ov + k * 2 + 1, none⟩ = some (.int .i64 y) := g2
          have hbq : bv < (wr.drewN nq).heap.size := Nat.lt_of_lt_of_le hbv4 hBq.size
          have hsq := hBq.size
          generalize wr.drewN nq = wq at *
          go_wp2_with fail
          go_region_held3 (fun w' => w'.cell? ⟨bv, ov + k * 2, none⟩ = some (.int .i64 x) ∧ w'.cell? ⟨bv, ov + k * 2 + 1, none⟩ = some (.int .i64 y)) (first | go_keep | exact ⟨(hst4.cell (p := ⟨bv, ov + k * 2, none⟩) hbv4).trans (((below_alloc' wq.drew _).cell (p := ⟨bv, ov + k * 2, none⟩) hbq).trans e1), (hst4.cell (p := ⟨bv, ov + k * 2 + 1, none⟩) hbv4).trans (((below_alloc' wq.drew _).cell (p := ⟨bv, ov + k * 2 + 1, none⟩) hbq).trans e2)⟩)
            (first | (refine step_app _ _ _ ((AppTo.refl hoq).drew.alloc _) wq.heap.size _ (World.alloc_heap_new _ _) rfl rfl Try.underlying49 hi hz0 hz1 hz2 rfl (by decide) rfl rfl rfl (by simp [Value.oneCell']) (by decide) (by omega) (by omega) ?_; intro v4 w9 hA4' hne4 hst4))
          all_goals
            go_wp2
            go_roundw
            case rel =>
              refine ⟨k + 1, by omega, by go_num, ret_tw HS2.out, ?_, (hBq.trans ((below_alloc' wq _).drew.mono hBq.size)).trans hst4⟩
              rw [HTK.out, cellsC_append]
              simpa [cellsC] using hA4'.own
            case measure => simp [intOf]; omega
    · obtain rfl : k = ls.length := by omega
      rw [List.take_length] at ho
      have hB0r := below_c hB07 hB
      have hcr : CostRd wr (.slice ao ls.length co) ls := rd_of_owns ho
      have wn1 : IntKind.i64.wrap ((n : Int) - 1) = (n : Int) - 1 := IntWalk.i64_in _ (by omega)
      have HLN : Hid (kr = 0 → twU ls ls.length = false → ((ls.length : Int) == (n : Int) - 1) = false) := fun h1 h2 => by
        rw [beq_eq_false_iff_ne]
        exact fun e => HT.out (br_tree HG.out (HRING.out.2 ⟨h1, (twU_all ls).1 h2⟩) (by omega))
      clear HRING HCNT KTy KTn KT KW
      go_wp2_with fail
      refine (KS _ _ hcr).mono ?_
      rintro e w8 ⟨h | h, hB8⟩
      · exact absurd h.1 HC.out
      · obtain ⟨_, rfl⟩ := h
        have hB08 := below_c hB0r hB8
        clear KS
        by_cases hk0 : kr = 0
        · cases htw : twU ls ls.length with
          | true =>
            subst hk0
            go_wp2
            go_ret
            exact ⟨rfl, hB08⟩
          | false =>
            have hlen := HLN.out hk0 htw
            subst hk0
            go_wp2
            go_ret
            exact ⟨rfl, hB08⟩
        · have hkz : (kr == 0) = false := by simpa using hk0
          clear hk0
          go_wp2
          go_ret
          exact ⟨rfl, hB08⟩

theorem topTrees_any (n : Int) {v : Value} {ls : List Ln} {w : World} (hr : LinesRd w v ls) :
    Calls Try.prog 8 #[.int .i64 n, v] w fun e w' => e = .returned (.bool true) ∧ Below w.heap.size w w' := by
  by_cases hc : chk n ls = 0
  · obtain ⟨m, rfl, hg⟩ := good_of hc
    by_cases hT : IsTreeG m ls
    · exact topTrees_tree m hr hg hT
    · by_cases hC : ∀ x, x < m → Conn (beside m ls) 0 x
      · exact topTrees_conn m hr hg hT hC
      · exact topTrees_apart m hr hg hT hC
  · exact topTrees_bad n hr hc
end Go.Proofs.Ytjeafgnaoncphaa
