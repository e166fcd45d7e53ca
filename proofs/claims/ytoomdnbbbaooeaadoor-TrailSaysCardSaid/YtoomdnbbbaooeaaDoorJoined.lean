/- What trail.joined returns: the walks. Conditions: in each statement. -/
import Derived.Test.YtoomdnbbbaooeaaDoorReach
import Derived.Test.YtoomdnbbbaooeaaDoorBack
import Derived.Test.YtoomdnbbbaooeaaDoorCoreOut
import Derived.Test.YtoomdnbbbaooeaaDoorAdj
import Derived.Test.YtoomdnbbbaooeaaDoorDeepP
import Derived.Test.YtoomdnbbbaooeaaDoorAppB
namespace Go.Proofs.YtoomdnbbbaooeaaDoor
open Go.RowKit Gr

set_option maxRecDepth 100000 in
theorem joined1_any (s x : Nat) (y : Int) (BS : Nat) (w : World) (hs : s < 256) (hx : x < 64) (c : w.cell? ⟨BS, 0, none⟩ = some (.int .u64 (s : Int))) (hb : BS < w.heap.size) :
    Calls Tryd.prog 33 #[.agg #[.int .i64 (x : Int), .int .i64 y], .pointer (some ⟨BS, 0, none⟩)] w fun e w' => e = .returned (.bool (!s.testBit x)) ∧ Below w.heap.size w w' := by
  have hB := below_alloc' w (.cells #[.int .i64 (x : Int), .int .i64 y] 38)
  have c' := (hB.cell (p := ⟨BS, 0, none⟩) hb).trans c
  clear c
  go_enter Tryd.func33, Tryd.ntmps33
  go_wp2_with fail
  refine (has_any s x _ (by omega) hx).mono ?_
  rintro e w' ⟨rfl, rfl⟩
  go_wp2
  go_ret
  exact ⟨rfl, hB⟩

/-- the first line that ends outside of s -/
def OutAt (s : Nat) (ls : List Ln) (k : Int) : Prop := (∃ i : Nat, ∃ h : i < ls.length, k = i ∧ s.testBit ls[i].1.toNat = false) ∨ (k = -1 ∧ ∀ l ∈ ls, s.testBit l.1.toNat = true)

set_option maxRecDepth 100000 in
set_option maxHeartbeats 2000000 in
theorem joinedIndex_any (s BS : Nat) (v : Value) (ls : List Ln) (W : World) (hs : s < 256) (hv : LinesRd W v ls) (hl : ∀ l ∈ ls, 0 ≤ l.1 ∧ l.1 < 8) (hln : ls.length ≤ 24) (c : W.cell? ⟨BS, 0, none⟩ = some (.int .u64 (s : Int))) (hb : BS < W.heap.size) :
    Calls Tryd.prog 46 #[v, .func (.func 33) #[] #[.pointer (some ⟨BS, 0, none⟩)]] W
      fun e W' => ∃ k : Int, e = .returned (.int .i64 k) ∧ OutAt s ls k ∧ Below W.heap.size W W' := by
  obtain ⟨av, cv, rfl, _⟩ := id hv
  go_enter Tryd.func46, Tryd.ntmps46
  go_wp2
  go_loopw [8] (fun i wr => ∃ k : Nat, k ≤ ls.length ∧ i = .int .i64 k ∧ Hid (∀ i : Nat, (h : i < ls.length) → i < k → s.testBit ls[i].1.toNat = true) ∧ Below W.heap.size W wr) (fun i _ => ls.length - (intOf i).toNat)
  case atStart => exact ⟨0, by omega, rfl, fun i _ h => by omega, Below.refl _ _⟩
  case round =>
    obtain ⟨k, hk, rfl, HA, hB⟩ := hrel
    by_cases hlt : k < ls.length
    · have hki : (k : Int) < (ls.length : Int) := by omega
      obtain ⟨_, _, e, _, _, _, hcx⟩ := hv.later hB
      cases e
      obtain ⟨b, off, rfl, hbk, hc⟩ := hcx (by omega)
      obtain ⟨g1, g2⟩ := lines_at hc hlt
      have hx8 := hl _ (List.getElem_mem hlt)
      have hbs := hB.size
      have HX : Hid (∀ y, y = s.testBit ls[k].1.toNat → (y = false → OutAt s ls (k : Int)) ∧ (y = true → ∀ i : Nat, (h : i < ls.length) → i < k + 1 → s.testBit ls[i].1.toNat = true)) := fun y e => by
        subst e
        refine ⟨fun h => .inl ⟨k, hlt, rfl, h⟩, fun h i hi hik => ?_⟩
        by_cases e : i = k
        · subst e; exact h
        · exact HA.out i hi (by omega)
      clear hc hcx
      generalize ls[k] = l at *
      obtain ⟨x0, y0⟩ := l
      simp only at g1 g2 hx8 HX
      obtain ⟨x, rfl⟩ := Int.eq_ofNat_of_zero_le hx8.1
      have K := joined1_any s x y0 BS wr hs (by omega) ((hB.cell (p := ⟨BS, 0, none⟩) hb).trans c) (by omega)
      have HX2 := Lib.hid (HX.out (s.testBit x) (by simp))
      generalize s.testBit x = bt at *
      clear c HX
      go_wp2_with fail
      refine K.mono ?_
      rintro e w2 ⟨rfl, hB2⟩
      have hB12 := below_c hB hB2
      cases bt with
      | false =>
        have HT := Lib.hid (HX2.out.1 rfl)
        go_wp2
        go_ret
        exact ⟨_, rfl, HT.out, hB12⟩
      | true =>
        have HT := Lib.hid (HX2.out.2 rfl)
        go_wp2
        go_roundw
        case rel => exact ⟨k + 1, by omega, by go_num, HT, hB12⟩
        case measure => simp [intOf]; omega
    · go_wp2
      go_ret
      refine ⟨_, rfl, .inr ⟨rfl, fun l hlm => ?_⟩, hB⟩
      obtain ⟨i, hi, rfl⟩ := List.mem_iff_getElem.1 hlm
      exact HA.out i hi (by omega)

set_option maxHeartbeats 1000000 in
theorem joinedAny_any (s BS : Nat) (v : Value) (ls : List Ln) (W : World) (hs : s < 256) (hv : LinesRd W v ls) (hl : ∀ l ∈ ls, 0 ≤ l.1 ∧ l.1 < 8) (hln : ls.length ≤ 24) (c : W.cell? ⟨BS, 0, none⟩ = some (.int .u64 (s : Int))) (hb : BS < W.heap.size) :
    Calls Tryd.prog 32 #[v, .func (.func 33) #[] #[.pointer (some ⟨BS, 0, none⟩)]] W
      fun e W' => ∃ b : Bool, e = .returned (.bool b) ∧ (b = false ↔ ∀ l ∈ ls, s.testBit l.1.toNat = true) ∧ Below W.heap.size W W' := by
  have K := joinedIndex_any s BS v ls W hs hv hl hln c hb
  go_enter Tryd.func32, Tryd.ntmps32
  go_wp2_with fail
  refine K.mono ?_
  rintro e w2 ⟨k, rfl, h, hB⟩
  have H := Lib.hid h
  clear h K
  by_cases hk : 0 ≤ k
  · have hd : decide (k ≥ 0) = true := by simp; exact hk
    go_wp2
    go_ret
    refine ⟨true, by first | rfl | simp [hk], ?_, hB⟩
    rcases H.out with ⟨i, hi, _, ha⟩ | ⟨e, _⟩
    · constructor
      · intro h; cases h
      · intro h
        rw [h _ (List.getElem_mem hi)] at ha; cases ha
    · omega
  · have hd : decide (k ≥ 0) = false := by simp; omega
    go_wp2
    go_ret
    refine ⟨false, by first | rfl | (simp; omega), ?_, hB⟩
    rcases H.out with ⟨i, hi, e, _⟩ | ⟨e, ha⟩
    · omega
    · exact ⟨fun _ => ha, fun _ => rfl⟩

/-- the lines that are not used, below k -/
def leftUp (ls : List Ln) (U : List Bool) (k : Nat) : List Ln := ((List.range k).filter fun i => !(U[i]?.getD false)).map fun i => ls[i]?.getD (0, 0)
theorem leftUp_succ (ls : List Ln) (U : List Bool) (k : Nat) (h : k < ls.length) : leftUp ls U (k + 1) = leftUp ls U k ++ (if U[k]?.getD false then [] else [ls[k]]) := by
  unfold leftUp
  rw [List.range_succ, List.filter_append, List.map_append]
  cases hb : U[k]?.getD false <;> simp [hb, h]
theorem leftUp_length (ls : List Ln) (U : List Bool) (k : Nat) : (leftUp ls U k).length ≤ k := by
  unfold leftUp; rw [List.length_map]; refine Nat.le_trans (List.length_filter_le _ _) ?_; simp
theorem leftUp_mem {ls : List Ln} {U : List Bool} {k : Nat} (hk : k ≤ ls.length) {l : Ln} (h : l ∈ leftUp ls U k) : l ∈ ls := by
  unfold leftUp at h
  obtain ⟨i, hi, rfl⟩ := List.mem_map.1 h
  have := List.mem_range.1 (List.mem_filter.1 hi).1
  rw [List.getElem?_eq_getElem (by omega)]
  exact List.getElem_mem _
/-- the lines that are not used -/
def leftL (ls : List Ln) (U : List Bool) : List Ln := leftUp ls U ls.length
theorem leftL_good {n : Nat} {ls : List Ln} (U : List Bool) (h : GoodG n ls) : GoodG n (leftL ls U) :=
  ⟨h.1, h.2.1, Nat.le_trans (leftUp_length ls U _) h.2.2.1, fun l hl => h.2.2.2 l (leftUp_mem (Nat.le_refl _) hl)⟩

/-- all lines hang together with a point -/
def Joined (n : Nat) (ls : List Ln) (a : Nat) : Prop := ∀ l ∈ ls, Conn (beside n ls) a l.1.toNat

theorem reach_conn {O : List Nat} {n f s : Nat} (hO : Bounded n O) (h : IsReach O (2 ^ n - 1) f s) (v : Nat) : s.testBit v = true ↔ Conn O f v := by
  constructor
  · intro hv T h0 hT
    exact h.least T h0 (fun u v hu huv _ => hT u v hu huv) v hv
  · intro hv
    exact hv (fun v => s.testBit v = true) h.src (fun u v hu huv => h.shut u v hu huv ((below_bit n v).2 (hO u v huv).2))

set_option maxRecDepth 100000 in
set_option maxHeartbeats 4000000 in
theorem joined_ok (n : Nat) (v vu : Value) (ls : List Ln) (U : List Bool) (a : Nat) (w : World) (hr : LinesRd w v ls) (hg : GoodG n ls) (hru : Rd w vu ls.length (U.map Value.bool)) (hul : U.length = ls.length) (ha : a < n) :
    Calls Tryd.prog 24 #[.int .i64 (n : Int), v, vu, .int .i64 (a : Int)] w fun e w' => ∃ b : Bool, e = .returned (.bool b) ∧ (b = true ↔ Joined n (leftL ls U) a) ∧ Below w.heap.size w w' := by
  obtain ⟨i0, hi, hz0, hz1, hz2⟩ := info_parts info_line
  have HG := Lib.hid hg
  have HGL := Lib.hid (leftL_good U hg)
  have hn8 := hg.2.1
  have hl24 := hg.2.2.1
  clear hg
  obtain ⟨av, cv, rfl, _⟩ := id hr
  obtain ⟨au, cu, rfl, _⟩ := id hru
  go_enter Tryd.func24, Tryd.ntmps24
  go_wp2_with fail
  go_loopw [9, 15] (fun lo jj wr => ∃ j : Nat, j ≤ ls.length ∧ jj = .int .i64 j ∧ wr.ownsRow w.heap.size 38 2 lo (leftUp ls U j).length (cellsOf (leftUp ls U j)) ∧ Below w.heap.size w wr) (fun _ jj _ => ls.length - (intOf jj).toNat)
  case atStart => exact ⟨0, by omega, rfl, by simpa [leftUp, cellsOf] using World.ownsRow_nil _ w.heap.size 38 2, Below.refl _ _⟩
  case round =>
    obtain ⟨j, hj, rfl, ho, hB⟩ := hrel
    obtain ⟨ao, co, rfl⟩ := owns_slice ho
    have hbs := hB.size
    by_cases hlt : j < ls.length
    · have hji : (j : Int) < (ls.length : Int) := by omega
      obtain ⟨_, _, e, _, _, _, hcell⟩ := hr.later hB
      cases e
      obtain ⟨bv, ov, rfl, hbv, hcx⟩ := hcell (by omega)
      obtain ⟨g1, g2⟩ := lines_at hcx hlt
      obtain ⟨_, _, e, _, _, _, hcell2⟩ := hru.later hB
      cases e
      obtain ⟨bu, ou, rfl, hbu, hcu⟩ := hcell2 (by omega)
      have cu1 := hcu j (.bool (U[j]?.getD false)) (by simp [hul, hlt])
      have HS := Lib.hid (leftUp_succ ls U j hlt)
      have hll := leftUp_length ls U j
      have hC := below_alloc' wr (.cells #[.int .i64 (ls[j]).1, .int .i64 (ls[j]).2] 38)
      have cu2 := (hC.cell (p := ⟨bu, ou + j, none⟩) hbu).trans cu1
      have ho1 := owns_later ho hC
      have hb1 := below_c hB hC
      clear hcx hcell hcu hcell2 cu1
      generalize ls[j] = l at *
      obtain ⟨x, y⟩ := l
      simp only at g1 g2 cu2 ho1 hb1 hC
      generalize leftUp ls U j = Q at *
      cases hub : U[j]?.getD false with
      | true =>
        rw [hub] at cu2
        have HS2 : Hid (leftUp ls U (j + 1) = Q) := by show _ = _; rw [HS.out, hub]; simp
        clear hub
        go_wp2
        go_roundw
        case rel => exact ⟨j + 1, by omega, by go_num, by rw [HS2.out]; exact ho1, hb1⟩
        case measure => simp [intOf]; omega
      | false =>
        rw [hub] at cu2
        have HS2 : Hid (leftUp ls U (j + 1) = Q ++ [(x, y)]) := by show _ = _; rw [HS.out, hub]; simp
        clear hub
        go_wp2_with (at_builtin; go_must (refine wpl_appB _ _ _ (b := wr.heap.size + 1) (by simp) (AppTo.refl ho1) rfl rfl Tryd.underlying22 hi hz0 hz1 hz2 rfl (by decide) rfl rfl rfl (by simp [Value.oneCell']) (by decide) (by omega) hb1.size ?_); intro l7 w7 hA7 hne7 hst7)
        go_roundw
        case rel =>
          refine ⟨j + 1, by omega, by go_num, ?_, hb1.trans hst7⟩
          rw [HS2.out, cellsOf_append, List.length_append, List.length_singleton]
          simpa [cellsOf] using hA7.own
        case measure => simp [intOf]; omega
    · obtain rfl : j = ls.length := by omega
      have ho2 : wr.ownsRow w.heap.size 38 2 (.slice ao (leftL ls U).length co) (leftL ls U).length (cellsOf (leftL ls U)) := ho
      have hrl : LinesRd wr (.slice ao (leftL ls U).length co) (leftL ls U) := rd_of_owns ho2
      have e1 : leftUp ls U ls.length = leftL ls U := rfl
      rw [e1]
      generalize hLe : leftL ls U = L at *
      have HLe := Lib.hid hLe
      clear ho ho2 e1 hLe
      go_wp2_with fail
      refine (coreBeside_any n _ L _ hrl HGL.out).mono ?_
      rintro e w2 ⟨gs, caps, rfl, ho2, hB2, hS⟩
      have hB02 := below_c hB hB2
      have HCN := Lib.hid (fun s h v => reach_conn (s := s) (f := a) (adj_bounded HGL.out) h v)
      have hlen := beside_length n L
      have hab := Lib.hid (adj_bounded HGL.out)
      have HSm := Lib.hid hS
      clear hS
      have HJ : Hid (Joined n L a ↔ ∀ l ∈ L, Conn (beside n L) a l.1.toNat) := Iff.rfl
      generalize beside n L = O at *
      go_wp2_with fail
      refine (below_any n _ (by omega)).mono ?_
      rintro e w' ⟨rfl, rfl⟩
      have hp8 : 2 ^ n ≤ 2 ^ 8 := Nat.pow_le_pow_right (by omega) hn8
      have hp0 := Nat.two_pow_pos n
      have KR := reach_ok n a (2 ^ n - 1) _ O w2 hn8 (rd_of_owns ho2) hlen HSm.out hab.out ha (by omega)
      clear hp8 hp0
      go_wp2_with fail
      refine KR.mono ?_
      rintro e w3 ⟨s, rfl, hs8, hR, hB3⟩
      have hB23 := below_c hB2 hB3
      have hB03 := below_c hB02 hB3
      have HR := Lib.hid hR
      have hrl3 := (hrl.later hB23).later (below_alloc' w3 (.cells #[.int .u64 (s : Int)] 52))
      have hbx := Boxed.new w3 52 (.int .u64 (s : Int))
      have hgl := HGL.out.2.2.2
      have hgl24 := HGL.out.2.2.1
      have KC := joinedAny_any s w3.heap.size _ L _ hs8 hrl3 (fun l hl => by have := hgl l hl; omega) hgl24 hbx.cell hbx.lt
      have hB04 := below_c hB03 (below_alloc' w3 (.cells #[.int .u64 (s : Int)] 52))
      clear hR hgl hbx hrl3 KR
      go_wp2_with fail
      refine KC.mono ?_
      rintro e w4 ⟨b, rfl, hb, hB4⟩
      have HB := Lib.hid hb
      have hB05 := below_c hB04 hB4
      clear hb
      go_wp2
      go_ret
      refine ⟨!b, rfl, ?_, hB05⟩
      rw [HLe.out, HJ.out, Bool.not_eq_true', HB.out]
      exact ⟨fun h l hl => (HCN.out s HR.out _).1 (h l hl), fun h l hl => (HCN.out s HR.out _).2 (h l hl)⟩

end Go.Proofs.YtoomdnbbbaooeaaDoor
