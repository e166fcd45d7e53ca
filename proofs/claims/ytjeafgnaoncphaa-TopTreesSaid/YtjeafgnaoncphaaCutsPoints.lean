/- What cuts.Points returns: the walk. Conditions: in each statement. -/
import Derived.Test.YtjeafgnaoncphaaPointsP
import Derived.Test.YtjeafgnaoncphaaLitA
namespace Go.Proofs.Ytjeafgnaoncphaa
open Go.RowKit Gr

theorem pts_nats (s : Nat) : ptsOf (elems s) = nats ((elems s).map (·.val)) := by simp [ptsOf, nats, List.map_map]

set_option maxRecDepth 100000 in
theorem pointsNil_any (fv : Value) (a : Option Addr) (n : Nat) (W : World) (hfv : ∃ c, fv = .func (.func 43) #[] c) : Calls Try.prog 42 #[.slice a 0 n, fv] W fun e W' => e = .returned (.bool false) ∧ W = W' := by
  obtain ⟨c, rfl⟩ := hfv
  have K : Calls Try.prog 65 #[.slice a 0 n, .func (.func 43) #[] c] W fun e W' => e = .returned (.int .i64 (-1)) ∧ W = W' := by
    go_enter Try.func65, Try.ntmps65
    go_wp2
    go_loop [8] (fun i => i = .int .i64 0) (fun _ => 0)
    case atStart => rfl
    case round =>
      obtain rfl := hrel
      go_wp2
      go_ret
      exact ⟨rfl, rfl⟩
  go_enter Try.func42, Try.ntmps42
  go_wp2_with fail
  refine K.mono ?_
  rintro e w ⟨rfl, rfl⟩
  go_wp2
  go_ret
  exact ⟨rfl, rfl⟩

set_option maxRecDepth 100000 in
set_option maxHeartbeats 2000000 in
theorem points_bad (n : Int) (v : Value) (ls : List Ln) (w : World) (hr : LinesRd w v ls) (hc : chk n ls ≠ 0) :
    Calls Try.prog 11 #[.int .i64 n, v] w fun e w' => e = .returned (.tuple #[.slice none 0 0, errV (chk n ls)]) ∧ Below w.heap.size w w' := by
  have HC := Lib.hid (errOf_pos hc)
  clear hc
  go_enter Try.func11, Try.ntmps11
  go_wp2_with fail
  refine (graphCheck_any n v ls _ hr).mono ?_
  rintro e w1 ⟨rfl, hB⟩
  rw [HC.out]
  go_wp2
  go_ret2
  exact ⟨rfl, hB⟩

open Classical in
/-- the points that hold their part together, below k -/
noncomputable def cutsUp (O : List Nat) (k : Nat) : List Nat := (List.range k).filter fun i => decide (IsCut O i)
open Classical in
theorem cutsUp_succ (O : List Nat) (k : Nat) : cutsUp O (k + 1) = cutsUp O k ++ (if IsCut O k then [k] else []) := by
  unfold cutsUp
  rw [List.range_succ, List.filter_append]
  by_cases h : IsCut O k <;> simp [h]
theorem cutsUp_length (O : List Nat) (k : Nat) : (cutsUp O k).length ≤ k := by
  unfold cutsUp; refine Nat.le_trans (List.length_filter_le _ _) ?_; simp

theorem nats_ints (xs : List Nat) : ints (xs.map fun (i : Nat) => (i : Int)) = nats xs := by simp [ints, nats, List.map_map]

theorem cut_bits (n i : Nat) (hn : n ≤ 8) : Gr.diff (2 ^ n - 1) (2 ^ i) < 256 ∧ ∀ v, (Gr.diff (2 ^ n - 1) (2 ^ i)).testBit v = true ↔ v < n ∧ v ≠ i := by
  have hp : 2 ^ n ≤ 2 ^ 8 := Nat.pow_le_pow_right (by omega) hn
  have h1 : 2 ^ n - 1 < 2 ^ 8 := by have := Nat.two_pow_pos n; omega
  constructor
  · exact diff_small (t := 2 ^ i) h1
  · intro v
    rw [Gr.diff_bit, Nat.testBit_two_pow_sub_one, Nat.testBit_two_pow]
    simp; intro _; exact ⟨fun h e => h e.symm, fun h e => h e.symm⟩

open Classical in
set_option maxRecDepth 100000 in
set_option maxHeartbeats 4000000 in
theorem points_ok (n : Nat) (v : Value) (ls : List Ln) (w : World) (hr : LinesRd w v ls) (hg : GoodG n ls) :
    Calls Try.prog 11 #[.int .i64 (n : Int), v] w (RetInts w ((cutsUp (beside n ls) n).map fun (i : Nat) => (i : Int)) .nilIface) := by
  obtain ⟨i0, hi, hz0, hz1, hz2⟩ := info_parts info_int
  have HG := Lib.hid hg
  have HC : Hid (errOf (chk n ls) = .nilIface) := by show _ = _; rw [chk_good hg]; rfl
  have hn8 : n ≤ 8 := hg.2.1
  have hlen : (beside n ls).length = n := beside_length n ls
  clear hg
  go_enter Try.func11, Try.ntmps11
  go_wp2_with fail
  refine (graphCheck_any n v ls _ hr).mono ?_
  rintro e w1 ⟨rfl, hB1⟩
  rw [HC.out]
  go_wp2_with fail
  refine (coreBeside_any n v ls _ (hr.later hB1) HG.out).mono ?_
  rintro e w2 ⟨gs, caps, rfl, ho2, hB2, hS⟩
  have HS := Lib.hid hS
  have HAB := Lib.hid (adj_bounded HG.out)
  have HSY := Lib.hid (fun i j => adj_symm (i := i) (j := j) HG.out)
  have HIR : Hid (∀ a, ¬ adjS (beside n ls) a a) := fun a h => adj_ne HG.out h rfl
  clear hS
  generalize hOe : beside n ls = O at *
  have HOe := Lib.hid hOe
  clear hOe
  have hgs := ho2.lt gs rfl
  have hws := hB1.size
  have hB12 := below_c hB1 hB2
  have ho3 := owns_later ho2 (below_alloc' w2 (.cells #[.slice (some ⟨gs, 0, none⟩) n caps] 62))
  have hx3 := Boxed.new w2 62 (.slice (some ⟨gs, 0, none⟩) n caps)
  have hB13 := below_c hB12 (below_alloc' w2 (.cells #[.slice (some ⟨gs, 0, none⟩) n caps] 62))
  go_wp2_with fail
  have hsz3 : (w2.alloc (.cells #[.slice (some ⟨gs, 0, none⟩) n caps] 62)).heap.size = w2.heap.size + 1 := by simp
  generalize hW3 : w2.alloc (.cells #[.slice (some ⟨gs, 0, none⟩) n caps] 62) = w3 at *
  have hc3 := hx3.cell
  have hrd3 := rd_of_owns ho3
  clear hW3 ho2 hB12 hB2 hr
  go_loopw [8, 22] (fun o i wr => ∃ k m : Nat, k ≤ n ∧ i = .int .i64 k ∧ wr.ownsRow w3.heap.size 3 1 o (cutsUp O k).length (nats (cutsUp O k)) ∧ Below w3.heap.size w3 wr) (fun _ i _ => n - (intOf i).toNat)
  case atStart => exact ⟨0, 0, by omega, rfl, World.ownsRow_nil _ _ _ _, Below.refl _ _⟩
  case round =>
    obtain ⟨k, m, hk, rfl, hor, hB⟩ := hrel
    obtain ⟨ao, co, rfl⟩ := owns_slice hor
    have hsz := hB.size
    by_cases hlt : k < n
    · have hkn : (k : Int) < (n : Int) := by omega
      obtain ⟨hcb, hct⟩ := cut_bits n k hn8
      have hck := (hB.cell (p := ⟨gs, k, none⟩) (by show gs < _; omega)).trans (owns_at ho3 (setsOf_get (by omega : k < O.length)))
      have hc7 := (hB.cell (p := ⟨w2.heap.size, 0, none⟩) (by show w2.heap.size < _; omega)).trans hc3
      have HCT := Lib.hid hct
      have hp1 : 2 ^ n - 1 < 18446744073709551616 := by have : 2 ^ n ≤ 2 ^ 8 := Nat.pow_le_pow_right (by omega) hn8; omega
      have KW := fun w => without_any (2 ^ n - 1) k w hp1 (by omega)
      clear hct
      generalize hWn : diff (2 ^ n - 1) (2 ^ k) = Wn at *
      clear hWn
      have hs8 := HS.out O[k] (List.getElem_mem _)
      have HOk : Hid (O[k]?.getD 0 = O[k]) := by show _ = _; rw [List.getElem?_eq_getElem (by omega)]; rfl
      generalize hsk : O[k] = sk at *
      clear hsk
      have hb4 : Below wr.heap.size wr (wr.alloc (.cells #[.int .u64 (Wn : Int)] 65)) := below_alloc' _ _
      have hx4 := Boxed.new wr 65 (.int .u64 (Wn : Int))
      have hc74 := (hb4.cell (p := ⟨w2.heap.size, 0, none⟩) (by show w2.heap.size < wr.heap.size; omega)).trans hc7
      have hck4 := (hb4.cell (p := ⟨gs, k, none⟩) (by show gs < wr.heap.size; omega)).trans hck
      go_wp2_with fail
      refine (below_any n _ (by omega)).mono ?_
      rintro e w' ⟨rfl, rfl⟩
      go_wp2_with fail
      refine (KW _).mono ?_
      rintro e w' ⟨rfl, rfl⟩
      go_wp2_with fail
      have hsz4 : (wr.alloc (.cells #[.int .u64 (Wn : Int)] 65)).heap.size = wr.heap.size + 1 := by simp
      generalize hw4 : wr.alloc (.cells #[.int .u64 (Wn : Int)] 65) = w4 at *
      clear hw4
      refine (list_any sk hs8 _).mono ?_
      rintro e w5 ⟨al, cl, rfl, ho5, hB5⟩
      rw [pts_nats] at ho5
      have hadj : Hid ((∀ x, adjS O k x ↔ x ∈ (elems sk).map (·.val)) ∧ (∀ x ∈ (elems sk).map (·.val), x < 8) ∧ (elems sk).length ≤ 8) := by
        refine ⟨?_, ?_, elems_le sk⟩
        · intro x
          unfold adjS
          rw [HOk.out]
          constructor
          · intro h
            have hx8 : x < 8 := by
              rcases Nat.lt_or_ge x 8 with h8 | h8
              · exact h8
              · exfalso
                have h9 : 2 ^ 8 ≤ 2 ^ x := Nat.pow_le_pow_right (by omega) h8
                rw [Nat.testBit_lt_two_pow (Nat.lt_of_lt_of_le hs8 h9)] at h; cases h
            exact List.mem_map.2 ⟨⟨x, hx8⟩, mem_elems.2 h, rfl⟩
          · intro h
            obtain ⟨y, hy, rfl⟩ := List.mem_map.1 h
            exact mem_elems.1 hy
        · intro x h
          obtain ⟨y, hy, rfl⟩ := List.mem_map.1 h
          exact y.2
      have hLL : (elems sk).length = ((elems sk).map (·.val)).length := by simp
      generalize hxs : (elems sk).map (·.val) = xs at *
      generalize hL : (elems sk).length = L at *
      clear hxs hL
      subst hLL
      have hb6 : Below w5.heap.size w5 (w5.alloc (.cells #[.slice al xs.length cl] 28)) := below_alloc' _ _
      have hx6 := Boxed.new w5 28 (.slice al xs.length cl)
      have hc6 := hx6.cell
      have hsz5 := hB5.size
      have hB56 := below_c hB5 hb6
      have HK : Hid (∀ w6, w6 = w5.alloc (.cells #[.slice al xs.length cl] 28) → Calls Try.prog 42 #[.slice al xs.length cl, .func (.func 43) #[] #[.pointer (some ⟨w5.heap.size, 0, none⟩), .pointer (some ⟨w2.heap.size, 0, none⟩), .pointer (some ⟨wr.heap.size, 0, none⟩)]] w6
          fun e w7 => ∃ b, e = .returned (.bool b) ∧ (if IsCut O k then [k] else []) = (if b then [k] else []) ∧ Below w6.heap.size w6 w7) := by
        show ∀ w6, _ = _ → _
        rintro w6 rfl
        obtain ⟨h1, h2, h3⟩ := hadj.out
        cases xs with
        | nil =>
          refine (pointsNil_any _ al cl _ ⟨_, rfl⟩).mono ?_
          rintro e w7 ⟨rfl, rfl⟩
          refine ⟨false, rfl, ?_, Below.refl _ _⟩
          rw [if_neg]
          · rfl
          · rintro ⟨x, _, hx, _⟩
            exact List.not_mem_nil ((h1 x).1 hx)
        | cons f r =>
          obtain ⟨g, m', e⟩ : ∃ g, ∃ m' : Nat, al = some ⟨g, 0, none⟩ := by
            rcases ho5.2 with ⟨e, _⟩ | ⟨g, cap, cur, e, _⟩
            · exact absurd e (by simp)
            · simp at e; exact ⟨g, 0, e.1⟩
          subst e
          have hgl := ho5.lt g rfl
          have hcf := owns_at ho5 (k := 0) (u := .int .i64 (f : Int)) (by simp [nats])
          have hfn : f < n := (HAB.out k f ((h1 f).2 List.mem_cons_self)).2
          have hrd6 := rd_of_owns (owns_later ho5 hb6)
          refine (pointsAny_any n f Wn w5.heap.size w2.heap.size wr.heap.size g (f :: r).length cl (.slice (some ⟨gs, 0, none⟩) n caps) O _ (f :: r) _ hn8 (((hrd3.later hB).later hb4).later hB56) hlen HS.out HAB.out hfn hcb hrd6 h2 (by rw [← List.length_map (f := id)] at h3 ⊢; simpa using h3)
            hc6 (by simp) ((hb6.cell (p := ⟨g, 0, none⟩) hgl.2).trans hcf) ((hB56.cell (p := ⟨w2.heap.size, 0, none⟩) (by show w2.heap.size < _; omega)).trans hc74) ((hB56.cell (p := ⟨wr.heap.size, 0, none⟩) (by show wr.heap.size < _; omega)).trans hx4.cell) (by simp) (by simp; omega) (by simp; omega) (by simp; omega)).mono ?_
          rintro e w7 ⟨b, rfl, hb, hB7⟩
          refine ⟨b, rfl, ?_, hB7⟩
          rcases hb with ⟨rfl, i, hi', ha⟩ | ⟨rfl, ha⟩
          · rw [if_pos (cut_yes HAB.out HCT.out ((h1 f).2 List.mem_cons_self) ((h1 _).2 (List.getElem_mem hi')) ha)]; rfl
          · rw [if_neg (cut_no HAB.out HSY.out HIR.out HCT.out (fun x hx => by
              obtain ⟨i, hi', e⟩ := List.mem_iff_getElem.1 ((h1 x).1 hx)
              have := ha i hi'
              rwa [e] at this) ((h1 f).2 List.mem_cons_self))]; rfl
      have hor6 := owns_later (owns_later (owns_later hor hb4) hB5) hb6
      have hBB6 := (hb4.trans (hB56.mono (by omega))).trans (Below.refl _ _)
      have hbs6 := hb6.size
      clear hx6 hc6 hck hck4 hc7 hc74 hx4 ho5 hb6 hB5 hB56
      go_wp2_with fail
      refine (HK.out _ rfl).mono ?_
      rintro e w7 ⟨b, rfl, hb, hB7⟩
      cases b
      · have hL : cutsUp O (k + 1) = cutsUp O k := by rw [cutsUp_succ, hb]; simp
        have hrel := Lib.hid (owns_later hor6 hB7)
        have hBr := hB.trans ((below_c hBB6 hB7).mono (by omega))
        go_wp2
        go_roundw
        case rel => refine ⟨k + 1, 0, by omega, by go_num, ?_, hBr⟩; rw [hL]; exact hrel.out
        case measure => simp [intOf]; omega
      · have hL : cutsUp O (k + 1) = cutsUp O k ++ [k] := by rw [cutsUp_succ, hb]; simp
        have HL := Lib.hid hL
        have hor7 := owns_later hor6 hB7
        have hBr := hB.trans ((below_c hBB6 hB7).mono (by omega))
        have hs7 := hBr.size
        have hcl := cutsUp_length O k
        clear hL hb hor6 hor
        generalize hQ : cutsUp O k = Q at *
        clear hQ
        go_wp2_with (at_builtin; go_must (refine wpl_app _ _ _ (AppTo.refl hor7) rfl rfl Try.underlying28 hi hz0 hz1 hz2 rfl (by decide) rfl rfl rfl (by simp [Value.oneCell']) (by decide) (by omega) (by omega) ?_); intro v8 w8 hA8 hne8 hst8)
        go_roundw
        case rel =>
          refine ⟨k + 1, 0, by omega, by go_num, ?_, hA8.below hor7 hBr (Nat.le_refl _) (by omega)⟩
          rw [HL.out]
          simpa [nats] using hA8.own
        case measure => simp [intOf]; omega
    · have e : k = n := by omega
      subst e
      go_wp2
      go_ret2
      rw [HOe.out]
      refine RetInts.mk rfl (owns_mono (by rw [nats_ints]; exact hor) (by omega)) (by simp) (below_c hB13 hB)

end Go.Proofs.Ytjeafgnaoncphaa
