/- DegreeCan returns true for every input: the walk. Conditions: none. -/
import Derived.Test.YtmkdkjdbmnocoaaDegFact
import Derived.Test.YtmkdkjdbmnocoaaErdosP
namespace Go.Proofs.Ytmkdkjdbmnocoaa
open Go.RowKit Gr

theorem sumI_cast (l : List Nat) : (l.map fun (i : Nat) => (i : Int)).sum = ((l.sum : Nat) : Int) := by
  induction l with
  | nil => rfl
  | cons a l ih => rw [List.map_cons, List.sum_cons, List.sum_cons, ih]; omega
theorem rightI_cast (s : List Nat) (k : Nat) : rightI (s.map fun (i : Nat) => (i : Int)) k (s.length - (k + 1)) = ((k * (k + 1) + ((s.drop (k + 1)).map fun b => min b (k + 1)).sum : Nat) : Int) := by
  unfold rightI
  rw [List.take_of_length_le (by simp), ← List.map_drop, List.map_map]
  have e : ((s.drop (k + 1)).map ((fun b : Int => min b ((k : Int) + 1)) ∘ fun (i : Nat) => (i : Int))) = ((s.drop (k + 1)).map fun b => min b (k + 1)).map fun (i : Nat) => (i : Int) := by
    rw [List.map_map]
    refine List.map_congr_left fun b _ => ?_
    simp only [Function.comp_apply]
    omega
  rw [e, sumI_cast]
  simp
theorem canI_cast (s : List Nat) : canI (s.map fun (i : Nat) => (i : Int)) = canN s := by
  unfold canI canN
  rw [sumI_cast, List.length_map]
  congr 1
  · rw [decide_eq_decide]; omega
  · rw [decide_eq_decide]
    refine forall_congr' fun k => imp_congr_right fun hk => ?_
    unfold okI
    rw [List.length_map, rightI_cast, ← List.map_take, sumI_cast]
    omega
/-- what is the number of lines of the points of a graph can be -/
theorem canI_graph {r : Nat → Nat → Bool} (hs : ∀ a b, r a b = r b a) (hi : ∀ a, r a a = false) (n : Nat) : canI (dsort (((List.range n).map (dg r n)).map fun (i : Nat) => (i : Int))) = true := by
  obtain ⟨ys, h1, h2⟩ := perm_map (fun (i : Nat) => (i : Int)) (dsort_perm (((List.range n).map (dg r n)).map fun (i : Nat) => (i : Int))) _ rfl
  rw [h2, canI_cast]
  exact canN_graph hs hi h1
theorem dsort_sorted (xs : List Int) : (dsort xs).Pairwise fun x y => y ≤ x := by
  have := List.pairwise_mergeSort (le := fun x y : Int => decide (y ≤ x)) (fun a b c h1 h2 => by simp at *; omega) (fun a b => by simp; omega) xs
  exact this.imp fun h => by simpa using h
theorem dsort_turn (xs : List Int) : dsort xs.reverse = dsort xs :=
  perm_dsort ((List.reverse_perm xs).trans (dsort_perm xs).symm) (dsort_sorted xs)
/-- the other lines -/
def rOther (r : Nat → Nat → Bool) (a b : Nat) : Bool := !(decide (a = b)) && !(r a b)
theorem dg_other {r : Nat → Nat → Bool} (hi : ∀ a, r a a = false) (a : Nat) : ∀ n, dg (rOther r) n a + dg r n a + (if a < n then 1 else 0) = n := by
  intro n
  induction n with
  | zero => rfl
  | succ n ih =>
    rw [dg_succ, dg_succ]
    by_cases e : a = n
    · subst e
      have h1 : rOther r a a = false := by simp [rOther]
      rw [if_neg (Nat.lt_irrefl _)] at ih
      rw [if_pos (Nat.lt_succ_self _), h1, hi]
      simp
      omega
    · have h3 : (if a < n + 1 then 1 else 0) = (if a < n then 1 else 0) := by split <;> split <;> omega
      rw [h3]
      cases hr : r a n with
      | true =>
        have h1 : rOther r a n = false := by simp [rOther, hr]
        rw [h1]
        simp
        omega
      | false =>
        have h1 : rOther r a n = true := by simp [rOther, hr, e]
        rw [h1]
        simp
        omega
/-- how many are not beside each point -/
def othI (n : Nat) (ls : List Ln) : List Int := (degI n ls).map fun x => (n : Int) - 1 - x
theorem othI_is {n : Nat} {ls : List Ln} (hg : GoodG n ls) : othI n ls = ((List.range n).map (dg (rOther (rN ls)) n)).map fun (i : Nat) => (i : Int) := by
  unfold othI degI degN
  rw [List.map_map, List.map_map, List.map_map]
  refine List.map_congr_left fun a ha => ?_
  have := dg_other (rN_irr hg) a n
  have han := List.mem_range.1 ha
  rw [if_pos han] at this
  simp only [Function.comp_apply]
  omega
theorem can_deg {n : Nat} {ls : List Ln} (hg : GoodG n ls) : canI (dsort (degI n ls)) = true := canI_graph (rN_symm ls) (rN_irr hg) n
theorem can_oth {n : Nat} {ls : List Ln} (hg : GoodG n ls) : canI (dsort (othI n ls)) = true := by
  rw [othI_is hg]
  refine canI_graph (fun a b => ?_) (fun a => ?_) n
  · unfold rOther; rw [rN_symm]; congr 2; rw [decide_eq_decide]; omega
  · simp [rOther]
theorem othI_length (n : Nat) (ls : List Ln) : (othI n ls).length = n := by rw [othI, List.length_map, degI_length]
theorem othI_in {n : Nat} {ls : List Ln} (hg : GoodG n ls) : ∀ x ∈ othI n ls, 0 ≤ x ∧ x ≤ 7 := by
  intro x hx
  obtain ⟨y, hy, rfl⟩ := List.mem_map.1 hx
  have := degI_in hg y hy
  have := hg.2.1
  omega

set_option maxRecDepth 100000 in
set_option maxHeartbeats 1000000 in
theorem turned_ok (v : Value) (n : Nat) (xs : List Int) (w : World) (hr : Rd w v n (ints xs)) (hx : xs.length = n) (hn : n ≤ 100) :
    Calls Try.prog 13 #[v] w fun e w' => ∃ a c, e = .returned (.slice a n c) ∧ w'.ownsRow w.heap.size 3 1 (.slice a n c) n (ints xs.reverse) ∧ Below w.heap.size w w' := by
  obtain ⟨i0, hi, hz0, hz1, hz2⟩ := info_parts info_int
  have HX := Lib.hid hx
  obtain ⟨a, c, rfl, hnc, hcm, h0, hcell⟩ := id hr
  unfold maxLen at hcm
  have wn : IntKind.i64.wrap ((n : Int) - 1) = (n : Int) - 1 := IntWalk.i64_in _ (by omega)
  clear hx h0
  go_enter Try.func13, Try.ntmps13
  go_wp2_with fail
  go_loopw [3, 4] (fun oo ii wr => ∃ k : Nat, k ≤ n ∧ ii = .int .i64 ((n : Int) - 1 - (k : Int)) ∧ wr.ownsRow w.heap.size 3 1 oo k (ints (xs.reverse.take k)) ∧ Below w.heap.size w wr) (fun _ ii _ => (intOf ii + 1).toNat)
  case atStart => exact ⟨0, by omega, by simp, World.ownsRow_nil _ _ _ _, Below.refl _ _⟩
  case round =>
    obtain ⟨k, hk, rfl, ho, hB⟩ := hrel
    obtain ⟨ao, co, rfl⟩ := owns_slice ho
    have hsB := hB.size
    by_cases hlt : k < n
    · obtain ⟨j, hj, hjn⟩ : ∃ j : Nat, (n : Int) - 1 - (k : Int) = (j : Int) ∧ j < n := ⟨n - 1 - k, by omega, by omega⟩
      have hjx : j < xs.length := by rw [HX.out]; exact hjn
      obtain ⟨b, off, rfl, hb, hc⟩ := hcell (by omega)
      have ck := (hB.cell (p := ⟨b, off + j, none⟩) hb).trans (hc j _ (ints_get hjx))
      have HT : Hid (xs.reverse.take (k + 1) = xs.reverse.take k ++ [xs[j]]) := by
        show _ = _
        have hkr : k < xs.reverse.length := by rw [List.length_reverse, HX.out]; exact hlt
        have hidx : xs.length - 1 - k = j := by rw [HX.out]; omega
        rw [List.take_succ_eq_append_getElem hkr, List.getElem_reverse]
        simp only [hidx]
      generalize xs[j] = x at *
      have hji : (j : Int) < (n : Int) := by omega
      have hj0 : decide ((j : Int) ≥ 0) = true := by simp
      have wj : IntKind.i64.wrap ((j : Int) - 1) = (j : Int) - 1 := IntWalk.i64_in _ (by omega)
      have HJ := Lib.hid hj
      rw [hj]
      clear hc hcell hj
      go_wp2_with (at_builtin; go_must (refine wpl_app _ _ _ (AppTo.refl ho) rfl rfl Try.underlying24 hi hz0 hz1 hz2 rfl (by decide) rfl rfl rfl (by simp [Value.oneCell']) (by decide) (by omega) (by omega) ?_); intro v8 w8 hA8 hne8 hst8)
      go_roundw
      case rel =>
        refine ⟨k + 1, by omega, by have := HJ.out; congr 1; omega, ?_, hA8.below ho hB (Nat.le_refl _) (by omega)⟩
        rw [HT.out]
        simpa [ints] using hA8.own
      case measure => simp [intOf]
    · obtain rfl : k = n := by omega
      have e : xs.reverse.take k = xs.reverse := List.take_of_length_le (by rw [List.length_reverse, HX.out]; omega)
      rw [e] at ho
      have e1 : (k : Int) - 1 - (k : Int) = -1 := by omega
      rw [e1]
      go_wp2
      go_ret
      exact ⟨_, _, rfl, ho, hB⟩

set_option maxRecDepth 100000 in
set_option maxHeartbeats 1000000 in
theorem degreeCan_bad (n : Int) {v : Value} {ls : List Ln} {w : World} (d : Value) (hr : LinesRd w v ls) (hc : chk n ls ≠ 0) :
    Calls Try.prog 4 #[.int .i64 n, v, d] w fun e w' => e = .returned (.bool true) ∧ Below w.heap.size w w' := by
  have K := fun w hr => degOf_bad n v ls w hr hc
  clear hc
  go_enter Try.func4, Try.ntmps4
  go_wp2_with fail
  refine (degreeFact_any _).mono ?_
  rintro e w1 ⟨rfl, hB1⟩
  go_wp2_with fail
  refine (K _ (hr.later hB1)).mono ?_
  rintro e w2 ⟨rfl, hB2⟩
  have hB := below_c hB1 hB2
  clear K
  go_wp2
  go_ret
  exact ⟨rfl, hB⟩

set_option maxRecDepth 100000 in
set_option maxHeartbeats 4000000 in
theorem degreeCan_ok (n : Nat) {v : Value} {ls : List Ln} {w : World} (d : Value) (xs : List Int) (hd : Rd w d xs.length (ints xs)) (hr : LinesRd w v ls) (hg : GoodG n ls) (hc : chk n ls = 0) :
    Calls Try.prog 4 #[.int .i64 (n : Int), v, d] w fun e w' => e = .returned (.bool true) ∧ Below w.heap.size w w' := by
  obtain ⟨i0, hi, hz0, hz1, hz2⟩ := info_parts info_int
  have K := fun w hr => degOf_ok n v ls w hr hg hc
  have hn8 := hg.2.1
  have hn1 := hg.1
  have hDl := degI_length n ls
  have KC1 := fun u w hr => can_ok u n (degI n ls) w hr hDl (by omega) hn8 (fun x hx => by have := degI_in hg x hx; omega)
  have KC2 := fun u w hr => can_ok u n (othI n ls) w hr (othI_length n ls) (by omega) hn8 (othI_in hg)
  rw [can_deg hg] at KC1
  rw [can_oth hg] at KC2
  have HIN := Lib.hid (degI_in hg)
  have wn1 : IntKind.i64.wrap ((n : Int) - 1) = (n : Int) - 1 := IntWalk.i64_in _ (by omega)
  have hOl : (othI n ls).length = n := othI_length n ls
  clear hc hg
  go_enter Try.func4, Try.ntmps4
  go_wp2_with fail
  refine (degreeFact_any _).mono ?_
  rintro e w1 ⟨rfl, hB1⟩
  go_wp2_with fail
  refine (K _ (hr.later hB1)).mono ?_
  rintro e w2 ⟨ad, cd, rfl, od, hB2⟩
  have hB02 := below_c hB1 hB2
  have rd2 := rd_of_owns od
  rw [hDl] at rd2 ⊢
  clear od K
  go_wp2_with fail
  go_loopw [10, 11] (fun oo ii wr => ∃ k : Nat, k ≤ n ∧ ii = .int .i64 k ∧ wr.ownsRow w2.heap.size 3 1 oo k (ints ((othI n ls).take k)) ∧ Below w2.heap.size w2 wr) (fun _ ii _ => n - (intOf ii).toNat)
  case atStart => exact ⟨0, by omega, rfl, World.ownsRow_nil _ _ _ _, Below.refl _ _⟩
  case round =>
    obtain ⟨k, hk, rfl, ho, hB⟩ := hrel
    obtain ⟨ao, co, rfl⟩ := owns_slice ho
    have hsB := hB.size
    by_cases hlt : k < n
    · have hki : (k : Int) < (n : Int) := by omega
      have hkl : k < (degI n ls).length := by omega
      have hko : k < (othI n ls).length := by omega
      obtain ⟨_, _, e, _, _, _, hcx⟩ := rd2.later hB
      cases e
      obtain ⟨bd, off, rfl, hbd, hcc⟩ := hcx (by omega)
      have ck := hcc k _ (ints_get hkl)
      have hxk := HIN.out _ (List.getElem_mem hkl)
      have HT : Hid ((othI n ls).take (k + 1) = (othI n ls).take k ++ [(n : Int) - 1 - (degI n ls)[k]]) := by
        show _ = _
        rw [List.take_succ_eq_append_getElem hko]
        simp [othI]
      clear hcc hcx
      generalize (degI n ls)[k] = x at *
      have wx : IntKind.i64.wrap ((n : Int) - 1 - x) = (n : Int) - 1 - x := IntWalk.i64_in _ (by omega)
      go_wp2_with (at_builtin; go_must (refine wpl_app _ _ _ (AppTo.refl ho) rfl rfl Try.underlying24 hi hz0 hz1 hz2 rfl (by decide) rfl rfl rfl (by simp [Value.oneCell']) (by decide) (by omega) (by omega) ?_); intro v8 w8 hA8 hne8 hst8)
      go_roundw
      case rel =>
        refine ⟨k + 1, by omega, by go_num, ?_, hA8.below ho hB (Nat.le_refl _) (by omega)⟩
        rw [HT.out]
        simpa [ints] using hA8.own
      case measure => simp [intOf]; omega
    · obtain rfl : k = n := by omega
      have e : (othI k ls).take k = othI k ls := List.take_of_length_le (by omega)
      rw [e] at ho
      have ro := rd_of_owns ho
      have hB03 := below_c hB02 hB
      clear e ho
      go_wp2_with fail
      refine (KC1 _ _ (rd2.later hB)).mono ?_
      rintro e w4 ⟨rfl, hB4⟩
      have hB04 := below_c hB03 hB4
      go_wp2_with fail
      refine (KC2 _ _ (ro.later hB4)).mono ?_
      rintro e w5 ⟨rfl, hB5⟩
      have hB05 := below_c hB04 hB5
      have hd5 := hd.later hB05
      clear KC1 KC2 ro rd2
      by_cases hdc : degChk xs = 0
      · obtain ⟨x1, x2, x3⟩ := degChk_zero.1 hdc
        have KX := fun u w hr => can_ok u xs.length xs w hr rfl x1 x2 x3
        have KT := fun w hr => turned_ok d xs.length xs w hr rfl (by omega)
        have KY := fun u w hr => can_ok u xs.length xs.reverse w hr (by simp) x1 x2 (fun x hx => x3 x (List.mem_reverse.1 hx))
        rw [dsort_turn] at KY
        generalize canI (dsort xs) = cc at *
        clear hdc x3
        go_wp2_with fail
        refine (KX _ _ hd5).mono ?_
        rintro e w6 ⟨rfl, hB6⟩
        have hB06 := below_c hB05 hB6
        go_wp2_with fail
        refine (KT _ (hd5.later hB6)).mono ?_
        rintro e w7 ⟨a7, c7, rfl, o7, hB7⟩
        have hB07 := below_c hB06 hB7
        go_wp2_with fail
        refine (KY _ _ (rd_of_owns o7)).mono ?_
        rintro e w8 ⟨rfl, hB8⟩
        have hB08 := below_c hB07 hB8
        clear o7 KX KT KY
        cases cc with
        | true =>
          go_wp2
          go_ret
          exact ⟨rfl, hB08⟩
        | false =>
          go_wp2
          go_ret
          exact ⟨rfl, hB08⟩
      · have KX := fun w hr => can_bad d xs.length xs w hr rfl hdc
        clear hdc
        go_wp2_with fail
        refine (KX _ hd5).mono ?_
        rintro e w6 ⟨rfl, rfl⟩
        clear KX
        go_wp2
        go_ret
        exact ⟨rfl, hB05⟩

theorem degreeCan_any (n : Int) {v : Value} {ls : List Ln} {w : World} {d : Value} {xs : List Int} (hr : LinesRd w v ls) (hd : Rd w d xs.length (ints xs)) :
    Calls Try.prog 4 #[.int .i64 n, v, d] w fun e w' => e = .returned (.bool true) ∧ Below w.heap.size w w' := by
  by_cases hc : chk n ls = 0
  · obtain ⟨m, rfl, hg⟩ := good_of hc
    exact degreeCan_ok m d xs hd hr hg hc
  · exact degreeCan_bad n d hr hc
end Go.Proofs.Ytmkdkjdbmnocoaa
