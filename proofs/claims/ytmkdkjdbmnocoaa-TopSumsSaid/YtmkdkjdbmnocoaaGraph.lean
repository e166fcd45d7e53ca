/- What graph.Check and graph.Beside return: the walks. Conditions: in each statement. -/
import Derived.Test.YtmkdkjdbmnocoaaCoreOut
import Derived.Test.YtmkdkjdbmnocoaaList
namespace Go.Proofs.Ytmkdkjdbmnocoaa
open Go.RowKit Gr

theorem info_ints : (Try.prog.info? 24).map (fun i => (i.zero, i.size, i.bytes)) = some (some (.slice none 0 0), 1, 24) := by kernel_rfl

/-- two lists, part by part -/
inductive All2 {α β : Type} (R : α → β → Prop) : List α → List β → Prop
  | nil : All2 R [] []
  | cons {a b l m} : R a b → All2 R l m → All2 R (a :: l) (b :: m)
theorem All2.imp {α β : Type} {R S : α → β → Prop} (h : ∀ a b, R a b → S a b) {l : List α} {m : List β} (k : All2 R l m) : All2 S l m := by
  induction k with
  | nil => exact .nil
  | cons x _ ih => exact .cons (h _ _ x) ih
theorem All2.append {α β : Type} {R : α → β → Prop} {l l' : List α} {m m' : List β} (h : All2 R l m) (k : All2 R l' m') : All2 R (l ++ l') (m ++ m') := by
  induction h with
  | nil => exact k
  | cons x _ ih => exact .cons x ih
theorem All2.length {α β : Type} {R : α → β → Prop} {l : List α} {m : List β} (h : All2 R l m) : l.length = m.length := by
  induction h with
  | nil => rfl
  | cons _ _ ih => simp [ih]
theorem All2.at {α β : Type} {R : α → β → Prop} {l : List α} {m : List β} (h : All2 R l m) {k : Nat} (hk : k < m.length) : ∃ a, l[k]? = some a ∧ R a m[k] := by
  induction h generalizing k with
  | nil => simp at hk
  | cons x _ ih =>
    cases k with
    | zero => exact ⟨_, rfl, x⟩
    | succ k => obtain ⟨a, h1, h2⟩ := ih (k := k) (by simpa using hk); exact ⟨a, by simpa using h1, by simpa using h2⟩

/-- u is, apart from the row g, an owned row of the numbers xs -/
def RowOwn (w : World) (base : Nat) (g u : Value) (xs : List Int) : Prop :=
  (∃ a c, u = .slice a xs.length c) ∧ w.ownsRow base 3 1 u xs.length (ints xs) ∧ (g.ownBlock = none ∨ g.ownBlock ≠ u.ownBlock)
def RowsOwn (w : World) (base : Nat) (g : Value) (us : List Value) (rows : List (List Int)) : Prop := All2 (RowOwn w base g) us rows

/-- v is a slice of slices of the numbers rows -/
def RowsRd (w : World) (v : Value) (rows : List (List Int)) : Prop :=
  ∃ us, Rd w v rows.length us ∧ All2 (fun u xs => Rd w u xs.length (ints xs)) us rows

theorem rowsOwn_later {w w' : World} {base : Nat} {g : Value} {us : List Value} {rows : List (List Int)} (h : RowsOwn w base g us rows) (hb : Below w.heap.size w w') : RowsOwn w' base g us rows :=
  All2.imp (fun _ _ h => ⟨h.1, owns_later h.2.1 hb, h.2.2⟩) h
theorem rowsOwn_step {w w' : World} {base : Nat} {e : TypeId} {s n' : Nat} {g g' : Value} {xs' us : List Value} {rows : List (List Int)} (hs : AppTo w base e s g w' g' n' xs') (h : RowsOwn w base g us rows) : RowsOwn w' base g' us rows :=
  All2.imp (fun _ _ h => ⟨h.1, owns_beside hs h.2.1 h.2.2⟩) h
theorem rowsRd_of {w : World} {base base' : Nat} {g : Value} {us : List Value} {rows : List (List Int)} (hg : w.ownsRow base' 24 1 g rows.length us) (h : RowsOwn w base g us rows) : RowsRd w g rows :=
  ⟨us, rd_of_owns hg, All2.imp (fun _ _ h => rd_of_owns h.2.1) h⟩
theorem RowsRd.later {w w' : World} {v : Value} {rows : List (List Int)} (h : RowsRd w v rows) (hb : Below w.heap.size w w') : RowsRd w' v rows := by
  obtain ⟨us, h1, h2⟩ := h
  exact ⟨us, h1.later hb, All2.imp (fun _ _ h => Rd.later h hb) h2⟩

theorem below_2 (w : World) (o1 o2 : Obj) : Below w.heap.size w ((w.alloc o1).alloc o2) := below_c (below_alloc' _ _) (below_alloc' _ _)

set_option maxHeartbeats 1000000 in
theorem graphCheck_any (n : Int) (v : Value) (ls : List Ln) (w : World) (hr : LinesRd w v ls) :
    Calls Try.prog 26 #[.int .i64 n, v] w fun e w' => e = .returned (errOf (chk n ls)) ∧ Below w.heap.size w w' := by
  go_enter Try.func26, Try.ntmps26
  go_wp2_with fail
  refine (coreCheck_any n v ls _ hr).mono ?_
  rintro e w1 ⟨rfl, hB⟩
  go_wp2
  go_ret
  exact ⟨rfl, hB⟩

/-- the rows of graph.Beside -/
def ptInts (s : Nat) : List Int := (elems s).map fun x => ((x.val : Nat) : Int)
def besideRows (n : Nat) (ls : List Ln) : List (List Int) := (beside n ls).map ptInts
theorem ptInts_cells (s : Nat) : ints (ptInts s) = ptsOf (elems s) := by simp [ptInts, ptsOf, ints]
theorem ptInts_length (s : Nat) : (ptInts s).length = (elems s).length := by simp [ptInts]

set_option maxRecDepth 100000 in
set_option maxHeartbeats 1000000 in
theorem graphBeside_bad (n : Int) (v : Value) (ls : List Ln) (w : World) (hr : LinesRd w v ls) (hc : chk n ls ≠ 0) :
    Calls Try.prog 15 #[.int .i64 n, v] w fun e w' => e = .returned (.tuple #[.slice none 0 0, errV (chk n ls)]) ∧ Below w.heap.size w w' := by
  have HC := Lib.hid (errOf_pos hc)
  clear hc
  go_enter Try.func15, Try.ntmps15
  go_wp2_with fail
  refine (graphCheck_any n v ls _ hr).mono ?_
  rintro e w1 ⟨rfl, hB⟩
  rw [HC.out]
  go_wp2
  go_ret2
  exact ⟨rfl, hB⟩

set_option maxRecDepth 100000 in
set_option maxHeartbeats 1000000 in
theorem graphBeside_ok (n : Nat) (v : Value) (ls : List Ln) (w : World) (hr : LinesRd w v ls) (hg : GoodG n ls) (hc : chk n ls = 0) :
    Calls Try.prog 15 #[.int .i64 n, v] w fun e w' => ∃ u, e = .returned (.tuple #[u, .nilIface]) ∧ RowsRd w' u (besideRows n ls) ∧ Below w.heap.size w w' := by
  obtain ⟨i0, hi, hz0, hz1, hz2⟩ := info_parts info_ints
  have HG := Lib.hid hg
  have HC : Hid (errOf (chk n ls) = .nilIface) := by show _ = _; rw [hc]; rfl
  have hn8 : n ≤ 8 := hg.2.1
  have hlen : (beside n ls).length = n := beside_length n ls
  clear hc hg
  go_enter Try.func15, Try.ntmps15
  go_wp2_with fail
  refine (graphCheck_any n v ls _ hr).mono ?_
  rintro e w1 ⟨rfl, hB1⟩
  rw [HC.out]
  go_wp2_with fail
  refine (coreBeside_any n v ls _ (hr.later hB1) HG.out).mono ?_
  rintro e w2 ⟨g, cap, rfl, hown, hB2, hS⟩
  have hB12 := below_c hB1 hB2
  have hR : besideRows n ls = (beside n ls).map ptInts := rfl
  generalize beside n ls = O at *
  have HS := Lib.hid hS
  have HR := Lib.hid hR
  clear hS hB1 hB2 hR
  go_wp2_with fail
  go_loopw [7, 20] (fun u i wr => ∃ (k : Nat) (us : List Value), k ≤ n ∧ i = .int .i64 k ∧ wr.ownsRow w2.heap.size 24 1 u k us ∧ RowsOwn wr w2.heap.size u us ((O.take k).map ptInts) ∧ Below w2.heap.size w2 wr) (fun _ i _ => n - (intOf i).toNat)
  case atStart => exact ⟨0, [], by omega, rfl, World.ownsRow_nil _ _ _ _, All2.nil, Below.refl _ _⟩
  case round =>
    obtain ⟨k, us, hk, rfl, hor, hrows, hbr⟩ := hrel
    by_cases hlt : k < n
    · have hko : k < O.length := by omega
      have hs := HS.out _ (List.getElem_mem hko)
      have hcs := owns_at hown (setsOf_get hko)
      have hck := (hbr.cell (p := ⟨g, k, none⟩) (hown.lt g rfl).2).trans hcs
      have hT : (O.take (k + 1)).map ptInts = (O.take k).map ptInts ++ [ptInts O[k]] := by
        rw [List.take_succ_eq_append_getElem hko, List.map_append]; rfl
      have HT := Lib.hid hT
      clear hcs hT
      generalize O[k] = s at *
      go_wp2_with fail
      refine (list_any s hs _).mono ?_
      rintro e w3 ⟨a, c, rfl, hl3, hB3⟩
      have hor3 := owns_later hor hB3
      have hrows3 := rowsOwn_later hrows hB3
      have hap := apart_new hor hl3 (Nat.le_refl _)
      have hbr3 := hbr.trans (hB3.mono hbr.size)
      go_wp2_with (at_builtin; go_must (refine wpl_app _ _ _ (AppTo.refl hor3) rfl rfl Try.underlying38 hi hz0 hz1 hz2 rfl (by decide) rfl rfl rfl (by simp [Value.oneCell']) (by decide) (by omega) hbr3.size ?_); intro v' w' hA' hne hst)
      go_roundw
      case rel =>
        refine ⟨k + 1, us ++ [.slice a (elems s).length c], by omega, by go_num, by simpa using hA'.own, ?_, hbr3.trans hst⟩
        rw [HT.out]
        refine All2.append (rowsOwn_step hA' hrows3) (All2.cons ⟨⟨a, c, by rw [ptInts_length]⟩, ?_⟩ All2.nil)
        have h2 := owns_beside hA' hl3 hap
        rw [ptInts_length, ptInts_cells]
        exact ⟨owns_mono h2.1 hbr.size, h2.2⟩
      case measure => simp [intOf]; omega
    · have e : O.take k = O := List.take_of_length_le (by omega)
      rw [e] at hrows
      have hkn : k = (besideRows n ls).length := by rw [HR.out]; simp; omega
      clear e
      go_wp2
      go_ret2
      refine ⟨_, rfl, ?_, below_c hB12 hbr⟩
      rw [← HR.out] at hrows
      exact rowsRd_of (hkn ▸ hor) hrows

end Go.Proofs.Ytmkdkjdbmnocoaa
