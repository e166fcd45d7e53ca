/- What graph.Check and graph.Beside return: the walks. Conditions: in each statement. -/
import Derived.Test.YtjeafgnaoncphaaCoreOut
import Derived.Test.YtjeafgnaoncphaaList
namespace Go.Proofs.Ytjeafgnaoncphaa
open Go.RowKit Gr

theorem info_ints : (Try.prog.info? 28).map (fun i => (i.zero, i.size, i.bytes)) = some (some (.slice none 0 0), 1, 24) := by kernel_rfl

/-- two lists, part by part -/
inductive All2 {α β : Type} (R : α → β → Prop) : List α → List β → Prop
  | nil : All2 R [] []
  | cons {a b l m} : R a b → All2 R l m → All2 R (a :: l) (b :: m)
theorem All2.imp {α β : Type} {R S : α → β → Prop} (h : ∀ a b, R a b → S a b) {l : List α} {m : List β} (k : All2 R l m) : All2 S l m := by
  induction k with
  | nil => exact .nil
  | cons x _ ih => exact .cons (h _ _ x) ih
theorem All2.append {α β : Type} {R : α → β → Prop} {l l' : List α} {m m' : List β} (h : All2 R l m) (k : All2 R l' m') : All2 R (l ++ l') (m ++ m') := by
  induction h with
  | nil => exact k
  | cons x _ ih => exact .cons x ih
theorem All2.length {α β : Type} {R : α → β → Prop} {l : List α} {m : List β} (h : All2 R l m) : l.length = m.length := by
  induction h with
  | nil => rfl
  | cons _ _ ih => simp [ih]
theorem All2.at {α β : Type} {R : α → β → Prop} {l : List α} {m : List β} (h : All2 R l m) {k : Nat} (hk : k < m.length) : ∃ a, l[k]? = some a ∧ R a m[k] := by
  induction h generalizing k with
  | nil => simp at hk
  | cons x _ ih =>
    cases k with
    | zero => exact ⟨_, rfl, x⟩
    | succ k => obtain ⟨a, h1, h2⟩ := ih (k := k) (by simpa using hk); exact ⟨a, by simpa using h1, by simpa using h2⟩

/-- u is, apart from the row g, an owned row of the numbers xs -/
def RowOwn (w : World) (base : Nat) (g u : Value) (xs : List Int) : Prop :=
  (∃ a c, u = .slice a xs.length c) ∧ w.ownsRow base 3 1 u xs.length (ints xs) ∧ (g.ownBlock = none ∨ g.ownBlock ≠ u.ownBlock)
def RowsOwn (w : World) (base : Nat) (g : Value) (us : List Value) (rows : List (List Int)) : Prop := All2 (RowOwn w base g) us rows

/-- v is a slice of slices of the numbers rows -/
def RowsRd (w : World) (v : Value) (rows : List (List Int)) : Prop :=
  ∃ us, Rd w v rows.length us ∧ All2 (fun u xs => Rd w u xs.length (ints xs)) us rows

theorem rowsOwn_later {w w' : World} {base : Nat} {g : Value} {us : List Value} {rows : List (List Int)} (h : RowsOwn w base g us rows) (hb : Below w.heap.size w w') : RowsOwn w' base g us rows :=
  All2.imp (fun _ _ h => ⟨h.1, owns_later h.2.1 hb, h.2.2⟩) h
theorem rowsOwn_step {w w' : World} {base : Nat} {e : TypeId} {s n' : Nat} {g g' : Value} {xs' us : List Value} {rows : List (List Int)} (hs : AppTo w base e s g w' g' n' xs') (h : RowsOwn w base g us rows) : RowsOwn w' base g' us rows :=
  All2.imp (fun _ _ h => ⟨h.1, owns_beside hs h.2.1 h.2.2⟩) h
theorem rowsRd_of {w : World} {base base' : Nat} {g : Value} {us : List Value} {rows : List (List Int)} (hg : w.ownsRow base' 28 1 g rows.length us) (h : RowsOwn w base g us rows) : RowsRd w g rows :=
  ⟨us, rd_of_owns hg, All2.imp (fun _ _ h => rd_of_owns h.2.1) h⟩
theorem RowsRd.later {w w' : World} {v : Value} {rows : List (List Int)} (h : RowsRd w v rows) (hb : Below w.heap.size w w') : RowsRd w' v rows := by
  obtain ⟨us, h1, h2⟩ := h
  exact ⟨us, h1.later hb, All2.imp (fun _ _ h => Rd.later h hb) h2⟩

theorem below_2 (w : World) (o1 o2 : Obj) : Below w.heap.size w ((w.alloc o1).alloc o2) := below_c (below_alloc' _ _) (below_alloc' _ _)

set_option maxHeartbeats 1000000 in
theorem graphCheck_any (n : Int) (v : Value) (ls : List Ln) (w : World) (hr : LinesRd w v ls) :
    Calls Try.prog 37 #[.int .i64 n, v] w fun e w' => e = .returned (errOf (chk n ls)) ∧ Below w.heap.size w w' := by
  go_enter Try.func37, Try.ntmps37
  go_wp2_with fail
  refine (coreCheck_any n v ls _ hr).mono ?_
  rintro e w1 ⟨rfl, hB⟩
  go_wp2
  go_ret
  exact ⟨rfl, hB⟩

/-- the rows of graph.Beside -/
def ptInts (s : Nat) : List Int := (elems s).map fun x => ((x.val : Nat) : Int)
def besideRows (n : Nat) (ls : List Ln) : List (List Int) := (beside n ls).map ptInts
theorem ptInts_cells (s : Nat) : ints (ptInts s) = ptsOf (elems s) := by simp [ptInts, ptsOf, ints]
theorem ptInts_length (s : Nat) : (ptInts s).length = (elems s).length := by simp [ptInts]

end Go.Proofs.Ytjeafgnaoncphaa
