/- What slices.SortFunc, as cuts.Bridges calls it, leaves: the contract of the shelf laid at this program. Conditions: in each statement. -/
import Derived.Test.YtjeafgnaoncphaaSortLayL
import Derived.Test.YtjeafgnaoncphaaBack
import Derived.Shelf.SlSortCmp.NoneTotal
import Derived.Sort.OwnSortedInts
namespace Go.Proofs.Ytjeafgnaoncphaa
open Go.RowKit Gr Go.Sort

theorem holds_id {w : World} {g : Nat} {cur : Array Value} {e : TypeId} {F : List Value} (hb : w.heap[g]? = some (.cells cur e (0, 0))) (ht : cur.toList.take F.length = F) : Holds id w g 0 F.toArray := by
  intro j hj
  have hj' : j < F.length := by simpa using hj
  refine ⟨?_, by simp [World.frozen?, hb]⟩
  have h1 : (cur.toList.take F.length)[j]? = F[j]? := by rw [ht]
  rw [List.getElem?_take_of_lt hj'] at h1
  simp only [World.cell?, hb, Nat.zero_add]
  simp only [Option.isSome_none, Bool.false_eq_true, if_false]
  rw [← Array.getElem?_toList, h1]
  simp [hj']
theorem heap_id {w : World} {g n : Nat} {os : Array Obj} {cur : Array Value} {e : TypeId} {fr : Nat × Nat} (d : Array Value) (hb : w.heap[g]? = some (.cells cur e fr)) :
    (grow (putRow id (Sort.ahead w n) g 0 d) os).heap[g]? = some (.cells (putCells id 0 d cur) e fr) := by
  have hg : g < w.heap.size := (Array.getElem?_eq_some_iff.1 hb).1
  rw [heap_grow_old _ _ (by simpa using hg)]
  simp [putRow, mapBlock, Sort.ahead, Array.getElem?_modify, hb, onCells]
theorem grownBy_id {w : World} {g n : Nat} {os : Array Obj} (d : Array Value) : w.grownBy (grow (putRow id (Sort.ahead w n) g 0 d) os) (some g) := by
  refine ⟨rfl, rfl, rfl, by simp, fun k hk hne => ?_⟩
  rw [heap_grow_old _ _ (by simpa using hk)]
  have : g ≠ k := fun e => hne (by rw [e])
  simp [putRow, mapBlock, Sort.ahead, Array.getElem?_modify, this]
theorem take_id (cur : Array Value) (F : List Value) (h : F.length ≤ cur.size) : (putCells id 0 F.toArray cur).toList.take F.length = F := by
  apply List.ext_getElem?
  intro j
  by_cases hj : j < F.length
  · rw [List.getElem?_take_of_lt hj, Array.getElem?_toList]
    simp [putCells, hj, show j < cur.size by omega]
  · rw [List.getElem?_take_eq_none (by omega), List.getElem?_eq_none (by omega)]

abbrev PF := Fin 8 × Fin 8
def encP (p : PF) : List Value := [.int .i64 ((p.1.val : Nat) : Int), .int .i64 ((p.2.val : Nat) : Int)]
def cfP (p q : PF) : Int := if p.1.val = q.1.val then ((p.2.val : Nat) : Int) - ((q.2.val : Nat) : Int) else ((p.1.val : Nat) : Int) - ((q.1.val : Nat) : Int)
theorem ltP (p q : PF) : ltOf cfP p q = decide (p.1.val < q.1.val ∨ (p.1.val = q.1.val ∧ p.2.val < q.2.val)) := by
  unfold ltOf cfP
  rw [decide_eq_decide]
  split <;> omega
theorem swoP : SWO (ltOf cfP) where
  irrefl x := by rw [ltP]; simp
  trans x y z h1 h2 := by rw [ltP, decide_eq_true_eq] at *; omega
  ntrans x y z h1 h2 := by rw [ltP, decide_eq_false_iff_not] at *; omega

set_option maxHeartbeats 1000000 in
theorem closureP (p q : PF) (W : World) : Calls Try.prog 36 #[.agg (encP p).toArray, .agg (encP q).toArray] W fun e w' => e = .returned (.int .i64 (cfP p q)) ∧ ∃ q os', w' = grow (W.drewN q) os' := by
  obtain ⟨a, b⟩ := p
  obtain ⟨c, d⟩ := q
  have h1 := a.isLt
  have h2 := b.isLt
  have h3 := c.isLt
  have h4 := d.isLt
  unfold encP cfP
  simp only
  generalize a.val = a at *
  generalize b.val = b at *
  generalize c.val = c at *
  generalize d.val = d at *
  by_cases h : a = c
  · have hb : ((a : Int) != (c : Int)) = false := by simp [h]
    have hw : IntKind.i64.wrap ((b : Int) - (d : Int)) = (b : Int) - (d : Int) := IntWalk.i64_in _ (by omega)
    rw [if_pos h]
    clear h
    go_enter Try.func36, Try.ntmps36
    go_wp2
    go_ret
    exact ⟨rfl, 0, _, by rw [alloc_eq_grow, alloc_eq_grow, grow_grow]; rfl⟩
  · have hb : ((a : Int) != (c : Int)) = true := by simp; omega
    have hw : IntKind.i64.wrap ((a : Int) - (c : Int)) = (a : Int) - (c : Int) := IntWalk.i64_in _ (by omega)
    rw [if_neg h]
    clear h
    go_enter Try.func36, Try.ntmps36
    go_wp2
    go_ret
    exact ⟨rfl, 0, _, by rw [alloc_eq_grow, alloc_eq_grow, grow_grow]; rfl⟩
theorem cmpLaysP (blk off size : Nat) (w : World) : CmpLays Try.prog 36 #[] encP 2 cfP blk off size w :=
  fun _ _ _ _ x y => closureP x y _

/-- the same lines, by their lesser points -/
def lsort (ls : List Ln) : List Ln := ls.mergeSort fun x y => decide (x.1 < y.1 ∨ (x.1 = y.1 ∧ x.2 ≤ y.2))
theorem lsort_perm (ls : List Ln) : (lsort ls).Perm ls := List.mergeSort_perm _ _
theorem lsort_length (ls : List Ln) : (lsort ls).length = ls.length := (lsort_perm ls).length_eq
def toP (l : Ln) : PF := (Fin.ofNat 8 l.1.toNat, Fin.ofNat 8 l.2.toNat)
def ofP (p : PF) : Ln := (((p.1.val : Nat) : Int), ((p.2.val : Nat) : Int))
theorem of_toP {l : Ln} (h : (0 ≤ l.1 ∧ l.1 ≤ 7) ∧ 0 ≤ l.2 ∧ l.2 ≤ 7) : ofP (toP l) = l := by
  unfold ofP toP
  refine Prod.ext ?_ ?_
  · show ((Fin.ofNat 8 l.1.toNat).val : Int) = l.1
    rw [Fin.val_ofNat]; omega
  · show ((Fin.ofNat 8 l.2.toNat).val : Int) = l.2
    rw [Fin.val_ofNat]; omega
theorem map_of_toP {ls : List Ln} (h : ∀ l ∈ ls, (0 ≤ l.1 ∧ l.1 ≤ 7) ∧ 0 ≤ l.2 ∧ l.2 ≤ 7) : (ls.map toP).map ofP = ls := by
  rw [List.map_map]
  conv => rhs; rw [← List.map_id ls]
  exact List.map_congr_left fun x hx => of_toP (h x hx)
theorem sort_mapP (l : List PF) : (l.mergeSort fun x y => !(ltOf cfP) y x).map ofP = lsort (l.map ofP) := by
  unfold lsort
  refine List.map_mergeSort fun a _ b _ => ?_
  rw [ltP, Bool.eq_iff_iff]
  unfold ofP
  simp only [Bool.not_eq_true', decide_eq_false_iff_not, decide_eq_true_eq]
  omega
theorem flat_cells (D : List PF) : flatK encP 2 D.toArray = (cellsOf (D.map ofP)).toArray := by
  apply Array.ext
  · simp [cellsOf_length]
  · intro t h1 h2
    have ht : t < D.length * 2 := by simpa using h1
    have hk : t / 2 < D.length := by omega
    have hk' : t / 2 < (D.map ofP).length := by simpa using hk
    obtain ⟨g1, g2⟩ := cellsOf_get (D.map ofP) (t / 2) hk'
    have e0 : (flatK encP 2 D.toArray)[t] = (encP D[t / 2])[t % 2]! := by simp [flatK, hk]
    rw [e0]
    have e1 : some ((cellsOf (D.map ofP)).toArray[t]) = (cellsOf (D.map ofP))[t]? := by
      rw [List.getElem_toArray, ← List.getElem?_eq_getElem]
    rcases Nat.mod_two_eq_zero_or_one t with hm | hm
    · have e : t = 2 * (t / 2) := by omega
      rw [hm]
      have : (cellsOf (D.map ofP))[t]? = some (.int .i64 ((D[t / 2].1.val : Nat) : Int)) := by
        conv => lhs; rw [e]
        rw [g1]; simp [ofP]
      rw [this] at e1
      exact (Option.some.inj e1).symm
    · have e : t = 2 * (t / 2) + 1 := by omega
      rw [hm]
      have : (cellsOf (D.map ofP))[t]? = some (.int .i64 ((D[t / 2].2.val : Nat) : Int)) := by
        conv => lhs; rw [e]
        rw [g2]; simp [ofP]
      rw [this] at e1
      exact (Option.some.inj e1).symm

set_option maxHeartbeats 1000000 in
theorem lsort_ok (w : World) (base n c : Nat) (a : Option Addr) (ls : List Ln) (ho : w.ownsRow base 33 2 (.slice a n c) n (cellsOf ls)) (h : ∀ l ∈ ls, (0 ≤ l.1 ∧ l.1 ≤ 7) ∧ 0 ≤ l.2 ∧ l.2 ≤ 7) (hn : n ≤ 100) :
    Calls Try.prog 35 #[.slice a n c, .func (.func 36) #[] #[]] w fun e w' => e = .returned (.tuple #[]) ∧ w'.ownsRow base 33 2 (.slice a n c) n (cellsOf (lsort ls)) ∧ ∀ W, Below base W w → base ≤ w.heap.size → Below base W w' := by
  have eg : ∀ args w, (callFunc 36 args).run Try.prog w = .ok (.enter 36 args) w := enters_of Try.func36 (by kernel_rfl) rfl
  have hxl : ls.length = n := by have := ho.1; rw [cellsOf_length] at this; omega
  rcases id ho.2 with ⟨e, h0⟩ | ⟨g, cap, cur, e, hb, hg, hnc, hcm, hcs, htk⟩
  · cases e
    have hcon := AnyF.slices_SortFunc_none sortL none 0 (.func (.func 36) #[] #[]) w
    refine Calls.mono hcon ?_
    rintro e w' ⟨rfl, rfl⟩
    have e1 : lsort ls = ls := by
      have : ls = [] := List.eq_nil_of_length_eq_zero hxl
      rw [this]; simp [lsort]
    rw [e1]
    exact ⟨rfl, ho, fun _ h _ => h⟩
  · cases e
    have hF : (cellsOf ls).length = n * 2 := by rw [cellsOf_length, hxl]
    have hH0 : Holds id w g 0 (cellsOf ls).toArray := holds_id hg (by rw [hF]; exact htk)
    have hH : HoldsK encP 2 w g 0 (ls.map toP).toArray := by
      unfold HoldsK
      rw [flat_cells, map_of_toP h]
      exact hH0
    have hgs : g < w.heap.size := (Array.getElem?_eq_some_iff.1 hg).1
    have hcon := AnyQ.slices_SortFunc_total sortL 2 Try.isAgg33 Try.sizeOf33 encP (fun _ => rfl) (fun x v hv => by simp [encP] at hv; rcases hv with rfl | rfl <;> rfl) cfP swoP 36 #[] g 0 c (ls.map toP).toArray w eg (cmpLaysP g 0 _ w) hH hgs (by simp; omega) (fun x y h1 h2 => by
      rw [ltP, decide_eq_false_iff_not] at *
      exact Prod.ext (Fin.ext (by omega)) (Fin.ext (by omega)))
    have hsz : (ls.map toP).toArray.size = n := by simp [hxl]
    rw [hsz] at hcon
    refine Calls.mono hcon ?_
    rintro e w' ⟨rfl, m, os, rfl⟩
    have e1 : sortWorldK encP 2 w g 0 m ((ls.map toP).mergeSort fun x y => !(ltOf cfP) y x).toArray os = grow (putRow id (Sort.ahead w m) g 0 (cellsOf (lsort ls)).toArray) os := by
      unfold sortWorldK putRowK
      rw [flat_cells, sort_mapP, map_of_toP h]
    have e2 : (ls.map toP).toArray.toList = ls.map toP := rfl
    rw [e2, e1]
    have hF2 : (cellsOf (lsort ls)).length = n * 2 := by rw [cellsOf_length, lsort_length, hxl]
    refine ⟨rfl, ⟨hF2, .inr ⟨g, c, _, rfl, hb, heap_id _ hg, hnc, hcm, by simp [putCells, hcs], ?_⟩⟩, fun W hW hbs => hW.grown (grownBy_id _) hbs (fun k hk => by cases hk; exact hb)⟩
    rw [← hF2]
    exact take_id cur _ (by rw [hF2, hcs]; exact Nat.mul_le_mul_right _ hnc)
end Go.Proofs.Ytjeafgnaoncphaa
