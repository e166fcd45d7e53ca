/- What slices.Clone and slices.SortFunc, as degree.Can calls them, leave: the contracts of the shelf laid at this program. Conditions: in each statement. -/
import Derived.Test.YtmkdkjdbmnocoaaSortLay
import Derived.Test.YtmkdkjdbmnocoaaDegW
import Derived.Shelf.SlSortCmp.NoneTotal
import Derived.Shelf.SlicesE.Clone
import Derived.Sort.OwnSortedInts
namespace Go.Proofs.Ytmkdkjdbmnocoaa
open Go.RowKit Gr Go.Sort

def encF (i : Fin 8) : Value := .int .i64 ((i.val : Nat) : Int)
def cfD (x y : Fin 8) : Int := ((y.val : Nat) : Int) - ((x.val : Nat) : Int)
theorem ltD (x y : Fin 8) : ltOf cfD x y = decide (y.val < x.val) := by unfold ltOf cfD; rw [Bool.eq_iff_iff]; simp; omega
theorem swoD : SWO (ltOf cfD) where
  irrefl x := by rw [ltD]; simp
  trans x y z h1 h2 := by rw [ltD] at *; simp at *; omega
  ntrans x y z h1 h2 := by rw [ltD] at *; simp at *; omega

set_option maxHeartbeats 1000000 in
theorem closureD (x y : Fin 8) (W : World) : Calls Try.prog 24 #[encF x, encF y] W fun e w' => e = .returned (.int .i64 (cfD x y)) ∧ ∃ q, w' = W.drewN q := by
  have hx := x.isLt
  have hy := y.isLt
  unfold encF cfD
  generalize x.val = a at *
  generalize y.val = b at *
  have hw : IntKind.i64.wrap ((b : Int) - (a : Int)) = (b : Int) - (a : Int) := IntWalk.i64_in _ (by omega)
  go_enter Try.func24, Try.ntmps24
  go_wp2
  go_ret
  exact ⟨rfl, 0, rfl⟩
theorem cmpReadsD (blk off size : Nat) (w : World) : CmpReads Try.prog 24 #[] encF cfD blk off size w :=
  fun _ _ _ _ x y => closureD x y _

/-- the same numbers, falling -/
def dsort (xs : List Int) : List Int := xs.mergeSort fun x y => decide (y ≤ x)
def toF (x : Int) : Fin 8 := Fin.ofNat 8 x.toNat
def ofF (i : Fin 8) : Int := ((i.val : Nat) : Int)
theorem of_to {x : Int} (h : 0 ≤ x ∧ x ≤ 7) : ofF (toF x) = x := by
  unfold ofF toF
  rw [Fin.val_ofNat]
  omega
theorem map_of_to {xs : List Int} (h : ∀ x ∈ xs, 0 ≤ x ∧ x ≤ 7) : (xs.map toF).map ofF = xs := by
  rw [List.map_map]
  conv => rhs; rw [← List.map_id xs]
  exact List.map_congr_left fun x hx => of_to (h x hx)
theorem sort_map (l : List (Fin 8)) : (l.mergeSort fun x y => !(ltOf cfD) y x).map ofF = dsort (l.map ofF) := by
  unfold dsort
  refine List.map_mergeSort fun a _ b _ => ?_
  rw [ltD, Bool.eq_iff_iff]
  unfold ofF
  simp
theorem putRow_of (w : World) (g : Nat) (D : List (Fin 8)) : putRow encF w g 0 D.toArray = putRow (Value.int .i64) w g 0 (D.map ofF).toArray := by
  unfold putRow
  congr 1
  funext c
  unfold putCells
  refine congrArg (fun f => c.mapIdx f) ?_
  funext k x
  simp only [List.size_toArray, List.length_map]
  by_cases h : 0 ≤ k ∧ k < 0 + D.length
  · rw [if_pos h, if_pos h]
    have h1 : k < D.length := by omega
    simp [h1, encF, ofF]
  · rw [if_neg h, if_neg h]
theorem dsort_perm (xs : List Int) : (dsort xs).Perm xs := List.mergeSort_perm _ _
theorem dsort_length (xs : List Int) : (dsort xs).length = xs.length := (dsort_perm xs).length_eq

set_option maxHeartbeats 1000000 in
theorem sort_ok (w : World) (base g n c : Nat) (xs : List Int) (ho : w.ownsRow base 3 1 (.slice (some ⟨g, 0, none⟩) n c) n (ints xs)) (h : ∀ x ∈ xs, 0 ≤ x ∧ x ≤ 7) (hn : n ≤ 100) :
    Calls Try.prog 23 #[.slice (some ⟨g, 0, none⟩) n c, .func (.func 24) #[] #[]] w fun e w' => e = .returned (.tuple #[]) ∧ w'.ownsRow base 3 1 (.slice (some ⟨g, 0, none⟩) n c) n (ints (dsort xs)) ∧ w.grownBy w' (some g) := by
  have eg : ∀ args w, (callFunc 24 args).run Try.prog w = .ok (.enter 24 args) w := enters_of Try.func24 (by kernel_rfl) rfl
  have hxl : xs.length = n := by have := ho.1; simpa [ints] using this
  rcases ho.2 with ⟨e, _⟩ | ⟨g', cap, cur, e, hb, hg, hnc, hcm, hcs, htk⟩
  · cases e
  cases e
  rw [Nat.mul_one] at htk
  have hH0 : Holds (Value.int .i64) w g 0 xs.toArray := holds_of_blockI hg (by rw [hxl]; exact htk)
  have hH : Holds encF w g 0 (xs.map toF).toArray := by
    intro j hj
    have hj' : j < xs.length := by simpa using hj
    have := hH0 j (by simpa using hj')
    refine ⟨?_, this.2⟩
    rw [this.1]
    have e1 := of_to (h _ (List.getElem_mem hj'))
    simp [hj', encF]
    exact e1.symm
  have hgs : g < w.heap.size := (Array.getElem?_eq_some_iff.1 hg).1
  have hcon := Any.slices_SortFunc_total sortF encF (fun _ => rfl) cfD swoD 24 #[] g 0 c (xs.map toF).toArray w eg (cmpReadsD g 0 _ w).lays hH hgs (by simp; omega) (fun x y h1 h2 => by rw [ltD] at *; simp at *; exact Fin.ext (by omega))
  have hsz : (xs.map toF).toArray.size = n := by simp [hxl]
  rw [hsz] at hcon
  refine Calls.mono hcon ?_
  rintro e w' ⟨rfl, m, os, rfl⟩
  have e1 : sortWorld encF w g 0 m ((xs.map toF).mergeSort fun x y => !(ltOf cfD) y x).toArray os = grow (putRow (Value.int .i64) (Sort.ahead w m) g 0 (dsort xs).toArray) os := by
    unfold sortWorld
    rw [putRow_of, sort_map, map_of_to h]
  have e2 : (xs.map toF).toArray.toList = xs.map toF := rfl
  rw [e2, e1]
  refine ⟨rfl, ?_, grownBy_sortedI _⟩
  have := ownsRow_sortedI (n := m) (os := os) (dsort_length xs) hb hg (by rw [hxl]; exact hnc) hcm hcs
  rw [hxl] at this
  exact this

theorem owns_pos {w : World} {base : Nat} {e : TypeId} {size : Nat} {v : Value} {n : Nat} {xs : List Value} (h : w.ownsRow base e size v n xs) (hn : 0 < n) : ∃ g cap, v = .slice (some ⟨g, 0, none⟩) n cap := by
  rcases h.2 with ⟨rfl, rfl, _⟩ | ⟨g, cap, cur, rfl, _⟩
  · omega
  · exact ⟨g, cap, rfl⟩

set_option maxHeartbeats 1000000 in
theorem clone_ok (w : World) (v : Value) (n : Nat) (xs : List Int) (hr : Rd w v n (ints xs)) (hx : xs.length = n) (h0 : 0 < n) (hn : n ≤ 100) :
    Calls Try.prog 22 #[v] w fun e w' => ∃ v', e = .returned v' ∧ w'.ownsRow w.heap.size 3 1 v' n (ints xs) ∧ Below w.heap.size w w' := by
  obtain ⟨i0, hi, hz0, hz1, hz2⟩ := info_parts info_int
  obtain ⟨a, c, rfl, _, _, _, hcell⟩ := hr
  obtain ⟨b, off, rfl, hb, hc⟩ := hcell h0
  have hcon := AnyE.slices_Clone cloneF i0 (.int .i64 0) 1 8 hi hz0 hz1 hz2 rfl (by decide) (sized_of info_int) b off n c (ints xs) w (by simp [ints, hx]) (by unfold maxLen; omega) (by omega) hc (fun u hu => by
    obtain ⟨y, _, rfl⟩ := List.mem_map.1 hu
    rfl)
  refine Calls.mono hcon ?_
  rintro e w' ⟨v', rfl, h1, _, h2⟩
  exact ⟨v', rfl, h1, h2⟩
end Go.Proofs.Ytmkdkjdbmnocoaa
