/- What slices.SortStableFunc, as havel.Make calls it, leaves. Conditions: in each statement. -/
import Derived.Test.YtmkdkjdbmnocoaaInsLay
import Derived.Test.YtmkdkjdbmnocoaaStableP
import Derived.Test.YtmkdkjdbmnocoaaHavelP
import Derived.Test.YtmkdkjdbmnocoaaQueue
import Derived.Sort.OwnSortedInts
namespace Go.Proofs.Ytmkdkjdbmnocoaa
open Go.RowKit Gr Go.Sort

theorem grownBy_row {α : Type} [Inhabited α] {enc : α → Value} {w : World} {g n : Nat} {os : Array Obj} (d : Array α) : w.grownBy (grow (putRow enc (Sort.ahead w n) g 0 d) os) (some g) := by
  refine ⟨rfl, rfl, rfl, by simp, fun k hk hne => ?_⟩
  rw [heap_grow_old _ _ (by simpa using hk)]
  have : g ≠ k := fun e => hne (by rw [e])
  simp [putRow, mapBlock, Sort.ahead, Array.getElem?_modify, this]

section
variable {m : Nat}
def encM (i : Fin (m + 1)) : Value := .int .i64 ((i.val : Nat) : Int)
def cfM (N : List Nat) (x y : Fin (m + 1)) : Int := ((val N y.val : Nat) : Int) - ((val N x.val : Nat) : Int)
theorem ltM (N : List Nat) (x y : Fin (m + 1)) : ltOf (cfM N) x y = decide (val N y.val < val N x.val) := by unfold ltOf cfM; rw [decide_eq_decide]; omega
theorem swoM (N : List Nat) : SWO (ltOf (cfM (m := m) N)) where
  irrefl x := by rw [ltM]; simp
  trans x y z h1 h2 := by rw [ltM, decide_eq_true_eq] at *; omega
  ntrans x y z h1 h2 := by rw [ltM, decide_eq_false_iff_not] at *; omega
def ofM (i : Fin (m + 1)) : Int := ((i.val : Nat) : Int)
def toM (i : Nat) : Fin (m + 1) := Fin.ofNat (m + 1) i
theorem of_toM {i : Nat} (h : i < m + 1) : (toM (m := m) i).val = i := by unfold toM; rw [Fin.val_ofNat]; exact Nat.mod_eq_of_lt h
theorem map_toM {ids : List Nat} (h : ∀ i ∈ ids, i < m + 1) : (ids.map (toM (m := m))).map (fun i => i.val) = ids := by
  rw [List.map_map]
  conv => rhs; rw [← List.map_id ids]
  exact List.map_congr_left fun x hx => of_toM (h x hx)
theorem putRowM (w : World) (g : Nat) (D : List (Fin (m + 1))) : putRow encM w g 0 D.toArray = putRow (Value.int .i64) w g 0 (D.map ofM).toArray := by
  unfold putRow
  congr 1
  funext c
  unfold putCells
  refine congrArg (fun f => c.mapIdx f) ?_
  funext k x
  simp only [List.size_toArray, List.length_map]
  by_cases h : 0 ≤ k ∧ k < 0 + D.length
  · rw [if_pos h, if_pos h]
    have h1 : k < D.length := by omega
    simp [h1, encM, ofM]
  · rw [if_neg h, if_neg h]
theorem sort_mapM (N : List Nat) (l : List (Fin (m + 1))) : (l.mergeSort fun x y => !(ltT (ltOf (cfM N))) y x).map (fun i => i.val) = (l.map fun i => i.val).mergeSort fun x y => decide (leN N x y) := by
  refine List.map_mergeSort fun a _ b _ => ?_
  unfold ltT
  rw [ltM, ltM, Bool.eq_iff_iff]
  unfold leN
  by_cases h1 : val N a.val < val N b.val <;> by_cases h2 : val N b.val < val N a.val <;> by_cases h3 : b.val < a.val <;> simp [h1, h2, h3, Fin.lt_def] <;> omega

set_option maxRecDepth 100000 in
set_option maxHeartbeats 1000000 in
theorem closureM (N : List Nat) (hN : N.length = m + 1) (hv : ∀ x ∈ N, x ≤ 7) (B g c : Nat) (x y : Fin (m + 1)) (W : World)
    (hcB : W.cell? ⟨B, 0, none⟩ = some (.slice (some ⟨g, 0, none⟩) (m + 1) c)) (hcg : ∀ i, i < m + 1 → W.cell? ⟨g, i, none⟩ = some (.int .i64 ((val N i : Nat) : Int))) :
    Calls Try.prog 32 #[encM x, encM y, .pointer (some ⟨B, 0, none⟩)] W fun e w' => e = .returned (.int .i64 (cfM N x y)) ∧ ∃ q, w' = W.drewN q := by
  have hx := x.isLt
  have hy := y.isLt
  have hm : ∀ i, i < m + 1 → val N i ≤ 7 := fun i hi => by
    rw [val_lt (by omega)]; exact hv _ (List.getElem_mem _)
  have cx := hcg x.val hx
  have cy := hcg y.val hy
  have vx := hm _ hx
  have vy := hm _ hy
  unfold encM cfM
  generalize x.val = a at *
  generalize y.val = b at *
  generalize val N a = p at *
  generalize val N b = q at *
  have ha : (a : Int) < ((m + 1 : Nat) : Int) := by omega
  have hb : (b : Int) < ((m + 1 : Nat) : Int) := by omega
  have hw : IntKind.i64.wrap ((q : Int) - (p : Int)) = (q : Int) - (p : Int) := IntWalk.i64_in _ (by omega)
  clear hcg hv hm hN
  generalize m + 1 = n at *
  go_enter Try.func32, Try.ntmps32
  go_wp2_with fail
  go_quiet (fail)
  go_wp2
  go_ret
  exact ⟨rfl, _, rfl⟩

set_option maxHeartbeats 1000000 in
theorem insM (N : List Nat) (hN : N.length = m + 1) (hv : ∀ x ∈ N, x ≤ 7) (B g c : Nat) (w : World)
    (hcB : w.cell? ⟨B, 0, none⟩ = some (.slice (some ⟨g, 0, none⟩) (m + 1) c)) (hcg : ∀ i, i < m + 1 → w.cell? ⟨g, i, none⟩ = some (.int .i64 ((val N i : Nat) : Int)))
    (base k c2 : Nat) (a : Option Addr) (ids : List Nat) (ho : w.ownsRow base 3 1 (.slice a k c2) k (nats ids)) (hids : ∀ i ∈ ids, i < m + 1) (hrise : ids.Pairwise (· < ·)) (hk : k ≤ 100)
    (hne : ∀ h, (Value.slice a k c2).ownBlock = some h → B ≠ h ∧ g ≠ h) :
    Calls Try.prog 48 #[.slice a k c2, .int .i64 0, .int .i64 (k : Int), .func (.func 32) #[] #[.pointer (some ⟨B, 0, none⟩)]] w fun e w' => e = .returned (.tuple #[]) ∧ w'.ownsRow base 3 1 (.slice a k c2) k (nats (ids.mergeSort fun x y => decide (leN N x y))) ∧ w.grownBy w' (Value.slice a k c2).ownBlock := by
  have eg : ∀ args w, (callFunc 32 args).run Try.prog w = .ok (.enter 32 args) w := enters_of Try.func32 (by kernel_rfl) rfl
  have hxl : ids.length = k := by have := ho.1; simpa [nats] using this
  rcases id ho.2 with ⟨e, _⟩ | ⟨h, cap, cur, e, hb, hg, hnc, hcm, hcs, htk⟩
  · cases e
    have e0 : ids = [] := List.eq_nil_of_length_eq_zero hxl
    subst e0
    have hcon := AnyF.insertionSortCmpFunc_none (P := Try.prog) (ρ := insF_ren) { insF with } none 0 (.func (.func 32) #[] #[.pointer (some ⟨B, 0, none⟩)]) w
    refine Calls.mono hcon ?_
    rintro e w' ⟨rfl, rfl⟩
    exact ⟨rfl, by simpa using ho, World.grownBy.refl _ _⟩
  · cases e
    rw [Nat.mul_one] at htk
    obtain ⟨hBh, hgh⟩ := hne h rfl
    have hni : nats ids = (ids.map fun (i : Nat) => (i : Int)).map (Value.int .i64) := by simp [nats, List.map_map]
    have hil : (ids.map fun (i : Nat) => (i : Int)).length = k := by simp [hxl]
    have hH0 : Holds (Value.int .i64) w h 0 (ids.map fun (i : Nat) => (i : Int)).toArray := holds_of_blockI hg (by rw [hil, ← hni]; exact htk)
    have hH : Holds encM w h 0 (ids.map (toM (m := m))).toArray := by
      intro j hj
      have hj' : j < ids.length := by simpa using hj
      have := hH0 j (by simpa using hj')
      refine ⟨?_, this.2⟩
      rw [this.1]
      have e1 := of_toM (hids _ (List.getElem_mem hj'))
      simp [hj', encM, e1]
    have hcmp : CmpReads Try.prog 32 #[.pointer (some ⟨B, 0, none⟩)] encM (cfM (m := m) N) h 0 (ids.map (toM (m := m))).toArray.size w := by
      intro q os dk _ x y
      have hgW : w.grownBy (sortWorld encM w h 0 q dk os) (some h) := grownBy_row dk
      exact closureM N hN hv B g c x y _ (hgW.cell hcB (fun e => hBh (by injection e))) (fun i hi => hgW.cell (hcg i hi) (fun e => hgh (by injection e)))
    have hcon := Any.insertionSortCmpFunc_one insF encM (fun _ => rfl) (cfM N) 32 #[.pointer (some ⟨B, 0, none⟩)] h 0 c2 0 (ids.map (toM (m := m))).toArray.size (ids.map (toM (m := m))).toArray w eg hcmp hH (Nat.zero_le _) (Nat.le_refl _) (by simp; omega)
    have hst := sort_stable (m := m) (ltOf (cfM N)) (swoM N) (ids.map (toM (m := m))).toArray (fun p q hpq hq => by
      have hq' : q < ids.length := by simpa using hq
      have := List.pairwise_iff_getElem.1 hrise p q (by omega) hq' hpq
      have e1 := of_toM (m := m) (hids _ (List.getElem_mem (show p < ids.length by omega)))
      have e2 := of_toM (m := m) (hids _ (List.getElem_mem hq'))
      have hp' : p < ids.length := by omega
      simp only [getElem!_pos, List.size_toArray, List.length_map, hp', hq', List.getElem_toArray, List.getElem_map]
      show (toM (m := m) ids[p]).val < (toM (m := m) ids[q]).val
      rw [e1, e2]; exact this)
    have hsz : (ids.map (toM (m := m))).toArray.size = k := by simp [hxl]
    rw [hsz] at hcon hst
    refine Calls.mono hcon ?_
    rintro e w' ⟨rfl, q, rfl⟩
    have e3 : insertionSort (ltOf (cfM N)) (ids.map (toM (m := m))).toArray 0 k = ((ids.map (toM (m := m))).mergeSort fun x y => !(ltT (ltOf (cfM N))) y x).toArray := by
      apply Array.toList_inj.1
      rw [hst]
    have e4 : ((ids.map (toM (m := m))).mergeSort fun x y => !(ltT (ltOf (cfM N))) y x).map ofM = (ids.mergeSort fun x y => decide (leN N x y)).map fun (i : Nat) => (i : Int) := by
      have := sort_mapM N (ids.map (toM (m := m)))
      rw [map_toM hids] at this
      rw [← this, List.map_map]
      rfl
    rw [e3, ← sortWorld_none]
    have e1 : sortWorld encM w h 0 q ((ids.map (toM (m := m))).mergeSort fun x y => !(ltT (ltOf (cfM N))) y x).toArray #[] = grow (putRow (Value.int .i64) (Sort.ahead w q) h 0 ((ids.mergeSort fun x y => decide (leN N x y)).map fun (i : Nat) => (i : Int)).toArray) #[] := by
      unfold sortWorld
      rw [putRowM, e4]
    rw [e1]
    refine ⟨rfl, ?_, grownBy_sortedI _⟩
    have hlen : ((ids.mergeSort fun x y => decide (leN N x y)).map fun (i : Nat) => (i : Int)).length = (ids.map fun (i : Nat) => (i : Int)).length := by simp
    have := ownsRow_sortedI (n := q) (os := #[]) hlen hb hg (by rw [hil]; exact hnc) hcm hcs
    rw [hil] at this
    have hni2 : nats (ids.mergeSort fun x y => decide (leN N x y)) = ((ids.mergeSort fun x y => decide (leN N x y)).map fun (i : Nat) => (i : Int)).map (Value.int .i64) := by simp [nats, List.map_map]
    rw [hni2]
    exact this
end

set_option maxRecDepth 100000 in
set_option maxHeartbeats 1000000 in
theorem stable_ok {m : Nat} (N : List Nat) (hN : N.length = m + 1) (hv : ∀ x ∈ N, x ≤ 7) (B g c : Nat) (w : World)
    (hcB : w.cell? ⟨B, 0, none⟩ = some (.slice (some ⟨g, 0, none⟩) (m + 1) c)) (hcg : ∀ i, i < m + 1 → w.cell? ⟨g, i, none⟩ = some (.int .i64 ((val N i : Nat) : Int)))
    (base k c2 : Nat) (a : Option Addr) (ids : List Nat) (ho : w.ownsRow base 3 1 (.slice a k c2) k (nats ids)) (hids : ∀ i ∈ ids, i < m + 1) (hrise : ids.Pairwise (· < ·)) (hk : k ≤ 8)
    (hne : ∀ h, (Value.slice a k c2).ownBlock = some h → B ≠ h ∧ g ≠ h) :
    Calls Try.prog 31 #[.slice a k c2, .func (.func 32) #[] #[.pointer (some ⟨B, 0, none⟩)]] w fun e w' => e = .returned (.tuple #[]) ∧ w'.ownsRow base 3 1 (.slice a k c2) k (nats (ids.mergeSort fun x y => decide (leN N x y))) ∧ w.grownBy w' (Value.slice a k c2).ownBlock := by
  have KI := insM N hN hv B g c w hcB hcg base k c2 a ids ho hids hrise (by omega) hne
  generalize nats (ids.mergeSort fun x y => decide (leN N x y)) = R at *
  have d1 : decide ((20 : Int) ≤ (k : Int)) = false := by simp; omega
  have d2 : decide ((20 : Int) < (k : Int)) = false := by simp; omega
  have i1 : ¬ (20 : Int) ≤ (k : Int) := by omega
  have i2 : ¬ (20 : Int) < (k : Int) := by omega
  clear ho hids hrise hne hcB hcg hv hN
  have K1 : Calls Try.prog 44 #[.slice a k c2, .int .i64 (k : Int), .func (.func 32) #[] #[.pointer (some ⟨B, 0, none⟩)]] w fun e w' => e = .returned (.tuple #[]) ∧ w'.ownsRow base 3 1 (.slice a k c2) k R ∧ w.grownBy w' (Value.slice a k c2).ownBlock := by
    go_enter Try.func44, Try.ntmps44
    go_wp2_with fail
    refine wp_loop_rounds 1 ?_
    rw [rounds_succ]
    go_wp2_with fail
    refine KI.mono ?_
    rintro e w' ⟨rfl, h1, h2⟩
    go_wp2_with fail
    refine wp_loop_rounds 1 ?_
    rw [rounds_succ]
    go_wp2
    go_end0
    exact ⟨rfl, h1, h2⟩
  go_enter Try.func31, Try.ntmps31
  go_wp2_with fail
  refine K1.mono ?_
  rintro e w' ⟨rfl, h1, h2⟩
  go_wp2
  go_end0
  exact ⟨rfl, h1, h2⟩
end Go.Proofs.Ytmkdkjdbmnocoaa
