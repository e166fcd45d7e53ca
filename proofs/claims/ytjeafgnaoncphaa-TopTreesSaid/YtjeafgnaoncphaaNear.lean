/- What R.Near returns: the walk. Conditions: in each statement. -/
import Derived.Test.YtjeafgnaoncphaaGraph
import Derived.Test.YtjeafgnaoncphaaBesideR
namespace Go.Proofs.Ytjeafgnaoncphaa
open Go.RowKit Gr
namespace Gr
/-- the points beside a below k, rising -/
def nearU (ls : List Ln) (a : Int) (k : Nat) : List Int := ((List.range k).filter fun (b : Nat) => near ls a b).map fun (b : Nat) => (b : Int)
theorem nearU_succ (ls : List Ln) (a : Int) (k : Nat) : nearU ls a (k + 1) = nearU ls a k ++ (if near ls a k = true then [(k : Int)] else []) := by
  unfold nearU
  rw [List.range_succ, List.filter_append, List.map_append]
  congr 1
  cases h : near ls a (k : Int) <;> simp [h]
theorem nearU_length (ls : List Ln) (a : Int) (k : Nat) : (nearU ls a k).length ≤ k := by
  unfold nearU; rw [List.length_map]; refine Nat.le_trans (List.length_filter_le _ _) ?_; simp
theorem near_pt {n : Nat} {ls : List Ln} (hg : GoodG n ls) (a : Nat) (ha : a < n) : nearU ls a n = ptInts ((beside n ls)[a]'(by rw [beside_length]; exact ha)) := by
  have hn8 := hg.2.1
  have hb : ∀ b : Nat, near ls a b = ((beside n ls)[a]'(by rw [beside_length]; exact ha)).testBit b := fun b => by
    rw [Bool.eq_iff_iff, ← adj_near hg]
    unfold adjS
    rw [List.getElem?_eq_getElem (by rw [beside_length]; exact ha)]; rfl
  have hlt : ∀ b : Nat, ((beside n ls)[a]'(by rw [beside_length]; exact ha)).testBit b = true → b < n := fun b h => by
    rw [← hb] at h; have := near_in hg h; omega
  generalize (beside n ls)[a]'(by rw [beside_length]; exact ha) = s at *
  have e1 : ptInts s = ((List.range 8).filter fun b => s.testBit b).map fun (b : Nat) => (b : Int) := by
    unfold ptInts elems
    have : List.range 8 = (List.finRange 8).map (·.val) := by decide
    rw [this, List.filter_map, List.map_map]
    rfl
  rw [e1]
  unfold nearU
  congr 1
  have e2 : List.range 8 = List.range n ++ (List.range (8 - n)).map (n + ·) := by
    conv => lhs; rw [show 8 = n + (8 - n) from by omega, List.range_add]
  rw [e2, List.filter_append]
  have e3 : ((List.range (8 - n)).map (n + ·)).filter (fun b => s.testBit b) = [] := by
    rw [List.filter_eq_nil_iff]
    intro b hb' hbt
    obtain ⟨j, _, rfl⟩ := List.mem_map.1 hb'
    have := hlt _ hbt; omega
  rw [e3, List.append_nil]
  apply List.filter_congr
  intro b _
  exact hb b
end Gr

set_option maxRecDepth 100000 in
set_option maxHeartbeats 1000000 in
theorem refNear_any (n : Nat) (v : Value) (ls : List Ln) (a : Int) (w : World) (hr : LinesRd w v ls) (hn : n ≤ 8) :
    Calls Try.prog 13 #[.int .i64 n, v, .int .i64 a] w fun e w' => ∃ ad c, e = .returned (.slice ad (nearU ls a n).length c) ∧ w'.ownsRow w.heap.size 3 1 (.slice ad (nearU ls a n).length c) (nearU ls a n).length (ints (nearU ls a n)) ∧ Below w.heap.size w w' := by
  obtain ⟨i0, hi, hz0, hz1, hz2⟩ := info_parts info_int
  go_enter Try.func13, Try.ntmps13
  go_wp2
  go_loopw [7, 8] (fun o i wr => ∃ k : Nat, k ≤ n ∧ i = .int .i64 k ∧ wr.ownsRow w.heap.size 3 1 o (nearU ls a k).length (ints (nearU ls a k)) ∧ Below w.heap.size w wr) (fun _ i _ => n - (intOf i).toNat)
  case atStart => exact ⟨0, by omega, rfl, World.ownsRow_nil _ _ _ _, Below.refl _ _⟩
  case round =>
    obtain ⟨k, hk, rfl, ho, hbr⟩ := hrel
    by_cases hlt : k < n
    · have hki : (k : Int) < (n : Int) := by omega
      have hbs := hbr.size
      have hnl := nearU_length ls a k
      have HS := Lib.hid (nearU_succ ls a k)
      cases hnr : near ls a k with
      | true =>
        have HN := Lib.hid hnr
        clear hnr
        go_wp2_with (first
          | (go_at_call 17; refine (refBeside_any _ ls a k _ (hr.later hbr)).mono ?_; rintro e w4 ⟨rfl, rfl⟩; rw [HN.out])
          | (at_builtin; go_must (refine wpl_app _ _ _ (AppTo.refl ho) rfl rfl Try.underlying28 hi hz0 hz1 hz2 rfl (by decide) rfl rfl rfl (by simp [Value.oneCell']) (by decide) (by omega) hbs ?_); intro v3 w3 hA3 hne3 hst3))
        go_roundw
        case rel => exact ⟨k + 1, by omega, by go_num, by rw [HS.out, if_pos HN.out]; simpa using hA3.own, hbr.trans hst3⟩
        case measure => simp [intOf]; omega
      | false =>
        have HN := Lib.hid hnr
        clear hnr
        go_wp2_with (go_at_call 17; refine (refBeside_any _ ls a k _ (hr.later hbr)).mono ?_; rintro e w4 ⟨rfl, rfl⟩; rw [HN.out])
        go_roundw
        case rel => exact ⟨k + 1, by omega, by go_num, by rw [HS.out, if_neg (by rw [HN.out]; simp), List.append_nil]; exact ho, hbr⟩
        case measure => simp [intOf]; omega
    · have hke : k = n := by omega
      subst hke
      obtain ⟨ad, c, rfl⟩ := owns_slice ho
      go_wp2
      go_ret
      exact ⟨_, _, rfl, ho, hbr⟩

end Go.Proofs.Ytjeafgnaoncphaa
