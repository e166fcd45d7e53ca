/- LitA: what several texts say, in one: Lit, LinesEq, Other, GraphFact. Conditions: in each statement. -/
import Derived.Test.YtjeafgnaoncphaaCoreCheck
import Derived.Test.YtjeafgnaoncphaaBack

namespace Go.Proofs.Ytjeafgnaoncphaa
open Go.RowKit

theorem ints_lit {w : World} (xs : List Int) {cs : Array Value} {e : TypeId} {g n : Nat} (hg : g = w.heap.size) (hn : n = xs.length) (hc : cs = (ints xs).toArray) (hm : xs.length ≤ maxLen) :
    Rd (w.alloc (.cells cs e)) (.slice (some ⟨g, 0, none⟩) n n) xs.length (ints xs) := by
  subst hg hn
  exact rd_lit (ints xs) hc hm (fun h => List.eq_nil_of_length_eq_zero (by rw [ints_length', h]))

theorem vals_lit {w : World} (xs : List Value) {cs : Array Value} {e : TypeId} {g n : Nat} (hg : g = w.heap.size) (hn : n = xs.length) (hc : cs = xs.toArray) (hm : xs.length ≤ maxLen) :
    Rd (w.alloc (.cells cs e)) (.slice (some ⟨g, 0, none⟩) n n) n xs := by
  subst hg hn
  exact rd_lit xs hc hm (fun h => List.eq_nil_of_length_eq_zero h)

end Go.Proofs.Ytjeafgnaoncphaa


namespace Go.Proofs.Ytjeafgnaoncphaa
open Go.RowKit Gr

theorem lnNe_at {xs ys : List Ln} {k : Nat} (h1 : k < xs.length) (h2 : k < ys.length) (h : xs[k] ≠ ys[k]) : xs ≠ ys := by
  intro e; subst e; exact h rfl

set_option maxRecDepth 100000 in
set_option maxHeartbeats 1000000 in
theorem lines_any (v1 v2 : Value) (xs ys : List Ln) (w : World) (hr1 : LinesRd w v1 xs) (hr2 : LinesRd w v2 ys) :
    Calls Try.prog 31 #[v1, v2] w fun e w' => e = .returned (.bool (decide (xs = ys))) ∧ ∃ q, w' = w.drewN q := by
  obtain ⟨a1, c1, rfl, hnc1, hcm1, h01, hcell1⟩ := hr1
  obtain ⟨a2, c2, rfl, hnc2, hcm2, h02, hcell2⟩ := hr2
  unfold maxLen at hcm1 hcm2
  clear h01 h02
  by_cases hl : xs.length = ys.length
  · have hb : ((xs.length : Int) == (ys.length : Int)) = true := by simp; omega
    have hb' : ((xs.length : Int) != (ys.length : Int)) = false := by simp; omega
    have HL := Lib.hid hl
    clear hl
    go_enter Try.func31, Try.ntmps31
    go_wp2
    go_loopw [5] (fun i wr => ∃ k q : Nat, k ≤ xs.length ∧ i = .int .i64 k ∧ wr = w.drewN q ∧ Hid (∀ j (h1 : j < xs.length) (h2 : j < ys.length), j < k → xs[j] = ys[j])) (fun i _ => xs.length - (intOf i).toNat)
    case atStart => exact ⟨0, 0, by omega, rfl, rfl, fun j _ _ h => by omega⟩
    case round =>
      obtain ⟨k, q, hk, rfl, rfl, HE⟩ := hrel
      by_cases hlt : k < xs.length
      · have hlt2 : k < ys.length := by rw [← HL.out]; exact hlt
        obtain ⟨b1, off1, rfl, hb1, hc1⟩ := hcell1 (by omega)
        obtain ⟨b2, off2, rfl, hb2, hc2⟩ := hcell2 (by omega)
        obtain ⟨g1, g2⟩ := lines_at hc1 hlt
        obtain ⟨g3, g4⟩ := lines_at hc2 hlt2
        have hi1 : (k : Int) < (xs.length : Int) := by omega
        have hi2 : (k : Int) < (ys.length : Int) := by omega
        clear hc1 hc2
        have HX : Hid (decide (xs[k] = ys[k]) = ((xs[k]).1 == (ys[k]).1 && (xs[k]).2 == (ys[k]).2)) := by
          show _ = _
          rw [Bool.eq_iff_iff]; simp [Prod.ext_iff]
        have HS : Hid (xs[k] = ys[k] → ∀ j (h1 : j < xs.length) (h2 : j < ys.length), j < k + 1 → xs[j] = ys[j]) := by
          show _ → _
          intro he j h1 h2 hj
          by_cases e : j = k
          · subst e; exact he
          · exact HE.out j h1 h2 (by omega)
        have HN : Hid (xs[k] ≠ ys[k] → xs ≠ ys) := by show _ → _; exact lnNe_at hlt hlt2
        generalize xs[k] = x at *
        generalize ys[k] = y at *
        obtain ⟨x1, x2⟩ := x
        obtain ⟨y1, y2⟩ := y
        simp only at g1 g2 g3 g4
        by_cases hx : x1 = y1 ∧ x2 = y2
        · obtain ⟨rfl, rfl⟩ := hx
          go_wp2
          go_quiet (fail)
          go_wp2
          go_roundw
          case rel => exact ⟨k + 1, q + _, by omega, by go_num, rfl, HS.out (by first | trivial | rfl)⟩
          case measure => simp [intOf]; omega
        · by_cases h1 : x1 = y1
          · subst h1
            have hbx : (x2 == y2) = false := by simp; exact fun h2 => hx ⟨rfl, h2⟩
            have HF := Lib.hid (HN.out (by simpa [Prod.ext_iff] using hx))
            clear hx
            go_wp2
            go_quiet (fail)
            go_wp2
            go_ret
            exact ⟨ret_bool (by rw [decide_eq_false HF.out]), _, drewN_add _ _ _⟩
          · have hbx : (x1 == y1) = false := by simp [h1]
            have HF := Lib.hid (HN.out (by simpa [Prod.ext_iff] using hx))
            clear hx
            go_wp2
            go_quiet (fail)
            go_wp2
            go_ret
            exact ⟨ret_bool (by rw [decide_eq_false HF.out]), _, drewN_add _ _ _⟩
      · go_wp2
        go_ret
        exact ⟨ret_bool (by rw [decide_eq_true (List.ext_getElem HL.out fun j h1 h2 => HE.out j h1 h2 (by omega))]), _, rfl⟩
  · have hb : ((xs.length : Int) == (ys.length : Int)) = false := by simp; omega
    have hb' : ((xs.length : Int) != (ys.length : Int)) = true := by simp; omega
    have HL := Lib.hid hl
    clear hl
    go_enter Try.func31, Try.ntmps31
    go_wp2
    go_ret
    exact ⟨ret_bool (by rw [decide_eq_false (fun e => HL.out (by rw [e]))]), 0, rfl⟩

theorem lines_b (v1 v2 : Value) (xs ys : List Ln) (w : World) (hr1 : LinesRd w v1 xs) (hr2 : LinesRd w v2 ys) :
    Calls Try.prog 31 #[v1, v2] w fun e w' => e = .returned (.bool (decide (xs = ys))) ∧ Below w.heap.size w w' :=
  (lines_any v1 v2 xs ys w hr1 hr2).mono fun _ _ ⟨he, _, hq⟩ => ⟨he, hq ▸ below_drewN' _ _⟩

end Go.Proofs.Ytjeafgnaoncphaa


namespace Go.Proofs.Ytjeafgnaoncphaa
namespace Gr
/-- the lines from a to the points from b on (below b + k) that are not there -/
def otherRow (s a : Nat) (b k : Nat) : List Ln := ((List.range k).filter fun j => !s.testBit (b + j)).map fun j => ((a : Int), ((b + j : Nat) : Int))
/-- all lines that are not there, of the points below k -/
def otherUpto (O : List Nat) (n k : Nat) : List Ln := (List.range k).flatMap fun a => otherRow (O[a]?.getD 0) a (a + 1) (n - (a + 1))
def otherL (n : Nat) (ls : List Ln) : List Ln := otherUpto (beside n ls) n n

theorem otherRow_succ (s a b k : Nat) : otherRow s a b (k + 1) = otherRow s a b k ++ (if s.testBit (b + k) then [] else [((a : Int), ((b + k : Nat) : Int))]) := by
  unfold otherRow
  rw [List.range_succ, List.filter_append, List.map_append]
  congr 1
  cases h : s.testBit (b + k) <;> simp [h]
theorem otherUpto_succ (O : List Nat) (n k : Nat) : otherUpto O n (k + 1) = otherUpto O n k ++ otherRow (O[k]?.getD 0) k (k + 1) (n - (k + 1)) := by
  unfold otherUpto
  rw [List.range_succ, List.flatMap_append]
  simp
theorem otherRow_length (s a b k : Nat) : (otherRow s a b k).length ≤ k := by
  unfold otherRow
  rw [List.length_map]
  refine Nat.le_trans (List.length_filter_le _ _) ?_
  simp
theorem otherUpto_length (O : List Nat) (n k : Nat) : (otherUpto O n k).length ≤ k * n := by
  induction k with
  | zero => simp [otherUpto]
  | succ k ih =>
    rw [otherUpto_succ, List.length_append]
    have := otherRow_length (O[k]?.getD 0) k (k + 1) (n - (k + 1))
    have e : (k + 1) * n = k * n + n := Nat.succ_mul k n
    omega
end Gr
open Go.RowKit Gr

/-- what graph.Other gives where points and lines are good -/
def OtherRet (w : World) (n : Nat) (ls : List Ln) (e : Ending) (w' : World) : Prop :=
  Below w.heap.size w w' ∧ ((24 < (otherL n ls).length ∧ e = .returned (.tuple #[.slice none 0 0, errV 4])) ∨
    ((otherL n ls).length ≤ 24 ∧ ∃ u, e = .returned (.tuple #[u, .nilIface]) ∧ w'.ownsRow w.heap.size 33 2 u (otherL n ls).length (cellsOf (otherL n ls))))

end Go.Proofs.Ytjeafgnaoncphaa


namespace Go.Proofs.Ytjeafgnaoncphaa
open Go.RowKit Gr

theorem lines_lit {w : World} (ls : List Ln) {cs : Array Value} {e : TypeId} {g n : Nat} (hg : g = w.heap.size) (hn : n = ls.length) (hc : cs = (cellsOf ls).toArray) (hm : ls.length ≤ maxLen) :
    LinesRd (w.alloc (.cells cs e)) (.slice (some ⟨g, 0, none⟩) n n) ls := by
  subst hg hn
  exact rd_lit (cellsOf ls) hc hm (fun h => List.eq_nil_of_length_eq_zero (by rw [cellsOf_length, h]))
theorem fact_rows : besideRows 3 [(2, 0)] = [[2], [], [0]] := by decide +kernel
theorem fact_other : otherL 3 [(2, 0)] = [(0, 1), (1, 2)] := by decide +kernel
theorem fact_good : GoodG 3 [(2, 0)] := by
  refine ⟨by decide, by decide, by decide, fun l hl => ?_⟩
  rw [List.mem_singleton] at hl
  subst hl
  decide

end Go.Proofs.Ytjeafgnaoncphaa
