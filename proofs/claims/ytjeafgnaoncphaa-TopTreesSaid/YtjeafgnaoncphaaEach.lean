/- A range over the points of a set: the iterator's contract. Conditions: the set is small. -/
import Derived.Test.YtjeafgnaoncphaaPlainB
import Derived.Test.YtjeafgnaoncphaaCore
import Derived.RangeFuncNested
import Derived.RangeFuncBound
import Derived.RangeFuncCalls
import Derived.RangeFuncLeaves
import Derived.Shelf.Abstract
import Derived.Shelf.RegionOpen
import Derived.OwnWalkIn
import Derived.TacticsInMore
import Derived.LoopNIn
import Derived.LoopIn
namespace Go.Proofs.Ytjeafgnaoncphaa
open Go.RowKit Go.Shelf Gr
attribute [local go_sem] Oper.semAt_some

/-- block B is the box of the set s -/
def SetBox (W : World) (B s : Nat) : Prop := W.heap[B]? = some (.cells #[.int .u64 (s : Int)] 65 (0, 0))
/-- what a round keeps: block B -/
def KeepsBlock (B : Nat) (W W' : World) : Prop := W'.heap[B]? = W.heap[B]?

set_option maxRecDepth 100000 in
set_option maxHeartbeats 1000000 in
theorem each1_in (n : Nat) (hn : 2 ≤ n) (l B s : Nat) (hs : s < 256) (J Jx : List Pt → World → Prop)
    (hY : ∀ pre x W, s.testBit (x : Pt).val = true → J pre W → pre.length < 8 → YieldAt Fence.wide (n - 1) Try.prog l #[.int .i64 ((x : Pt).val : Int)] W fun e W' =>
      (e = .returned (.bool true) ∧ J (pre ++ [x]) W' ∧ KeepsBlock B W W') ∨ (e = .returned (.bool false) ∧ Jx (pre ++ [x]) W'))
    (W : World) (hB : SetBox W B s) (h0 : J [] W) :
    CallsIn Fence.wide n Try.prog 67 #[.func (.yield l) #[] #[], .pointer (some ⟨B, 0, none⟩)] W fun e W' => (∃ v, e = .returned v) ∧
      ((∃ ys, ys = elems s ∧ J ys W') ∨ (∃ pre, pre <+: elems s ∧ Jx pre W')) := by
  refine callsIn_of_wp Try.func67 rfl trivial ?_ rfl
  simp only [Try.ntmps67, List.size_toArray, List.length_cons, List.length_nil, Nat.reduceAdd, Nat.reduceSub, Array.replicate_succ, Array.replicate_zero, List.push_toArray, List.append_toArray, List.nil_append, List.cons_append]
  gi_wp2
  gi_loopw [3] (fun p wr => ∃ k : Nat, k ≤ 8 ∧ p = .int .i64 k ∧ SetBox wr B s ∧ J (upto s k) wr) (fun p _ => 8 - (intOf p).toNat)
  case atStart => exact ⟨0, by omega, rfl, hB, by rw [upto_zero]; exact h0⟩
  case round =>
    obtain ⟨k, hk, rfl, hbox, hJ⟩ := hrel
    have hcell := cell_of_one hbox
    by_cases hz : s / 2 ^ k = 0
    · have hb1 : ((s : Int) / 2 ^ k != 0) = false := by
        have : ((s / 2 ^ k : Nat) : Int) = (s : Int) / 2 ^ k := by simp
        rw [← this, hz]; simp
      have HU := Lib.hid (upto_all s k (fun i h1 _ => high_zero hz i h1))
      clear hz
      gi_wp2
      go_end0
      exact ⟨⟨_, rfl⟩, .inl ⟨_, HU.out, hJ⟩⟩
    · have hk8 : k < 8 := by
        rcases Nat.lt_or_ge k 8 with h | h
        · exact h
        · exfalso; apply hz; have : k = 8 := by omega
          subst this; exact Nat.div_eq_of_lt (by omega)
      have hb1 : ((s : Int) / 2 ^ k != 0) = true := by
        have : ((s / 2 ^ k : Nat) : Int) = (s : Int) / 2 ^ k := by simp
        rw [← this]; simp; omega
      clear hz
      cases hbit : s.testBit k with
      | false =>
        have HU := Lib.hid (upto_skip s k hbit)
        have HB := Lib.hid hbit
        clear hbit
        gi_wp2_with (refine ⟨trivial, fun _ => by omega, ?_⟩; gi_at_call 45; refine (callsIn_wide.2 (has_any s k _ (by omega) (by omega))).mono ?_; rintro e w' ⟨rfl, rfl⟩; rw [HB.out])
        refine ⟨fun _ h => (by cases h), ?_⟩
        gi_wp2
        go_roundw
        case rel => exact ⟨k + 1, by omega, by go_num, hbox, by rw [HU.out]; exact hJ⟩
        case measure => simp [intOf]; omega
      | true =>
        have HU := Lib.hid (upto_take s k hk8 hbit)
        have HB := Lib.hid hbit
        have hlen := upto_le s k (by omega)
        clear hbit
        obtain ⟨fn, tmps, assign, body, hy, hR⟩ := hY (upto s k) ⟨k, hk8⟩ wr HB.out hJ (by omega)
        dsimp only at hy
        gi_wp2_with (refine ⟨trivial, fun _ => by omega, ?_⟩; gi_at_call 45; refine (callsIn_wide.2 (has_any s k _ (by omega) (by omega))).mono ?_; rintro e w' ⟨rfl, rfl⟩; rw [HB.out])
        refine ⟨fun _ => by omega, ?_⟩
        refine hR.mono ?_
        rintro e W' (⟨rfl, hJ', hk'⟩ | ⟨rfl, hJx'⟩)
        · have hbox' : SetBox W' B s := hk'.trans hbox
          gi_wp2
          go_roundw
          case rel => exact ⟨k + 1, by omega, by go_num, hbox', by rw [HU.out]; exact hJ'⟩
          case measure => simp [intOf]; omega
        · gi_wp2
          refine bodyPost_ret (results_none rfl _ _ _) rfl ?_
          obtain ⟨r, hr⟩ := upto_prefix s (k + 1)
          exact ⟨⟨_, rfl⟩, .inr ⟨upto s (k + 1), ⟨r, hr.symm⟩, by rw [HU.out]; exact hJx'⟩⟩

/-- the iterator's contract, for the laws of a range over a function -/
theorem each_stops (n : Nat) (hn : 2 ≤ n) (B s : Nat) (hs : s < 256) (w : World) (hb : SetBox w B s) (hlt : B < w.heap.size) :
    SeqStopsK Fence.wide n Try.prog 67 #[.pointer (some ⟨B, 0, none⟩)] (fun (x : Pt) => #[.int .i64 ((x.val : Nat) : Int)]) (KeepsBlock B) (fun xs => xs = elems s) (fun pre => pre <+: elems s) 8 w := by
  intro l J Jx W hW _ _ hY h0
  have hB : SetBox W B s := (hW.block B hlt).trans hb
  exact each1_in n hn l B s hs J Jx (fun pre x W _ => hY pre x W) W hB h0

/-- the points of s -/
abbrev PtIn (s : Nat) := { x : Pt // s.testBit x.val = true }

/-- the same, where a round is told that its point is in the set -/
theorem each_stopsIn (n : Nat) (hn : 2 ≤ n) (B s : Nat) (hs : s < 256) (w : World) (hb : SetBox w B s) (hlt : B < w.heap.size) :
    SeqStopsK Fence.wide n Try.prog 67 #[.pointer (some ⟨B, 0, none⟩)] (fun (x : PtIn s) => #[.int .i64 ((x.1.val : Nat) : Int)]) (KeepsBlock B) (fun xs => xs.map (·.1) = elems s) (fun pre => pre.map (·.1) <+: elems s) 8 w := by
  intro l J Jx W hW _ _ hY h0
  have hB : SetBox W B s := (hW.block B hlt).trans hb
  refine (each1_in n hn l B s hs (fun ys W => ∃ xs : List (PtIn s), xs.map (·.1) = ys ∧ J xs W) (fun ys W => ∃ xs : List (PtIn s), xs.map (·.1) = ys ∧ Jx xs W) ?_ W hB ⟨[], rfl, h0⟩).mono ?_
  · rintro pre x W1 hx ⟨xs, rfl, hJ⟩ hlen
    obtain ⟨fn, tmps, assign, body, hy, hR⟩ := hY xs ⟨x, hx⟩ W1 hJ (by simpa using hlen)
    refine ⟨fn, tmps, assign, body, hy, hR.mono ?_⟩
    rintro e W' (⟨rfl, h1, h2⟩ | ⟨rfl, h1⟩)
    · exact .inl ⟨rfl, ⟨xs ++ [⟨x, hx⟩], by simp, h1⟩, h2⟩
    · exact .inr ⟨rfl, xs ++ [⟨x, hx⟩], by simp, h1⟩
  · rintro e W' ⟨hv, ⟨ys, rfl, xs, h1, h2⟩ | ⟨pre, hp, xs, h1, h2⟩⟩
    · exact ⟨hv, .inl ⟨xs, h1, h2⟩⟩
    · subst h1; exact ⟨hv, .inr ⟨xs, hp, h2⟩⟩

theorem keepsBlock_t {B : Nat} {X Y Z : World} (h : KeepsBlock B X Y) (k : KeepsBlock B Y Z) : KeepsBlock B X Z := Eq.trans k h
theorem keepsBlock_b {w : World} {B : Nat} (hlt : B < w.heap.size) (W : World) (l : Nat) (o o' : Obj) (hl : w.heap.size ≤ l) (_ : W.heap[l]? = some o) (_ : o.isCells = false) (_ : o.isWalk = false) : KeepsBlock B W (W.putObj l o') :=
  World.putObj_heap_other (by omega)

end Go.Proofs.Ytjeafgnaoncphaa
