/- What tree.Check returns: the walk. Conditions: in each statement. -/
import Derived.Test.YtjeafgnaoncphaaReach
import Derived.Test.YtjeafgnaoncphaaPlainA
namespace Go.Proofs.Ytjeafgnaoncphaa
open Go.RowKit Gr

namespace Gr
/-- one line less than points, and all hang together -/
def IsTreeG (n : Nat) (ls : List Ln) : Prop := ls.length + 1 = n ∧ ∀ v, v < n → Conn (beside n ls) 0 v
theorem reach_connT {O : List Nat} {n f s : Nat} (hO : Bounded n O) (h : IsReach O (2 ^ n - 1) f s) (v : Nat) : s.testBit v = true ↔ Conn O f v := by
  constructor
  · intro hv
    exact h.least (fun v => Conn O f v) (Conn.refl _ _) (fun u v hu huv _ => Conn.step hu huv) v hv
  · intro hv
    exact hv (fun v => s.testBit v = true) h.src (fun u v hu huv => h.shut u v hu huv (by rw [Nat.testBit_two_pow_sub_one]; simpa using (hO u v huv).2))
theorem full_conn {O : List Nat} {n f s : Nat} (hO : Bounded n O) (hf : f < n) (h : IsReach O (2 ^ n - 1) f s) : s = 2 ^ n - 1 ↔ ∀ v, v < n → Conn O f v := by
  constructor
  · rintro rfl v hv
    exact (reach_connT hO h v).1 (by rw [Nat.testBit_two_pow_sub_one]; simpa using hv)
  · intro hc
    refine Nat.eq_of_testBit_eq fun v => ?_
    rw [Nat.testBit_two_pow_sub_one, Bool.eq_iff_iff, reach_connT hO h v, decide_eq_true_eq]
    exact ⟨fun k => Conn.in_ hO k hf, hc v⟩
end Gr

set_option maxRecDepth 100000 in
set_option maxHeartbeats 1000000 in
theorem treeCheck_bad (n : Int) (v : Value) (ls : List Ln) (w : World) (hr : LinesRd w v ls) (hc : chk n ls ≠ 0) :
    Calls Try.prog 22 #[.int .i64 n, v] w fun e w' => e = .returned (errV (chk n ls)) ∧ Below w.heap.size w w' := by
  have HC := Lib.hid (errOf_pos hc)
  clear hc
  go_enter Try.func22, Try.ntmps22
  go_wp2_with fail
  refine (graphCheck_any n v ls _ hr).mono ?_
  rintro e w1 ⟨rfl, hB⟩
  rw [HC.out]
  go_wp2
  go_ret
  exact ⟨rfl, hB⟩

set_option maxRecDepth 100000 in
set_option maxHeartbeats 1000000 in
theorem treeCheck_ok (n : Nat) (v : Value) (ls : List Ln) (w : World) (hr : LinesRd w v ls) (hg : GoodG n ls) :
    Calls Try.prog 22 #[.int .i64 n, v] w fun e w' => ((IsTreeG n ls ∧ e = .returned .nilIface) ∨ (¬ IsTreeG n ls ∧ e = .returned (errV 7))) ∧ Below w.heap.size w w' := by
  have HG := Lib.hid hg
  have HC : Hid (errOf (chk n ls) = .nilIface) := by show _ = _; rw [chk_good hg]; rfl
  have hn1 : 1 ≤ n := hg.1
  have hn8 : n ≤ 8 := hg.2.1
  have hl24 := hg.2.2.1
  have hlen : (beside n ls).length = n := beside_length n ls
  have hbl := fun w => below_any n w (by omega)
  have hM8 : 2 ^ n - 1 < 256 := by
    have := Nat.pow_le_pow_right (n := 2) (by omega) hn8
    omega
  have HFC : Hid (∀ s, IsReach (beside n ls) (2 ^ n - 1) 0 s → (s = 2 ^ n - 1 ↔ ∀ v, v < n → Conn (beside n ls) 0 v)) := fun s hs => full_conn (adj_bounded hg) (by omega) hs
  have HT : Hid (IsTreeG n ls ↔ (ls.length + 1 = n ∧ ∀ v, v < n → Conn (beside n ls) 0 v)) := Iff.rfl
  obtain ⟨M, hM⟩ : ∃ M, 2 ^ n - 1 = M := ⟨_, rfl⟩
  rw [hM] at hM8 HFC
  simp only [hM] at hbl
  clear hg hM
  obtain ⟨av, cv, rfl, _⟩ := id hr
  go_enter Try.func22, Try.ntmps22
  go_wp2_with fail
  refine (graphCheck_any n _ ls _ hr).mono ?_
  rintro e w1 ⟨rfl, hB1⟩
  rw [HC.out]
  have wn1 : IntKind.i64.wrap ((n : Int) - 1) = (n : Int) - 1 := IntWalk.i64_in _ (by omega)
  by_cases hll : ls.length + 1 = n
  · have hne : ((ls.length : Int) != (n : Int) - 1) = false := by
      have : (ls.length : Int) = (n : Int) - 1 := by omega
      rw [this]; simp
    have HLL := Lib.hid hll
    clear hll
    go_wp2_with fail
    refine (coreBeside_any n _ ls _ (hr.later hB1) HG.out).mono ?_
    rintro e w2 ⟨g, cap, rfl, hown, hB2, hS⟩
    have hB12 := below_c hB1 hB2
    have HAB := Lib.hid (adj_bounded HG.out)
    have hrb := rd_of_owns hown
    clear hB1 hB2 hown
    generalize beside n ls = O at *
    go_wp2_with fail
    refine (hbl _).mono ?_
    rintro e w3 ⟨rfl, rfl⟩
    go_wp2_with fail
    refine (reach_ok n 0 M _ O _ hn8 hrb hlen hS HAB.out (by omega) hM8).mono ?_
    rintro e w4 ⟨s, rfl, hs, hR, hB4⟩
    have hB14 := below_c hB12 hB4
    have hiff := Lib.hid (HFC.out s hR)
    clear hR
    go_wp2_with fail
    refine (hbl _).mono ?_
    rintro e w5 ⟨rfl, rfl⟩
    by_cases hsM : s = M
    · have hb : ((s : Int) != (M : Int)) = false := by simp [hsM]
      have HY : Hid (IsTreeG n ls) := HT.out.2 ⟨HLL.out, hiff.out.1 hsM⟩
      clear hsM
      go_wp2
      go_ret
      exact ⟨.inl ⟨HY.out, rfl⟩, hB14⟩
    · have hb : ((s : Int) != (M : Int)) = true := by simp; omega
      have HY : Hid (¬ IsTreeG n ls) := fun h => hsM (hiff.out.2 (HT.out.1 h).2)
      clear hsM
      go_wp2
      go_ret
      exact ⟨.inr ⟨HY.out, rfl⟩, hB14⟩
  · have hne : ((ls.length : Int) != (n : Int) - 1) = true := by simp; omega
    have HY : Hid (¬ IsTreeG n ls) := fun h => hll h.1
    clear hll
    go_wp2
    go_ret
    exact ⟨.inr ⟨HY.out, rfl⟩, hB1⟩
end Go.Proofs.Ytjeafgnaoncphaa
