/- What havel.Make keeps in memory; slices.Max and slices.Index: the walks. Conditions: in each statement. -/
import Derived.Test.YtmkdkjdbmnocoaaHavelSort
import Derived.Test.YtmkdkjdbmnocoaaDegSort
import Derived.Test.YtmkdkjdbmnocoaaBack
namespace Go.Proofs.Ytmkdkjdbmnocoaa
open Go.RowKit Gr

/-- the box B of the row g of what is needed, and the lines that are made -/
structure HMem (b0 : Nat) (w W : World) (B g c n : Nat) (N : List Nat) (o : Value) (out : List Ln) : Prop where
  box : W.cell? ⟨B, 0, none⟩ = some (.slice (some ⟨g, 0, none⟩) n c)
  hB : b0 ≤ B ∧ B < W.heap.size
  row : W.ownsRow b0 3 1 (.slice (some ⟨g, 0, none⟩) n c) n (nats N)
  out : W.ownsRow b0 45 2 o out.length (cellsOf out)
  hBg : B ≠ g
  ho : ∀ h, o.ownBlock = some h → h ≠ B ∧ h ≠ g
  below : Below b0 w W
  size : b0 ≤ W.heap.size

theorem HMem.grown {b0 : Nat} {w W W' : World} {B g c n : Nat} {N : List Nat} {o : Value} {out : List Ln} {row : Option Nat} (h : HMem b0 w W B g c n N o out) (hg : W.grownBy W' row) (hr : ∀ r, row = some r → b0 ≤ r ∧ r ≠ B ∧ r ≠ g ∧ o.ownBlock ≠ some r) : HMem b0 w W' B g c n N o out := by
  refine ⟨hg.cell h.box (fun e => (hr B e.symm).2.1 rfl), ⟨h.hB.1, Nat.lt_of_lt_of_le h.hB.2 hg.size⟩, ?_, ?_, h.hBg, h.ho, h.below.grown hg h.size (fun k hk => (hr k hk).1), Nat.le_trans h.size hg.size⟩
  · exact h.row.kept hg (.inr fun e => (hr g (by rw [← e]; rfl)).2.2.1 rfl)
  · refine h.out.kept hg ?_
    cases hob : o.ownBlock with
    | none => exact .inl rfl
    | some r => exact .inr (fun e => (hr r e.symm).2.2.2 hob)
theorem HMem.later {b0 : Nat} {w W W' : World} {B g c n : Nat} {N : List Nat} {o : Value} {out : List Ln} (h : HMem b0 w W B g c n N o out) (hb : Below W.heap.size W W') : HMem b0 w W' B g c n N o out :=
  h.grown (below_iff_grown.1 hb) (fun r e => by cases e)
theorem HMem.lt {b0 : Nat} {w W : World} {B g c n : Nat} {N : List Nat} {o : Value} {out : List Ln} (h : HMem b0 w W B g c n N o out) : B < W.heap.size ∧ g < W.heap.size := ⟨h.hB.2, (h.row.lt g rfl).2⟩
theorem HMem.at_ {b0 : Nat} {w W : World} {B g c n : Nat} {N : List Nat} {o : Value} {out : List Ln} (h : HMem b0 w W B g c n N o out) {i : Nat} (hi : i < N.length) : W.cell? ⟨g, i, none⟩ = some (.int .i64 ((val N i : Nat) : Int)) := by
  exact owns_at h.row (by rw [val_lt hi]; simp [nats, hi])
theorem HMem.set {b0 : Nat} {w W : World} {B g c n : Nat} {N : List Nat} {o : Value} {out : List Ln} (h : HMem b0 w W B g c n N o out) (i v : Nat) : HMem b0 w (W.setCell ⟨g, i, none⟩ (.int .i64 ((v : Nat) : Int))) B g c n (N.set i v) o out := by
  obtain ⟨h1, hg⟩ := h.row.stored i (.int .i64 ((v : Nat) : Int))
  have hgb := (h.row.lt g rfl).1
  refine ⟨hg.cell h.box (fun e => h.hBg (by injection e)), ⟨h.hB.1, Nat.lt_of_lt_of_le h.hB.2 hg.size⟩, ?_, ?_, h.hBg, h.ho, h.below.grown hg h.size (fun k hk => by cases hk; exact hgb), Nat.le_trans h.size hg.size⟩
  · have e : nats (N.set i v) = (nats N).set i (.int .i64 ((v : Nat) : Int)) := by simp [nats, List.map_set]
    rw [e]; exact h1
  · refine h.out.kept hg ?_
    cases hob : o.ownBlock with
    | none => exact .inl rfl
    | some r => exact .inr (fun e => (h.ho r hob).2 (by injection e))
theorem HMem.app {b0 : Nat} {w W W' : World} {B g c n : Nat} {N : List Nat} {o o' : Value} {out : List Ln} {l : Ln} (h : HMem b0 w W B g c n N o out) (hA : AppTo W b0 45 2 o W' o' (out.length + 1) (cellsOf out ++ [.int .i64 l.1, .int .i64 l.2])) : HMem b0 w W' B g c n N o' (out ++ [l]) := by
  have hg := hA.grown
  obtain ⟨hBl, hgl⟩ := h.lt
  refine ⟨hg.cell h.box (fun e => (h.ho B e.symm).1 rfl), ⟨h.hB.1, Nat.lt_of_lt_of_le h.hB.2 hg.size⟩, h.row.kept hg (.inr fun e => (h.ho g e.symm).2 rfl), ?_, h.hBg, fun r hr => ?_, h.below.grown hg h.size (fun k hk => (h.out.lt k hk).1), Nat.le_trans h.size hg.size⟩
  · rw [cellsOf_append, List.length_append, List.length_singleton]
    simpa [cellsOf] using hA.own
  · rcases hA.at_ with e | e
    · rw [e] at hr; exact h.ho r hr
    · have := e r hr; omega

set_option maxRecDepth 100000 in
set_option maxHeartbeats 1000000 in
theorem max_ok (N : List Nat) (g n c : Nat) (W : World) (hn : 1 ≤ n) (hn8 : n ≤ 8) (hl : N.length = n) (hc : ∀ i, i < n → W.cell? ⟨g, i, none⟩ = some (.int .i64 ((val N i : Nat) : Int))) :
    Calls Try.prog 30 #[.slice (some ⟨g, 0, none⟩) n c] W fun e w' => e = .returned (.int .i64 ((val N (atUp N n) : Nat) : Int)) ∧ W = w' := by
  have HC := Lib.hid hc
  have c0 := hc 0 (by omega)
  have hd : decide ((n : Int) < 1) = false := by simp; omega
  have hi0 : (0 : Int) < (n : Int) := by omega
  have h1n : ¬ (n : Int) < 1 := by omega
  have e0 : atUp N 1 = 0 := by simp [atUp]
  have HE := Lib.hid e0
  clear hc e0
  go_enter Try.func30, Try.ntmps30
  go_wp2_with fail
  go_loop [3, 4] (fun z i => ∃ k : Nat, 1 ≤ k ∧ k ≤ n ∧ i = .int .i64 k ∧ z = .int .i64 ((val N (atUp N k) : Nat) : Int)) (fun _ i => n - (intOf i).toNat)
  case atStart => exact ⟨1, by omega, hn, rfl, by rw [HE.out]⟩
  case round =>
    obtain ⟨k, hk1, hk, rfl, rfl⟩ := hrel
    by_cases hlt : k < n
    · have hki : (k : Int) < (n : Int) := by omega
      have ck := HC.out k hlt
      have HS : Hid (((val N (atUp N (k + 1)) : Nat) : Int) = max ((val N (atUp N k) : Nat) : Int) ((val N k : Nat) : Int)) := by
        show _ = _
        have e : atUp N (k + 1) = if val N (atUp N k) < val N k then k else atUp N k := rfl
        rw [e]
        split <;> omega
      generalize val N (atUp N k) = p at *
      generalize val N k = q at *
      go_wp2
      go_round
      case rel => exact ⟨k + 1, by omega, by omega, by go_num, by rw [HS.out]⟩
      case measure => simp [intOf]; omega
    · obtain rfl : k = n := by omega
      go_wp2
      go_ret
      exact ⟨rfl, rfl⟩

set_option maxRecDepth 100000 in
set_option maxHeartbeats 1000000 in
theorem index_ok (N : List Nat) (g n c : Nat) (W : World) (hn : 1 ≤ n) (hn8 : n ≤ 8) (hl : N.length = n) (hc : ∀ i, i < n → W.cell? ⟨g, i, none⟩ = some (.int .i64 ((val N i : Nat) : Int))) :
    Calls Try.prog 29 #[.slice (some ⟨g, 0, none⟩) n c, .int .i64 ((val N (atUp N n) : Nat) : Int)] W fun e w' => e = .returned (.int .i64 ((atUp N n : Nat) : Int)) ∧ W = w' := by
  have HC := Lib.hid hc
  have HA := Lib.hid (atUp_ok N n hn)
  clear hc
  generalize hm : val N (atUp N n) = p at *
  generalize ha : atUp N n = a at *
  have han : a < n := HA.out.1
  go_enter Try.func29, Try.ntmps29
  go_wp2_with fail
  go_loopw [8] (fun i wr => ∃ k : Nat, k ≤ a ∧ i = .int .i64 k ∧ wr = W) (fun i _ => n - (intOf i).toNat)
  case atStart => exact ⟨0, by omega, rfl, rfl⟩
  case round =>
    obtain ⟨k, hk, rfl, rfl⟩ := hrel
    have hki : (k : Int) < (n : Int) := by omega
    have ck := HC.out k (by omega)
    by_cases hka : k = a
    · subst hka
      rw [hm] at ck
      have hb : ((p : Int) == (p : Int)) = true := by simp
      clear HA HC hm ha
      go_wp2
      go_ret
      exact ⟨rfl, rfl⟩
    · have hv := HA.out.2.2 k (by omega)
      have hb : ((p : Int) == ((val N k : Nat) : Int)) = false := by rw [beq_eq_false_iff_ne]; omega
      clear hm ha
      generalize val N k = q at *
      go_wp2
      go_roundw
      case rel => exact ⟨k + 1, by omega, by go_num, by first | rfl | trivial⟩
      case measure => simp [intOf]; omega
end Go.Proofs.Ytmkdkjdbmnocoaa
