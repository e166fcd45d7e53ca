/- What walk.Parts returns: the walk. Conditions: in each statement. -/
import Derived.Test.YtjeafgnaoncphaaReach
import Derived.Test.YtjeafgnaoncphaaPlainA
import Derived.Test.YtjeafgnaoncphaaWalkFact
namespace Go.Proofs.Ytjeafgnaoncphaa
open Go.RowKit Gr

namespace Gr
/-- the first k parts -/
def PartsTo (O : List Nat) (n k : Nat) (p : List Int) : Prop := p.length = k ∧ ∀ i, i < k → ∃ s m : Nat, IsReach O (2 ^ n - 1) i s ∧ at1 p i = (m : Int) ∧ s.testBit m = true ∧ ∀ j, s.testBit j = true → m ≤ j
theorem PartsTo.snoc {O : List Nat} {n k : Nat} {p : List Int} (h : PartsTo O n k p) {s m : Nat} (h1 : IsReach O (2 ^ n - 1) k s) (h2 : s.testBit m = true) (h3 : ∀ j, s.testBit j = true → m ≤ j) : PartsTo O n (k + 1) (p ++ [(m : Int)]) := by
  obtain ⟨hl, h⟩ := h
  refine ⟨by simp [hl], fun i hi => ?_⟩
  by_cases e : i = k
  · subst e
    refine ⟨s, m, h1, ?_, h2, h3⟩
    unfold at1
    rw [List.getElem?_append_right (by omega), hl, Nat.sub_self]; rfl
  · obtain ⟨s', m', g1, g2, g3⟩ := h i (by omega)
    refine ⟨s', m', g1, ?_, g3⟩
    rw [← g2]
    unfold at1
    rw [List.getElem?_append_left (by omega)]
theorem PartsTo.full {O : List Nat} {n : Nat} {p : List Int} (h : PartsTo O n n p) : IsParts O n p := ⟨h.1, h.2⟩
theorem mask_small {n : Nat} (h : n ≤ 8) : 2 ^ n - 1 < 256 := by
  have := Nat.pow_le_pow_right (n := 2) (by omega) h
  omega
end Gr

set_option maxRecDepth 100000 in
set_option maxHeartbeats 1000000 in
theorem parts_bad (n : Int) (v : Value) (ls : List Ln) (w : World) (hr : LinesRd w v ls) (hc : chk n ls ≠ 0) :
    Calls Try.prog 15 #[.int .i64 n, v] w fun e w' => e = .returned (.tuple #[.slice none 0 0, errV (chk n ls)]) ∧ Below w.heap.size w w' := by
  have HC := Lib.hid (errOf_pos hc)
  clear hc
  go_enter Try.func15, Try.ntmps15
  go_wp2_with fail
  refine (graphCheck_any n v ls _ hr).mono ?_
  rintro e w1 ⟨rfl, hB⟩
  rw [HC.out]
  go_wp2
  go_ret2
  exact ⟨rfl, hB⟩

set_option maxRecDepth 100000 in
set_option maxHeartbeats 1000000 in
theorem parts_ok (n : Nat) (v : Value) (ls : List Ln) (w : World) (hr : LinesRd w v ls) (hg : GoodG n ls) :
    Calls Try.prog 15 #[.int .i64 n, v] w fun e w' => ∃ p a c, e = .returned (.tuple #[.slice a n c, .nilIface]) ∧ IsParts (beside n ls) n p ∧ Rd w' (.slice a n c) n (ints p) ∧ Below w.heap.size w w' := by
  obtain ⟨i0, hi, hz0, hz1, hz2⟩ := info_parts info_int
  have HG := Lib.hid hg
  have HC : Hid (errOf (chk n ls) = .nilIface) := by show _ = _; rw [chk_good hg]; rfl
  have hn8 : n ≤ 8 := hg.2.1
  have hlen : (beside n ls).length = n := beside_length n ls
  have hbl := fun w => below_any n w (by omega)
  have hM8 := mask_small hn8
  obtain ⟨M, hM⟩ : ∃ M, 2 ^ n - 1 = M := ⟨_, rfl⟩
  rw [hM] at hM8
  simp only [hM] at hbl
  have HM := Lib.hid hM
  clear hg hM
  go_enter Try.func15, Try.ntmps15
  go_wp2_with fail
  refine (graphCheck_any n v ls _ hr).mono ?_
  rintro e w1 ⟨rfl, hB1⟩
  rw [HC.out]
  go_wp2_with fail
  refine (coreBeside_any n v ls _ (hr.later hB1) HG.out).mono ?_
  rintro e w2 ⟨g, cap, rfl, hown, hB2, hS⟩
  have hB12 := below_c hB1 hB2
  have HS := Lib.hid hS
  have HAB := Lib.hid (adj_bounded HG.out)
  have hrb := rd_of_owns hown
  clear hS hB1 hB2 hown
  generalize hOe : beside n ls = O at *
  have HOe := Lib.hid hOe
  clear hOe
  go_wp2_with fail
  go_loopw [8, 20] (fun u i wr => ∃ (k : Nat) (p : List Int), k ≤ n ∧ i = .int .i64 k ∧ wr.ownsRow w2.heap.size 3 1 u k (ints p) ∧ Hid (PartsTo O n k p) ∧ Below w2.heap.size w2 wr) (fun _ i _ => n - (intOf i).toNat)
  case atStart => exact ⟨0, [], by omega, rfl, World.ownsRow_nil _ _ _ _, ⟨rfl, fun i hi => by omega⟩, Below.refl _ _⟩
  case round =>
    obtain ⟨k, p, hk, rfl, hor, HP, hbr⟩ := hrel
    by_cases hlt : k < n
    · have hki : (k : Int) < (n : Int) := by omega
      go_wp2_with fail
      refine (hbl _).mono ?_
      rintro e w3 ⟨rfl, rfl⟩
      go_wp2_with fail
      refine (reach_ok n k M _ O _ hn8 (hrb.later hbr) hlen HS.out HAB.out hlt hM8).mono ?_
      rintro e w4 ⟨s, rfl, hs, hR, hB4⟩
      have hR' := hR
      rw [← HM.out] at hR'
      obtain ⟨x, r, he, hx1, hx2⟩ := elems_head hs hR'.src
      have HP' := Lib.hid (HP.out.snoc hR' hx1 hx2)
      have hy : (ptsOf (elems s))[0]? = some (.int .i64 ((x.val : Nat) : Int)) := by rw [he]; rfl
      have hL : 0 < (elems s).length := by rw [he]; simp
      clear he hx1 hx2 hR hR'
      have hbr4 := hbr.trans (hB4.mono hbr.size)
      have hor4 := owns_later hor hB4
      go_wp2_with fail
      refine (list_any s hs _).mono ?_
      rintro e w5 ⟨a, c, rfl, hl5, hB5⟩
      generalize (elems s).length = L at *
      generalize ptsOf (elems s) = Y at *
      obtain ⟨gl, cl, hv, _, _⟩ := owns_form hl5 hL
      obtain ⟨rfl, rfl⟩ : a = some ⟨gl, 0, none⟩ ∧ c = cl := by cases hv; exact ⟨rfl, rfl⟩
      have hc0 := owns_at hl5 hy
      have hor5 := owns_later hor4 hB5
      have hbr5 := hbr4.trans (hB5.mono hbr4.size)
      have hLi : (0 : Int) < (L : Int) := by omega
      have hs5 := hbr5.size
      clear hv hor4 hor hl5
      go_wp2_with (at_builtin; go_must (refine wpl_app _ _ _ (AppTo.refl hor5) rfl rfl Try.underlying28 hi hz0 hz1 hz2 rfl (by decide) rfl rfl rfl (by simp [Value.oneCell']) (by decide) (by omega) hs5 ?_); intro v' w' hA' hne hst)
      go_roundw
      case rel =>
        exact ⟨k + 1, p ++ [((x.val : Nat) : Int)], by omega, by go_num, by simpa [ints] using hA'.own, HP', hbr5.trans hst⟩
      case measure => simp [intOf]; omega
    · have e : k = n := by omega
      subst e
      go_wp2
      go_ret2
      obtain ⟨a, c, rfl⟩ := owns_slice hor
      exact ⟨p, a, c, rfl, by rw [HOe.out]; exact HP.out.full, rd_of_owns hor, below_c hB12 hbr⟩

end Go.Proofs.Ytjeafgnaoncphaa
