/- TopKept returns true for every input: the walk. Conditions: none. -/
import Derived.Test.YtnnhidbnjlpjiaaGapsFact
import Derived.Test.YtnnhidbnjlpjiaaGraph
import Derived.Test.YtnnhidbnjlpjiaaPartsP
namespace Go.Proofs.Ytnnhidbnjlpjiaa
open Go.RowKit Gr
open El (at0 gAt gapsErr GapsOk lastOf)

set_option maxHeartbeats 400000 in
theorem topIn_any (n lo hi : Int) (w : World) :
    Calls Try.prog 11 #[.int .i64 n, .int .i64 lo, .int .i64 hi] w fun e w' => e = .returned (.bool (decide (lo ≤ n ∧ n ≤ hi))) ∧ w = w' := by
  by_cases h1 : lo ≤ n
  · by_cases h2 : n ≤ hi
    · go_enter Try.func11, Try.ntmps11
      go_wp2
      go_ret
      exact ⟨by simp; omega, rfl⟩
    · go_enter Try.func11, Try.ntmps11
      go_wp2
      go_ret
      exact ⟨by simp; omega, rfl⟩
  · go_enter Try.func11, Try.ntmps11
    go_wp2
    go_ret
    exact ⟨by simp; omega, rfl⟩

namespace Gr
theorem pt_ok (s : Nat) : GapsOk (ptInts s) ∧ ∀ x ∈ ptInts s, 0 ≤ x ∧ x ≤ 7 := by
  have hin : ∀ x ∈ ptInts s, 0 ≤ x ∧ x ≤ 7 := by
    intro x hx
    obtain ⟨y, _, rfl⟩ := List.mem_map.1 hx
    have := y.isLt
    omega
  refine ⟨⟨by rw [ptInts_length]; have := elems_le s; omega, fun k hk => ?_⟩, hin⟩
  have h1 := hin _ (List.getElem_mem hk)
  unfold gAt
  rw [El.at0_lt hk, if_neg (by omega), if_neg]
  rintro ⟨h2, h3⟩
  rw [El.at0_lt (show k - 1 < _ by omega)] at h3
  have hs := elems_sorted s
  have e : ∀ j (hj : j < (ptInts s).length), (ptInts s)[j] = ((((elems s)[j]'(by rw [ptInts_length] at hj; exact hj)).val : Nat) : Int) := fun j hj => by simp [ptInts]
  have hk' : k < (elems s).length := by rw [ptInts_length] at hk; exact hk
  have := List.pairwise_iff_getElem.1 hs (k - 1) k (by omega) hk' (by omega)
  rw [e (k - 1) (by omega), e k hk] at h3
  omega
end Gr
theorem El.deltas_few (l : List Int) (h : ∀ x ∈ l, 1 ≤ x ∧ x ≤ 15) : (El.deltas l).length ≤ 8 * l.length := by
  induction l with
  | nil => simp [El.deltas]
  | cons a l ih =>
    have h1 := ih fun x hx => h x (List.mem_cons_of_mem _ hx)
    have h2 := h a List.mem_cons_self
    have h3 : (El.delta a.toNat).length ≤ 8 := by
      have g1 := El.log2_le_of a.toNat 3 (by omega)
      have g2 := El.log2_le_of (a.toNat.log2 + 1) 2 (by omega)
      rw [El.delta_length]; omega
    have e : El.deltas (a :: l) = El.delta a.toNat ++ El.deltas l := by simp [El.deltas]
    rw [e, List.length_append, List.length_cons]; omega
theorem El.nums_small {l : List Int} (h : GapsOk l) (h7 : ∀ x ∈ l, 0 ≤ x ∧ x ≤ 7) (hl : l.length ≤ 8) : ∀ x ∈ El.nums l, 1 ≤ x ∧ x ≤ 15 := by
  intro x hx
  have h0 := (El.nums_in h x hx).1
  rcases List.mem_cons.1 hx with rfl | h1
  · omega
  · refine ⟨h0, ?_⟩
    have key : ∀ (p : Int) (l : List Int), -1 ≤ p → (∀ x ∈ l, 0 ≤ x ∧ x ≤ 7) → ∀ x ∈ El.diffs p l, x ≤ 15 := by
      intro p l
      induction l generalizing p with
      | nil => intro _ _ x hx; simp [El.diffs] at hx
      | cons n r ih =>
        intro hp hr x hx
        have hn := hr n List.mem_cons_self
        rcases List.mem_cons.1 hx with rfl | h2
        · omega
        · exact ih n (by omega) (fun y hy => hr y (List.mem_cons_of_mem _ hy)) x h2
    exact key (-1) l (by omega) h7 x h1

theorem El.gnil : GapsOk [] := ⟨by decide, fun k hk => by simp at hk⟩
theorem El.wnil : El.writeG [] = [1] := by decide +kernel

set_option maxRecDepth 100000 in
set_option maxHeartbeats 4000000 in
theorem topKept_any (n : Int) {v : Value} {ls : List Ln} {w : World} (hr : LinesRd w v ls) (i : Int) :
    Calls Try.prog 7 #[.int .i64 n, v, .int .i64 i] w fun e w' => e = .returned (.bool true) ∧ Below w.heap.size w w' := by
  by_cases hc : chk n ls = 0
  · obtain ⟨m, rfl, hg⟩ := good_of hc
    have HG := Lib.hid hg
    have HC := Lib.hid hc
    have hm8 := hg.2.1
    have hm1 := hg.1
    have hrl : (besideRows m ls).length = m := by simp [besideRows, beside_length]
    have hmm : ((m : Int) != (m : Int)) = false := by simp
    have w1' : IntKind.i64.wrap ((m : Int) - 1) = (m : Int) - 1 := IntWalk.i64_in _ (by omega)
    clear hc hg
    go_enter Try.func7, Try.ntmps7
    go_wp2_with fail
    refine (graphBeside_ok m v ls _ hr HG.out HC.out).mono ?_
    rintro e w1 ⟨u, rfl, hrows, hB1⟩
    go_wp2_with fail
    refine (gapsWrite_ok _ [] _ (Rd.nil _) El.gnil).mono ?_
    rintro e w2 ⟨a2, c2, rfl, ho2, hB2⟩
    rw [El.wnil] at ho2 ⊢
    have hB12 := below_c hB1 hB2
    have hrows2 := hrows.later hB2
    have hr2 := rd_of_owns ho2
    clear ho2 hB1 hB2 hrows
    go_wp2_with fail
    refine (ints_b _ _ [1] [1] _ (hr2.later (below_alloc' _ _)) (ints_lit [1] rfl rfl rfl (by decide))).mono ?_
    rintro e w3 ⟨rfl, hB3⟩
    rw [decide_eq_true rfl]
    have hB3' := below_c (below_alloc' _ _) hB3
    have hB13 := below_c hB12 hB3'
    have hrows3 := hrows2.later hB3'
    clear hB3 hB12 hrows2 hB3' hr2
    go_wp2_with fail
    refine (topIn_any _ _ _ _).mono ?_
    rintro e w4 ⟨rfl, rfl⟩
    first | rw [w1'] | skip
    by_cases hi : 0 ≤ i ∧ i ≤ (m : Int) - 1
    · obtain ⟨k, rfl⟩ := Int.eq_ofNat_of_zero_le hi.1
      have hkm : k < m := by omega
      rw [decide_eq_true hi]
      have hki : (k : Int) < (m : Int) := by omega
      obtain ⟨us, hu1, hu2⟩ := hrows3
      rw [hrl] at hu1
      obtain ⟨au, cu, rfl, hcu1, hcu2⟩ := rd_form hu1
      obtain ⟨x, hx1, hx2⟩ := hu2.at (show k < (besideRows m ls).length by omega)
      have hrow : ∃ s, (besideRows m ls)[k]'(by omega) = ptInts s := ⟨_, by unfold besideRows; rw [List.getElem_map]⟩
      obtain ⟨s, hs⟩ := hrow
      rw [hs] at hx2
      obtain ⟨hok, h7⟩ := pt_ok s
      have hl8 : (ptInts s).length ≤ 8 := by rw [ptInts_length]; exact elems_le s
      have hnl : (El.nums (ptInts s)).length = (ptInts s).length + 1 := by simp [El.nums, El.diffs_length]
      have hsh : (El.writeG (ptInts s)).length ≤ 600 := by
        have := El.deltas_few _ (El.nums_small hok h7 hl8)
        unfold El.writeG
        omega
      have HOK := Lib.hid hok
      have HRDD := Lib.hid (El.readD_writeG hok hsh)
      have HCH := Lib.hid (El.chk_deltas (l := El.nums (ptInts s)) hsh)
      generalize hL : ptInts s = L at *
      clear hi hu2 hs h7 hok hL
      obtain ⟨_, _, e, _, _, _, hcell⟩ := hu1
      cases e
      obtain ⟨b, off, rfl, hbb, hcl⟩ := hcell (by omega)
      have hck := hcl k x hx1
      obtain ⟨ax, cx, rfl, hcx1, hcx2⟩ := rd_form hx2
      clear hcl hcell
      go_wp2_with fail
      refine (gapsWrite_ok _ L _ hx2 HOK.out).mono ?_
      rintro e w5 ⟨a5, c5, rfl, ho5, hB5⟩
      have hr5 := rd_of_owns ho5
      have hk5 := (hB5.cell (p := ⟨b, off + k, none⟩) hbb).trans hck
      have hx5 := hx2.later hB5
      have hbb5 : b < w5.heap.size := Nat.lt_of_lt_of_le hbb hB5.size
      have hB15 := below_c hB13 hB5
      have hsi : ¬ 600 < ((El.writeG L).length : Int) := by omega
      clear ho5 hB5 hck hx2
      go_wp2_with fail
      refine (gapsRead_write _ L _ hr5 HOK.out hsh).mono ?_
      rintro e w6 ⟨a6, c6, rfl, ho6, hB6⟩
      have hr6 := rd_of_owns ho6
      have hk6 := (hB6.cell (p := ⟨b, off + k, none⟩) hbb5).trans hk5
      have hx6 := hx5.later hB6
      have hbb6 : b < w6.heap.size := Nat.lt_of_lt_of_le hbb5 hB6.size
      have hB16 := below_c hB15 hB6
      have hr56 := hr5.later hB6
      clear ho6 hB6 hk5 hx5 hr5
      go_wp2_with fail
      refine (ReadDelta_ok _ (El.writeG L) _ hr56 HCH.out).mono ?_
      rw [HRDD.out]
      rintro e w7 ⟨a7, c7, rfl, ho7, hB7⟩
      simp only [errOf, if_true, hnl]
      have hk7 := (hB7.cell (p := ⟨b, off + k, none⟩) hbb6).trans hk6
      have hx7 := hx6.later hB7
      have hr7 := hr6.later hB7
      have hbb7 : b < w7.heap.size := Nat.lt_of_lt_of_le hbb6 hB7.size
      have hB17 := below_c hB16 hB7
      clear ho7 hB7 hk6 hx6 hr6 hr56
      go_wp2_with fail
      refine (ints_b _ _ L L _ hr7 hx7).mono ?_
      rintro e w8 ⟨rfl, hB8⟩
      rw [decide_eq_true rfl]
      have hk8 := (hB8.cell (p := ⟨b, off + k, none⟩) hbb7).trans hk7
      have hB18 := below_c hB17 hB8
      have wl : IntKind.i64.wrap ((L.length : Int) + 1) = (L.length : Int) + 1 := IntWalk.i64_in _ (by omega)
      have el : (((L.length + 1 : Nat) : Int) == (L.length : Int) + 1) = true := by simp
      clear hk7 hx7 hr7
      go_wp2
      go_ret
      exact ⟨rfl, hB18⟩
    · rw [decide_eq_false hi]
      go_wp2
      go_ret
      exact ⟨rfl, hB13⟩
  · go_enter Try.func7, Try.ntmps7
    go_wp2_with fail
    refine (graphBeside_bad n v ls _ hr hc).mono ?_
    rintro e w1 ⟨rfl, hB1⟩
    go_wp2_with fail
    refine (gapsWrite_ok _ [] _ (Rd.nil _) El.gnil).mono ?_
    rintro e w2 ⟨a2, c2, rfl, ho2, hB2⟩
    rw [El.wnil] at ho2 ⊢
    have hB12 := below_c hB1 hB2
    have hr2 := rd_of_owns ho2
    clear ho2 hB1 hB2
    go_wp2_with fail
    refine (ints_b _ _ [1] [1] _ (hr2.later (below_alloc' _ _)) (ints_lit [1] rfl rfl rfl (by decide))).mono ?_
    rintro e w3 ⟨rfl, hB3⟩
    rw [decide_eq_true rfl]
    have hB13 := below_c hB12 (below_c (below_alloc' _ _) hB3)
    go_wp2
    go_ret
    exact ⟨rfl, hB13⟩

end Go.Proofs.Ytnnhidbnjlpjiaa
