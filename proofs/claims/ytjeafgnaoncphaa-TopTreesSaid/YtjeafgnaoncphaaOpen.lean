/- How the arguments of a law are opened: an int, a list of ints. Conditions: none. -/
import Derived.Test.YtjeafgnaoncphaaMem
import Derived.ProofKit
import Derived.OpenShut
import Derived.ShutString
import Derived.ChangeOld
namespace Go.Proofs.Ytjeafgnaoncphaa
open Go.ChangeShapes Go.WideShapes Go.ChangeAt Go.RowKit

set_option maxRecDepth 100000 in
theorem open_i64 {H : Type} {enc : TypeId × Value → H} {W : World} {v : Value} {d : DataW H} {p : List MemPlace} {base : Nat} {r : Reach}
    (hv : Value.okWide Try.prog W r base 3 v) (h : DataW.Trod enc Try.prog W 0 (fun _ => true) true 3 v d p) :
    ∃ a : Int, v = .int .i64 a ∧ (Lit.int .i64 a).wf = true := by
  obtain ⟨a, rfl, _, _, w⟩ := open_int Try.underlying3 hv h
  exact ⟨a, rfl, w⟩

theorem rd_of_cells {W : World} {x : Addr} {n c size : Nat} {cs : List Value} (hn : n ≤ c) (hm : c ≤ maxLen) (hl : cs.length = n * size) (hs : 0 < size)
    (h : ∀ j u, cs[j]? = some u → W.cell? (x.add j) = some u) : Rd W (.slice (some x) n c) n cs := by
  refine ⟨_, _, rfl, hn, hm, fun h0 => List.eq_nil_of_length_eq_zero (by rw [hl, h0]; simp), fun hp => ?_⟩
  have hlen : 0 < cs.length := by rw [hl]; exact Nat.mul_pos hp hs
  have h0 := h 0 cs[0] (by simp [hlen])
  rw [show x.add 0 = x from by simp [Addr.add]] at h0
  obtain ⟨b, off, spot⟩ := x
  have hspot : spot = none := by simpa using World.cell?_spot h0
  subst hspot
  refine ⟨b, off, rfl, World.block_lt_of_cell? W _ h0, fun j u hu => ?_⟩
  have := h j u hu
  rw [show (⟨b, off, none⟩ : Addr).add j = ⟨b, off + j, none⟩ from by unfold Addr.add; split <;> simp_all] at this
  exact this

set_option maxRecDepth 100000 in
theorem open_intsR {H : Type} {enc : TypeId × Value → H} {W : World} {v : Value} {d : DataW H} {p : List MemPlace} {base : Nat} {r : Reach}
    (hv : Value.okWide Try.prog W r base 28 v) (h : DataW.Trod enc Try.prog W 0 (fun _ => true) true 28 v d p) :
    ∃ xs : List Int, Rd W v xs.length (ints xs) := by
  obtain ⟨a0, len0, cap0, rfl⟩ := okWide_slice Try.underlying28 hv
  obtain ⟨fuel, hf⟩ := h
  rcases open_ints Try.underlying28 Try.underlying3 (by kernel_rfl) hf with ⟨hcs, _⟩ | ⟨x, l, c, zs, hcs, _, hl, hm, hz, _, hcell, _⟩
  · simp [Value.cells] at hcs
    obtain ⟨rfl, rfl, rfl⟩ := hcs
    exact ⟨[], Rd.nil W⟩
  · simp [Value.cells] at hcs
    obtain ⟨rfl, rfl, rfl⟩ := hcs
    simp at hz
    have hlen : (zs.take len0).length = len0 := by simp; omega
    refine ⟨zs.take len0, ?_⟩
    rw [hlen]
    refine rd_of_cells (size := 1) hl hm (by rw [ints_length', hlen]; simp) (by decide) fun j u hu => ?_
    have hj : j < len0 := by
      have := (List.getElem?_eq_some_iff.1 hu).1
      rw [ints_length', hlen] at this; exact this
    rw [ints_get (by rw [hlen]; exact hj)] at hu
    cases hu
    have e : zs.getD j 0 = zs[j]'(by omega) := by simp [List.getD, List.getElem?_eq_getElem (show j < zs.length by omega)]
    rw [hcell j (by omega), List.getElem_take, e]

end Go.Proofs.Ytjeafgnaoncphaa
