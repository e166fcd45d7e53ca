/- How a law's lines are opened. Conditions: none. -/
import Derived.Test.YtjeafgnaoncphaaOpen
import Derived.Test.YtjeafgnaoncphaaCoreCheck
import Derived.Deep.SlicePairs
import Derived.Lib.SmallJoins
namespace Go.Proofs.Ytjeafgnaoncphaa
open Go.ChangeShapes Go.WideShapes Go.ChangeAt Go.RowKit Go.Deep Gr

set_option maxRecDepth 100000 in
theorem open_linesR {H : Type} {enc : TypeId × Value → H} {W : World} {v : Value} {d : DataW H} {p : List MemPlace} {base : Nat} {r : Reach}
    (hv : Value.okWide Try.prog W r base 22 v) (h : DataW.Trod enc Try.prog W 0 (fun _ => true) true 22 v d p) :
    ∃ ls : List Ln, LinesRd W v ls := by
  obtain ⟨a0, len0, cap0, rfl⟩ := okWide_slice Try.underlying22 hv
  obtain ⟨fuel, hf⟩ := h
  rcases open_slice_pairs Try.underlying22 Try.underlying33 (by kernel_rfl) rfl rfl (by kernel_rfl) (by kernel_rfl) hf with ⟨hcs, _⟩ | ⟨x, l, c, m, n, V0, V1, D0, D1, P0, P1, hcs, _, hl, hm, hmm, _, hall⟩
  · simp [Value.cells] at hcs
    obtain ⟨rfl, rfl, rfl⟩ := hcs
    exact ⟨[], Rd.nil W⟩
  · simp [Value.cells] at hcs
    obtain ⟨rfl, rfl, rfl⟩ := hcs
    simp at hmm
    have each : ∀ i, i < len0 → ∃ q : Ln, W.cell? (x.add (i * 2)) = some (.int .i64 q.1) ∧ W.cell? (x.add (i * 2 + 1)) = some (.int .i64 q.2) := by
      intro i hi
      obtain ⟨h1, h2, h3, h4⟩ := hall i (by omega)
      obtain ⟨a, ha, _⟩ := DataW.trod_int Try.underlying3 h3
      obtain ⟨b, hb, _⟩ := DataW.trod_int Try.underlying3 h4
      simp at ha hb
      rw [ha] at h1
      rw [hb] at h2
      exact ⟨(a, b), h1, h2⟩
    obtain ⟨q, hq⟩ := choose_lt each
    have hlen : ((List.range len0).map q).length = len0 := by simp
    refine ⟨(List.range len0).map q, ?_⟩
    unfold LinesRd
    rw [hlen]
    refine rd_of_cells (size := 2) hl hm (by rw [cellsOf_length, hlen]) (by decide) fun j u hu => ?_
    have hj : j < len0 * 2 := by
      have := (List.getElem?_eq_some_iff.1 hu).1
      rw [cellsOf_length, hlen] at this; exact this
    have hj2 : j / 2 < ((List.range len0).map q).length := by rw [hlen]; omega
    obtain ⟨g1, g2⟩ := cellsOf_get _ (j / 2) hj2
    obtain ⟨c1, c2⟩ := hq (j / 2) (by omega)
    simp only [List.getElem_map, List.getElem_range] at g1 g2
    rcases Nat.mod_two_eq_zero_or_one j with hz | hz
    · have e : j = 2 * (j / 2) := by omega
      rw [e, g1] at hu
      cases hu
      rw [Nat.mul_comm] at e
      have e2 : x.add j = x.add (j / 2 * 2) := by rw [← e]
      rw [e2]; exact c1
    · have e : j = 2 * (j / 2) + 1 := by omega
      rw [e, g2] at hu
      cases hu
      rw [Nat.mul_comm] at e
      have e2 : x.add j = x.add (j / 2 * 2 + 1) := by rw [← e]
      rw [e2]; exact c2

set_option maxRecDepth 100000 in
theorem open_lineR {H : Type} {enc : TypeId × Value → H} {W : World} {v : Value} {d : DataW H} {p : List MemPlace} {base : Nat} {r : Reach}
    (hv : Value.okWide Try.prog W r base 33 v) (h : DataW.Trod enc Try.prog W 0 (fun _ => true) true 33 v d p) :
    ∃ l : Ln, v = .agg #[.int .i64 l.1, .int .i64 l.2] := by
  obtain ⟨v0, v1, y0, y1, n, rfl, _, _, h0, h1⟩ := Go.Joins.open_agg2 Try.underlying33 (by kernel_rfl) (by kernel_rfl) hv h
  obtain ⟨a, ha, _⟩ := DataW.trod_int Try.underlying3 h0
  obtain ⟨b, hb, _⟩ := DataW.trod_int Try.underlying3 h1
  simp at ha hb
  subst ha hb
  exact ⟨(a, b), rfl⟩

end Go.Proofs.Ytjeafgnaoncphaa
