/- What E.Back, E.Lines, graph.Other return: the walks. Conditions: in each statement. -/
import Derived.Test.YthlnejfojaldnaaRowEq
import Derived.Test.YthlnejfojaldnaaAdj
import Derived.Deep.AppendLies
import Derived.Deep.RegionLaw
namespace Go.Proofs.Ythlnejfojaldnaa
open Go.RowKit Gr

theorem info_line : (Try.prog.info? 34).map (fun i => (i.zero, i.size, i.bytes)) = some (some (.agg #[.int .i64 0, .int .i64 0]), 2, 16) := by kernel_rfl

theorem cellsOf_append (a b : List Ln) : cellsOf (a ++ b) = cellsOf a ++ cellsOf b := by simp [cellsOf]

set_option maxRecDepth 100000 in
set_option maxHeartbeats 1000000 in
theorem back_any (v : Value) (ls : List Ln) (w : World) (hr : LinesRd w v ls) (hl : ls.length ≤ 24) :
    Calls Try.prog 20 #[v] w fun e w' => ∃ u, e = .returned u ∧ w'.ownsRow w.heap.size 34 2 u ls.length (cellsOf (backL ls)) ∧ Below w.heap.size w w' := by
  obtain ⟨i0, hi, hz0, hz1, hz2⟩ := info_parts info_line
  obtain ⟨a, c, rfl, hnc, hcm, _, hcell⟩ := hr
  unfold maxLen at hcm
  go_enter Try.func20, Try.ntmps20
  go_wp2
  go_loopw [3, 4] (fun u i wr => ∃ (m : Nat), m ≤ ls.length ∧ i = .int .i64 ((m : Int) - 1) ∧ AppTo w w.heap.size 34 2 (.slice none 0 0) wr u (ls.length - m) (cellsOf (backL (ls.drop m)))) (fun _ i _ => (intOf i + 1).toNat)
  case atStart => exact ⟨ls.length, Nat.le_refl _, rfl, by simpa [backL, cellsOf] using AppTo.refl (World.ownsRow_nil _ _ _ _)⟩
  case round =>
    obtain ⟨m, hm, rfl, hA⟩ := hrel
    rcases m with _ | m
    · go_wp2
      go_ret
      exact ⟨_, rfl, by simpa using hA.own, hA.of_nil⟩
    · have e1 : ((m + 1 : Nat) : Int) - 1 = (m : Int) := by omega
      rw [e1]
      have hlt : m < ls.length := by omega
      obtain ⟨b, off, rfl, hbb, hc⟩ := hcell (by omega)
      obtain ⟨g1, g2⟩ := lines_at hc hlt
      have hbr := hA.of_nil
      have hc1 := (hbr.cell (p := ⟨b, off + m * 2, none⟩) hbb).trans g1
      have hc2 := (hbr.cell (p := ⟨b, off + m * 2 + 1, none⟩) hbb).trans g2
      have hT : backL (ls.drop m) = backL (ls.drop (m + 1)) ++ [turn ls[m]] := by
        have : (ls.drop m).reverse = (ls.drop (m + 1)).reverse ++ [ls[m]] := by rw [List.drop_eq_getElem_cons hlt, List.reverse_cons]
        simp only [backL, this, List.map_append, List.map_cons, List.map_nil]
      have HT := Lib.hid hT
      clear hT g1 g2 hc
      go_wp2
      go_region_law ((refine step_app _ _ _ (hA.drew.alloc _) wr.heap.size _ (World.alloc_heap_new _ _) rfl rfl Try.underlying22 hi hz0 hz1 hz2 rfl (by decide) rfl rfl rfl (by simp [Value.oneCell']) (by decide) (by omega) (by omega) ?_; intro v2 w2 hA2 hne2 hst2))
      all_goals
        go_wp2
        go_roundw
        case rel =>
          refine ⟨m, by omega, by go_num, ?_⟩
          rw [HT.out, cellsOf_append]
          have e3 : ls.length - (m + 1) + 1 = ls.length - m := by omega
          rw [← e3]
          exact hA2
        case measure => simp [intOf]

end Go.Proofs.Ythlnejfojaldnaa
