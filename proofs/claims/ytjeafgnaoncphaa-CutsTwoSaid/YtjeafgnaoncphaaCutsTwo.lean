/- CutsTwo returns true for every input: the walk. Conditions: none. -/
import Derived.Test.YtjeafgnaoncphaaCutsFact
import Derived.Test.YtjeafgnaoncphaaCutTwoP
namespace Go.Proofs.Ytjeafgnaoncphaa
open Go.RowKit Gr

theorem cuts_few {n : Nat} {ls : List Ln} (hg : GoodG n ls) (h2 : 2 ≤ n) : (cutsUp (beside n ls) n).length + 2 ≤ n := by
  obtain ⟨v, w, hv, hw, hvw, cv, cw⟩ := two_free hg.2.1 h2 (adj_bounded hg) (fun _ _ h => adj_symm hg h) (fun a h => adj_ne hg h rfl)
  have hnd : (v :: w :: cutsUp (beside n ls) n).Nodup := by
    have hm : ∀ x, x ∈ cutsUp (beside n ls) n → IsCut (beside n ls) x := fun x hx => by
      unfold cutsUp at hx
      simpa using (List.mem_filter.1 hx).2
    refine List.nodup_cons.2 ⟨fun h => ?_, List.nodup_cons.2 ⟨fun h => cw (hm w h), List.Pairwise.filter _ List.nodup_range⟩⟩
    rcases List.mem_cons.1 h with e | h
    · exact hvw e
    · exact cv (hm v h)
  have := few hnd (k := n) fun x hx => by
    rcases List.mem_cons.1 hx with rfl | hx
    · exact hv
    · rcases List.mem_cons.1 hx with rfl | hx
      · exact hw
      · unfold cutsUp at hx
        exact List.mem_range.1 (List.mem_filter.1 hx).1
  simpa using this

set_option maxRecDepth 100000 in
set_option maxHeartbeats 2000000 in
theorem cutsTwo_any (n : Int) {v : Value} {ls : List Ln} {w : World} (hr : LinesRd w v ls) :
    Calls Try.prog 4 #[.int .i64 n, v] w fun e w' => e = .returned (.bool true) ∧ Below w.heap.size w w' := by
  by_cases hc : chk n ls = 0
  · obtain ⟨m, rfl, hg⟩ := good_of hc
    have KP := fun w hr => points_ok m v ls w hr hg
    have hm1 := hg.1
    have hm8 := hg.2.1
    have HF : Hid (2 ≤ m → (cutsUp (beside m ls) m).length + 2 ≤ m) := fun h2 => cuts_few hg h2
    have hlen : ((cutsUp (beside m ls) m).map fun (i : Nat) => (i : Int)).length = (cutsUp (beside m ls) m).length := by simp
    rw [← hlen] at HF
    generalize (cutsUp (beside m ls) m).map (fun (i : Nat) => (i : Int)) = Q at *
    clear hc hg hlen
    go_enter Try.func4, Try.ntmps4
    go_wp2_with fail
    refine (cutsFact_any _).mono ?_
    rintro e w1 ⟨rfl, hB1⟩
    go_wp2_with fail
    refine (KP _ (hr.later hB1)).mono ?_
    rintro e w2 ⟨ap, cp, rfl, op, hB2⟩
    have hB := below_c hB1 hB2
    have wm : IntKind.i64.wrap ((m : Int) - 2) = (m : Int) - 2 := IntWalk.i64_in _ (by omega)
    clear op KP
    by_cases h2 : m < 2
    · have hd : decide ((m : Int) < 2) = true := by simp; omega
      have hi2 : (m : Int) < 2 := by omega
      clear h2
      go_wp2
      go_ret
      exact ⟨rfl, hB⟩
    · have hd : decide ((m : Int) < 2) = false := by simp; omega
      have hi2 : ¬ (m : Int) < 2 := by omega
      have hq := HF.out (by omega)
      generalize Q.length = q at *
      have hqd : decide ((q : Int) ≤ (m : Int) - 2) = true := by simp; omega
      have hqi : (q : Int) ≤ (m : Int) - 2 := by omega
      clear h2
      go_wp2
      go_ret
      exact ⟨by first | rfl | simp, hB⟩
  · have KP := fun w hr => points_bad n v ls w hr hc
    clear hc
    go_enter Try.func4, Try.ntmps4
    go_wp2_with fail
    refine (cutsFact_any _).mono ?_
    rintro e w1 ⟨rfl, hB1⟩
    go_wp2_with fail
    refine (KP _ (hr.later hB1)).mono ?_
    rintro e w2 ⟨rfl, hB2⟩
    have hB := below_c hB1 hB2
    clear KP
    go_wp2
    go_ret
    exact ⟨rfl, hB⟩
end Go.Proofs.Ytjeafgnaoncphaa
