/- What E.Rows, R.Has, E.Back return: the walks. Conditions: in each statement. -/
import Derived.Test.YtjeafgnaoncphaaGraph
import Derived.Test.YtjeafgnaoncphaaSame
namespace Go.Proofs.Ytjeafgnaoncphaa
open Go.RowKit Gr

theorem RowsRd.at {w : World} {us : List Value} {rows : List (List Int)} (h : All2 (fun u xs => Rd w u xs.length (ints xs)) us rows) {k : Nat} (hk : k < rows.length) : ∃ u, us[k]? = some u ∧ Rd w u rows[k].length (ints rows[k]) := h.at hk
theorem rowsNe_at {xs ys : List (List Int)} {k : Nat} (h1 : k < xs.length) (h2 : k < ys.length) (h : xs[k] ≠ ys[k]) : xs ≠ ys := by
  intro e; subst e; exact h rfl
theorem rowsEq_take {xs ys : List (List Int)} (hl : xs.length = ys.length) (h : ∀ j (h1 : j < xs.length) (h2 : j < ys.length), xs[j] = ys[j]) : xs = ys :=
  List.ext_getElem hl h

theorem has_take {xs : List Int} {n : Int} {k : Nat} (hk : k < xs.length) (h : n ∉ xs.take k) (hne : xs[k] ≠ n) : n ∉ xs.take (k + 1) := by
  rw [List.take_succ_eq_append_getElem hk]
  intro hm
  rcases List.mem_append.1 hm with h1 | h1
  · exact h h1
  · exact hne (List.mem_singleton.1 h1).symm

set_option maxRecDepth 100000 in
set_option maxHeartbeats 1000000 in
theorem refHas_any (v : Value) (xs : List Int) (n : Int) (w : World) (hr : Rd w v xs.length (ints xs)) :
    Calls Try.prog 14 #[v, .int .i64 n] w fun e w' => e = .returned (.bool (decide (n ∈ xs))) ∧ w = w' := by
  obtain ⟨a1, c1, rfl, hnc1, hcm1, h01, hcell1⟩ := hr
  unfold maxLen at hcm1
  clear h01
  go_enter Try.func14, Try.ntmps14
  go_wp2
  go_loopw [5] (fun i wr => ∃ k : Nat, k ≤ xs.length ∧ i = .int .i64 k ∧ wr = w ∧ Hid (n ∉ xs.take k)) (fun i _ => xs.length - (intOf i).toNat)
  case atStart => exact ⟨0, by omega, rfl, rfl, by show _ ∉ _; simp⟩
  case round =>
    obtain ⟨k, hk, rfl, rfl, HE⟩ := hrel
    by_cases hlt : k < xs.length
    · obtain ⟨b1, off1, rfl, hb1, hc1⟩ := hcell1 (by omega)
      have hck1 := hc1 k _ (ints_get hlt)
      have hi1 : (k : Int) < (xs.length : Int) := by omega
      by_cases hx : xs[k] = n
      · have hbx : (xs[k] == n) = true := by simp [hx]
        have HX : Hid (n ∈ xs) := by show _ ∈ _; rw [← hx]; exact List.getElem_mem hlt
        clear hx
        go_wp2
        go_ret
        exact ⟨ret_bool (decide_eq_true HX.out).symm, rfl⟩
      · have hbx : (xs[k] == n) = false := by simp [hx]
        have HX := Lib.hid (has_take hlt HE.out hx)
        clear hx
        go_wp2
        go_roundw
        case rel => exact ⟨k + 1, by omega, by go_num, trivial, HX⟩
        case measure => simp [intOf]; omega
    · have e : xs.take k = xs := List.take_of_length_le (by omega)
      rw [e] at HE
      clear e
      go_wp2
      go_ret
      exact ⟨ret_bool (decide_eq_false HE.out).symm, rfl⟩

end Go.Proofs.Ytjeafgnaoncphaa
