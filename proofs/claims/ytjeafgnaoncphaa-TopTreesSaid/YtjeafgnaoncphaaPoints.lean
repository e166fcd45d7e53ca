/- What the parts of cuts.Points return: the walks. Conditions: in each statement. -/
import Derived.Test.YtjeafgnaoncphaaReach
import Derived.Deep.RegionHeld3
namespace Go.Proofs.Ytjeafgnaoncphaa
open Go.RowKit Gr

set_option maxRecDepth 100000 in
set_option maxHeartbeats 2000000 in
theorem points1_any (n f j Wn BL BB BA g m c : Nat) (sv : Value) (O : List Nat) (W : World) (hn8 : n ≤ 8) (hr : Rd W sv n (setsOf O)) (hlen : O.length = n) (hS : Small O) (hAB : Bounded n O) (hf : f < n) (hW : Wn < 256) (hj : j < 64)
    (c1 : W.cell? ⟨BL, 0, none⟩ = some (.slice (some ⟨g, 0, none⟩) m c)) (hm : 0 < m) (c2 : W.cell? ⟨g, 0, none⟩ = some (.int .i64 (f : Int))) (c3 : W.cell? ⟨BB, 0, none⟩ = some sv) (c4 : W.cell? ⟨BA, 0, none⟩ = some (.int .u64 (Wn : Int)))
    (b1 : BL < W.heap.size) (b2 : g < W.heap.size) (b3 : BB < W.heap.size) (b4 : BA < W.heap.size) :
    Calls Try.prog 43 #[.int .i64 (j : Int), .pointer (some ⟨BL, 0, none⟩), .pointer (some ⟨BB, 0, none⟩), .pointer (some ⟨BA, 0, none⟩)] W
      fun e W' => ∃ s : Nat, e = .returned (.bool (!s.testBit j)) ∧ s < 256 ∧ IsReach O Wn f s ∧ Below W.heap.size W W' := by
  obtain ⟨as', cs', rfl⟩ : ∃ a c, sv = .slice a n c := by obtain ⟨a, c, h, _⟩ := hr; exact ⟨a, c, h⟩
  have hm0 : (0 : Int) < (m : Int) := by omega
  have hD : Below W.heap.size W W.drew := (Below.refl _ _).drew
  have K := reach_ok n f Wn _ O W.drew hn8 (hr.later hD) hlen hS hAB hf hW
  go_enter Try.func43, Try.ntmps43
  go_wp2
  go_region_held3 (fun w' => w'.cell? ⟨BL, 0, none⟩ = some (.slice (some ⟨g, 0, none⟩) m c) ∧ w'.cell? ⟨g, 0, none⟩ = some (.int .i64 (f : Int)) ∧ w'.cell? ⟨BB, 0, none⟩ = some (.slice as' n cs') ∧ w'.cell? ⟨BA, 0, none⟩ = some (.int .u64 (Wn : Int)))
    (first | go_keep | exact ⟨(hB.cell (p := ⟨BL, 0, none⟩) b1).trans c1, (hB.cell (p := ⟨g, 0, none⟩) b2).trans c2, (hB.cell (p := ⟨BB, 0, none⟩) b3).trans c3, (hB.cell (p := ⟨BA, 0, none⟩) b4).trans c4⟩)
    (first
      | (go_at_call 44; refine K.mono ?_; rintro e w2 ⟨s, rfl, hs, hR, hB⟩)
      | (go_at_call 45; refine (has_any s j _ (by omega) (by omega)).mono ?_; rintro e w3 ⟨rfl, rfl⟩))
  all_goals
    try go_wp2
  all_goals
    go_ret
    exact ⟨s, by simp, hs, hR, hD.trans hB⟩

/-- what the closure of cuts.Points answers of j -/
def PtsAns (O : List Nat) (Wn f j : Nat) (b : Bool) : Prop := ∃ s : Nat, b = (!s.testBit j) ∧ IsReach O Wn f s

set_option maxRecDepth 100000 in
set_option maxHeartbeats 2000000 in
theorem pointsIndex_any (n f Wn BL BB BA g m c : Nat) (sv : Value) (O : List Nat) (v : Value) (xs : List Nat) (W : World) (hn8 : n ≤ 8) (hr : Rd W sv n (setsOf O)) (hlen : O.length = n) (hS : Small O) (hAB : Bounded n O) (hf : f < n) (hW : Wn < 256)
    (hv : Rd W v xs.length (nats xs)) (hx : ∀ x ∈ xs, x < 8) (hxl : xs.length ≤ 8)
    (c1 : W.cell? ⟨BL, 0, none⟩ = some (.slice (some ⟨g, 0, none⟩) m c)) (hm : 0 < m) (c2 : W.cell? ⟨g, 0, none⟩ = some (.int .i64 (f : Int))) (c3 : W.cell? ⟨BB, 0, none⟩ = some sv) (c4 : W.cell? ⟨BA, 0, none⟩ = some (.int .u64 (Wn : Int)))
    (b1 : BL < W.heap.size) (b2 : g < W.heap.size) (b3 : BB < W.heap.size) (b4 : BA < W.heap.size) :
    Calls Try.prog 65 #[v, .func (.func 43) #[] #[.pointer (some ⟨BL, 0, none⟩), .pointer (some ⟨BB, 0, none⟩), .pointer (some ⟨BA, 0, none⟩)]] W
      fun e W' => ∃ k : Int, e = .returned (.int .i64 k) ∧ ((∃ i : Nat, ∃ h : i < xs.length, k = i ∧ PtsAns O Wn f xs[i] true) ∨ (k = -1 ∧ ∀ i : Nat, (h : i < xs.length) → PtsAns O Wn f xs[i] false)) ∧ Below W.heap.size W W' := by
  obtain ⟨av, cv, rfl⟩ : ∃ a c, v = .slice a xs.length c := by obtain ⟨a, c, h, _⟩ := hv; exact ⟨a, c, h⟩
  go_enter Try.func65, Try.ntmps65
  go_wp2
  go_loopw [8] (fun i wr => ∃ k : Nat, k ≤ xs.length ∧ i = .int .i64 k ∧ Hid (∀ i : Nat, (h : i < xs.length) → i < k → PtsAns O Wn f xs[i] false) ∧ Below W.heap.size W wr) (fun i _ => xs.length - (intOf i).toNat)
  case atStart => exact ⟨0, by omega, rfl, fun i _ h => by omega, Below.refl _ _⟩
  case round =>
    obtain ⟨k, hk, rfl, HA, hB⟩ := hrel
    by_cases hlt : k < xs.length
    · have hki : (k : Int) < (xs.length : Int) := by omega
      obtain ⟨_, _, e, _, _, _, hcx⟩ := hv.later hB
      cases e
      obtain ⟨b, off, rfl, hb, hc⟩ := hcx (by omega)
      have hck := hc k (.int .i64 ((xs[k] : Nat) : Int)) (by simp [nats, hlt])
      have hx8 := hx _ (List.getElem_mem hlt)
      have hbs := hB.size
      have K := points1_any n f xs[k] Wn BL BB BA g m c sv O wr hn8 (hr.later hB) hlen hS hAB hf hW (by omega) ((hB.cell (p := ⟨BL, 0, none⟩) b1).trans c1) hm ((hB.cell (p := ⟨g, 0, none⟩) b2).trans c2) ((hB.cell (p := ⟨BB, 0, none⟩) b3).trans c3) ((hB.cell (p := ⟨BA, 0, none⟩) b4).trans c4) (by omega) (by omega) (by omega) (by omega)
      have HAN : Hid (∀ s, IsReach O Wn f s → ∀ b, b = (!s.testBit xs[k]) → PtsAns O Wn f xs[k] b) := fun s h b e => ⟨s, e, h⟩
      have HX : Hid (∀ y, y = xs[k] → (PtsAns O Wn f y true → PtsAns O Wn f xs[k] true)) := fun y e h => e ▸ h
      clear c1 c2 c3 c4 hc hcx
      generalize hxk : xs[k] = x at *
      have HXK := Lib.hid hxk
      clear hxk
      go_wp2_with fail
      refine K.mono ?_
      rintro e w2 ⟨s, rfl, hs, hR, hB2⟩
      have hB12 := below_c hB hB2
      cases hbt : s.testBit x with
      | false =>
        have HT := Lib.hid (HAN.out s hR true (by rw [hbt]; rfl))
        clear hbt
        go_wp2
        go_ret
        exact ⟨_, rfl, .inl ⟨k, hlt, rfl, by rw [HXK.out]; exact HT.out⟩, hB12⟩
      | true =>
        have HT := Lib.hid (HAN.out s hR false (by rw [hbt]; rfl))
        clear hbt
        go_wp2
        go_roundw
        case rel =>
          refine ⟨k + 1, by omega, by go_num, fun i h hi => ?_, hB12⟩
          by_cases e : i = k
          · subst e; rw [HXK.out]; exact HT.out
          · exact HA.out i h (by omega)
        case measure => simp [intOf]; omega
    · go_wp2
      go_ret
      exact ⟨_, rfl, .inr ⟨rfl, fun i h => HA.out i h (by omega)⟩, hB⟩

set_option maxHeartbeats 1000000 in
theorem pointsAny_any (n f Wn BL BB BA g m c : Nat) (sv : Value) (O : List Nat) (v : Value) (xs : List Nat) (W : World) (hn8 : n ≤ 8) (hr : Rd W sv n (setsOf O)) (hlen : O.length = n) (hS : Small O) (hAB : Bounded n O) (hf : f < n) (hW : Wn < 256)
    (hv : Rd W v xs.length (nats xs)) (hx : ∀ x ∈ xs, x < 8) (hxl : xs.length ≤ 8)
    (c1 : W.cell? ⟨BL, 0, none⟩ = some (.slice (some ⟨g, 0, none⟩) m c)) (hm : 0 < m) (c2 : W.cell? ⟨g, 0, none⟩ = some (.int .i64 (f : Int))) (c3 : W.cell? ⟨BB, 0, none⟩ = some sv) (c4 : W.cell? ⟨BA, 0, none⟩ = some (.int .u64 (Wn : Int)))
    (b1 : BL < W.heap.size) (b2 : g < W.heap.size) (b3 : BB < W.heap.size) (b4 : BA < W.heap.size) :
    Calls Try.prog 42 #[v, .func (.func 43) #[] #[.pointer (some ⟨BL, 0, none⟩), .pointer (some ⟨BB, 0, none⟩), .pointer (some ⟨BA, 0, none⟩)]] W
      fun e W' => ∃ b : Bool, e = .returned (.bool b) ∧ ((b = true ∧ ∃ i : Nat, ∃ h : i < xs.length, PtsAns O Wn f xs[i] true) ∨ (b = false ∧ ∀ i : Nat, (h : i < xs.length) → PtsAns O Wn f xs[i] false)) ∧ Below W.heap.size W W' := by
  have K := pointsIndex_any n f Wn BL BB BA g m c sv O v xs W hn8 hr hlen hS hAB hf hW hv hx hxl c1 hm c2 c3 c4 b1 b2 b3 b4
  go_enter Try.func42, Try.ntmps42
  go_wp2_with fail
  refine K.mono ?_
  rintro e w2 ⟨k, rfl, h, hB⟩
  have H := Lib.hid h
  have HK : Hid (0 ≤ k ∨ k = -1) := by
    show _ ∨ _
    rcases h with ⟨i, _, e, _⟩ | ⟨e, _⟩
    · exact .inl (by omega)
    · exact .inr e
  clear h K
  by_cases hk : 0 ≤ k
  · have hd : decide (k ≥ 0) = true := by simp; exact hk
    go_wp2
    go_ret
    refine ⟨true, by first | rfl | simp [hk], .inl ⟨rfl, ?_⟩, hB⟩
    rcases H.out with ⟨i, hi, _, ha⟩ | ⟨e, _⟩
    · exact ⟨i, hi, ha⟩
    · omega
  · have hd : decide (k ≥ 0) = false := by simp; omega
    go_wp2
    go_ret
    refine ⟨false, by first | rfl | (simp; omega), .inr ⟨rfl, ?_⟩, hB⟩
    rcases H.out with ⟨i, hi, e, _⟩ | ⟨_, ha⟩
    · omega
    · exact ha

end Go.Proofs.Ytjeafgnaoncphaa
