/- What degree.Of, degree.Check, E.Sum return: the walks. Conditions: in each statement. -/
import Derived.Test.YtjeafgnaoncphaaHandsP
import Derived.Test.YtjeafgnaoncphaaNear
namespace Go.Proofs.Ytjeafgnaoncphaa
open Go.RowKit Gr
open El (allIn)

/-- the lines as a plain graph -/
def rN (ls : List Ln) (a b : Nat) : Bool := near ls a b
theorem rN_symm (ls : List Ln) (a b : Nat) : rN ls a b = rN ls b a := near_symm ls a b
theorem rN_irr {n : Nat} {ls : List Ln} (hg : GoodG n ls) (a : Nat) : rN ls a a = false := by
  cases h : rN ls a a with
  | false => rfl
  | true => exact absurd rfl (near_in hg h).2.2.2.2
/-- how many are beside each point -/
def degN (n : Nat) (ls : List Ln) : List Nat := (List.range n).map (dg (rN ls) n)
def degI (n : Nat) (ls : List Ln) : List Int := (degN n ls).map fun (i : Nat) => (i : Int)
theorem degN_length (n : Nat) (ls : List Ln) : (degN n ls).length = n := by simp [degN]
theorem degI_length (n : Nat) (ls : List Ln) : (degI n ls).length = n := by simp [degI, degN]
theorem near_dg (n : Nat) (ls : List Ln) (a : Nat) : (nearU ls a n).length = dg (rN ls) n a := by simp [nearU, dg, rN]
theorem rows_deg {n : Nat} {ls : List Ln} (hg : GoodG n ls) {k : Nat} (hk : k < n) (h : k < (besideRows n ls).length) : (besideRows n ls)[k].length = dg (rN ls) n k := by
  rw [← near_dg, near_pt hg k hk]
  simp [besideRows]
theorem degI_at {n : Nat} {ls : List Ln} {k : Nat} (h : k < (degI n ls).length) : (degI n ls)[k] = ((dg (rN ls) n k : Nat) : Int) := by simp [degI, degN]
theorem degI_in {n : Nat} {ls : List Ln} (hg : GoodG n ls) : ∀ x ∈ degI n ls, 0 ≤ x ∧ x ≤ (n : Int) - 1 := by
  intro x hx
  obtain ⟨y, hy, rfl⟩ := List.mem_map.1 hx
  obtain ⟨a, ha, rfl⟩ := List.mem_map.1 hy
  have := dg_lt (rN_irr hg) (List.mem_range.1 ha)
  omega

/-- what is wrong with some numbers -/
def degChk (xs : List Int) : Nat := if xs.length = 0 then 5 else if 8 < xs.length then 4 else if allIn xs 0 7 = true then 0 else 1

theorem degChk_zero {xs : List Int} : degChk xs = 0 ↔ (0 < xs.length ∧ xs.length ≤ 8 ∧ ∀ x ∈ xs, 0 ≤ x ∧ x ≤ 7) := by
  unfold degChk
  by_cases h0 : xs.length = 0
  · rw [if_pos h0]; omega
  · rw [if_neg h0]
    by_cases h8 : 8 < xs.length
    · rw [if_pos h8]; omega
    · rw [if_neg h8]
      by_cases h : allIn xs 0 7 = true
      · rw [if_pos h]
        exact ⟨fun _ => ⟨by omega, by omega, fun x hx => by have := List.all_eq_true.1 h x hx; simpa using this⟩, fun _ => rfl⟩
      · rw [if_neg h]
        refine ⟨fun e => by omega, fun h2 => absurd (List.all_eq_true.2 fun x hx => ?_) h⟩
        have := h2.2.2 x hx
        simpa using this

theorem sum_take_in {xs : List Int} (h : ∀ x ∈ xs, 0 ≤ x ∧ x ≤ 100) (k : Nat) (hk : xs.length ≤ 100) : 0 ≤ (xs.take k).sum ∧ (xs.take k).sum ≤ 10000 := by
  have key : ∀ ys : List Int, (∀ x ∈ ys, 0 ≤ x ∧ x ≤ 100) → 0 ≤ ys.sum ∧ ys.sum ≤ 100 * (ys.length : Int) := by
    intro ys
    induction ys with
    | nil => intro _; simp
    | cons y ys ih =>
      intro h
      have h1 := ih fun x hx => h x (List.mem_cons_of_mem _ hx)
      have h2 := h y List.mem_cons_self
      rw [List.sum_cons, List.length_cons]
      omega
  have h1 := key (xs.take k) fun x hx => h x (List.mem_of_mem_take hx)
  have h2 : (xs.take k).length ≤ 100 := by simp; omega
  omega
theorem sum_take_succ {xs : List Int} {k : Nat} (h : k < xs.length) : (xs.take (k + 1)).sum = (xs.take k).sum + xs[k] := by
  rw [List.take_succ_eq_append_getElem h, List.sum_append]; simp

set_option maxRecDepth 100000 in
set_option maxHeartbeats 1000000 in
theorem sum_ok (v : Value) (n : Nat) (xs : List Int) (w : World) (hr : Rd w v n (ints xs)) (hx : xs.length = n) (hn : n ≤ 100) (h : ∀ x ∈ xs, 0 ≤ x ∧ x ≤ 100) :
    Calls Try.prog 25 #[v] w fun e w' => e = .returned (.int .i64 xs.sum) ∧ w = w' := by
  have HX := Lib.hid hx
  have HIN := Lib.hid h
  obtain ⟨a, c, rfl, hnc, hcm, h0, hcell⟩ := hr
  unfold maxLen at hcm
  clear hx h h0
  go_enter Try.func25, Try.ntmps25
  go_wp2
  go_loop [3, 4] (fun z i => ∃ k : Nat, k ≤ n ∧ i = .int .i64 k ∧ z = .int .i64 (xs.take k).sum) (fun _ i => n - (intOf i).toNat)
  case atStart => exact ⟨0, by omega, rfl, rfl⟩
  case round =>
    obtain ⟨k, hk, rfl, rfl⟩ := hrel
    have hs := sum_take_in HIN.out k (by rw [HX.out]; exact hn)
    by_cases hlt : k < n
    · have hki : (k : Int) < (n : Int) := by omega
      have hkx : k < xs.length := by rw [HX.out]; exact hlt
      obtain ⟨b, off, rfl, hb, hc⟩ := hcell (by omega)
      have ck := hc k _ (ints_get hkx)
      have hxk := HIN.out _ (List.getElem_mem hkx)
      have HS := Lib.hid (sum_take_succ hkx)
      generalize xs[k] = x at *
      generalize (xs.take k).sum = s at *
      have ws : IntKind.i64.wrap (s + x) = s + x := IntWalk.i64_in _ (by omega)
      clear hc hcell
      go_wp2
      go_round
      case rel => exact ⟨k + 1, by omega, by go_num, by rw [HS.out]⟩
      case measure => simp [intOf]; omega
    · have e : xs.take k = xs := List.take_of_length_le (by rw [HX.out]; omega)
      rw [e]
      go_wp2
      go_ret
      exact ⟨rfl, rfl⟩

theorem rd_take {w : World} {a : Option Addr} {c n k : Nat} {cs : List Value} (h : Rd w (.slice a n c) n cs) (hk : k ≤ n) : Rd w (.slice a k c) k (cs.take k) := by
  obtain ⟨a', c', e, h2, h3, h4, h5⟩ := h
  cases e
  refine ⟨a, c, rfl, by omega, h3, fun h => ?_, fun hn => ?_⟩
  · subst h; rfl
  · obtain ⟨b, off, e, hb, hc⟩ := h5 (by omega)
    refine ⟨b, off, e, hb, fun j u hu => hc j u ?_⟩
    rw [List.getElem?_take] at hu
    split at hu
    · exact hu
    · cases hu
end Go.Proofs.Ytjeafgnaoncphaa
