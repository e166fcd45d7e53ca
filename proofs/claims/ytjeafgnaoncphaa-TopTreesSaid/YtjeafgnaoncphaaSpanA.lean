/- SpanA: what several texts say, in one: SpanSort, SpanMerge, SpanCheck. Conditions: in each statement. -/
import Derived.Test.YtjeafgnaoncphaaLitA
import Derived.Test.YtjeafgnaoncphaaReach
import Derived.Great.Walk

namespace Go.Proofs.Ytjeafgnaoncphaa
open Go.RowKit Gr

/-- lines that cost 3 each, as cells -/
def cellsC (ls : List Ln) : List Value := ls.flatMap fun l => [.int .i64 l.1, .int .i64 l.2, .int .i64 3]
theorem cellsC_append (a b : List Ln) : cellsC (a ++ b) = cellsC a ++ cellsC b := by simp [cellsC]
theorem cellsC_length (ls : List Ln) : (cellsC ls).length = ls.length * 3 := by
  induction ls with
  | nil => rfl
  | cons l ls ih => show ([_, _, _] ++ cellsC ls).length = _; rw [List.length_append, ih]; simp; omega
theorem cellsC_get : ∀ (ls : List Ln) (k : Nat) (h : k < ls.length), (cellsC ls)[k * 3]? = some (.int .i64 (ls[k]).1) ∧ (cellsC ls)[k * 3 + 1]? = some (.int .i64 (ls[k]).2) ∧ (cellsC ls)[k * 3 + 2]? = some (.int .i64 3) := by
  intro ls
  induction ls with
  | nil => intro k h; simp at h
  | cons l ls ih =>
    intro k h
    have e : cellsC (l :: ls) = [.int .i64 l.1, .int .i64 l.2, .int .i64 3] ++ cellsC ls := rfl
    rw [e]
    cases k with
    | zero => simp
    | succ k =>
      obtain ⟨h1, h2, h3⟩ := ih k (by simpa using h)
      rw [List.getElem?_append_right (by simp; omega), List.getElem?_append_right (by simp; omega), List.getElem?_append_right (by simp; omega)]
      simp only [List.length_cons, List.length_nil, List.getElem_cons_succ]
      rw [show (k + 1) * 3 - (0 + 1 + 1 + 1) = k * 3 from by omega, show (k + 1) * 3 + 1 - (0 + 1 + 1 + 1) = k * 3 + 1 from by omega, show (k + 1) * 3 + 2 - (0 + 1 + 1 + 1) = k * 3 + 2 from by omega]
      exact ⟨h1, h2, h3⟩
/-- v is a slice of lines that cost 3 each -/
def CostRd (w : World) (v : Value) (ls : List Ln) : Prop := Rd w v ls.length (cellsC ls)
theorem CostRd.later {w w' : World} {v : Value} {ls : List Ln} (h : CostRd w v ls) (hb : Below w.heap.size w w') : CostRd w' v ls := Rd.later h hb
theorem costs_at {W : World} {b off : Nat} {ls : List Ln} (hc : ∀ j u, (cellsC ls)[j]? = some u → W.cell? ⟨b, off + j, none⟩ = some u) {k : Nat} (h : k < ls.length) :
    W.cell? ⟨b, off + k * 3, none⟩ = some (.int .i64 (ls[k]).1) ∧ W.cell? ⟨b, off + k * 3 + 1, none⟩ = some (.int .i64 (ls[k]).2) ∧ W.cell? ⟨b, off + k * 3 + 2, none⟩ = some (.int .i64 3) := by
  obtain ⟨g1, g2, g3⟩ := cellsC_get ls k h
  have h1 := hc _ _ g1
  have h2 := hc _ _ g2
  have h3 := hc _ _ g3
  rw [← Nat.add_assoc] at h2 h3
  exact ⟨h1, h2, h3⟩

set_option maxHeartbeats 1000000 in
theorem isNaN_any (x : Int) (w : World) : Calls Try.prog 69 #[.int .i64 x] w fun e w' => e = .returned (.bool false) ∧ w = w' := by
  have hx : (x != x) = false := by simp
  go_enter Try.func69, Try.ntmps69
  go_wp2
  go_ret
  exact ⟨by first | rfl | rw [hx], rfl⟩

set_option maxHeartbeats 1000000 in
theorem compare_eq (x : Int) (w : World) : Calls Try.prog 57 #[.int .i64 x, .int .i64 x] w fun e w' => e = .returned (.int .i64 0) ∧ w = w' := by
  have h1 : decide (x < x) = false := by simp
  have h2 : decide (x > x) = false := by simp
  go_enter Try.func57, Try.ntmps57
  go_wp2_with fail
  refine (isNaN_any x _).mono ?_
  rintro e w1 ⟨rfl, rfl⟩
  go_wp2_with fail
  refine (isNaN_any x _).mono ?_
  rintro e w1 ⟨rfl, rfl⟩
  go_wp2
  go_ret
  exact ⟨rfl, rfl⟩

/-- the closure of span.Least finds no two lines apart -/
def EqF (W : World) (B k : Nat) : Prop := ∀ W', Below W.heap.size W W' → ∀ i j : Nat, i < k → j < k →
  Calls Try.prog 56 #[.int .i64 (i : Int), .int .i64 (j : Int), .pointer (some ⟨B, 0, none⟩)] W' fun e w' => e = .returned (.int .i64 0) ∧ ∃ q, w' = W'.drewN q
theorem EqF.later {W W' : World} {B k : Nat} (h : EqF W B k) (hb : Below W.heap.size W W') : EqF W' B k := fun W2 h2 => h W2 (below_c hb h2)

set_option maxRecDepth 100000 in
set_option maxHeartbeats 1000000 in
theorem least1_any (ls : List Ln) (B : Nat) (v : Value) (W : World) (hB : B < W.heap.size) (hc : W.cell? ⟨B, 0, none⟩ = some v) (hr : CostRd W v ls) (hl : ls.length ≤ 24) : EqF W B ls.length := by
  intro W' hb i j hi hj
  have hc' := (hb.cell (p := ⟨B, 0, none⟩) hB).trans hc
  obtain ⟨a, c, rfl, _, _, _, hcell⟩ := hr.later hb
  obtain ⟨b, off, rfl, hbb, hcx⟩ := hcell (by omega)
  have g1 := (costs_at hcx hi).2.2
  have g2 := (costs_at hcx hj).2.2
  have KC := fun w => compare_eq 3 w
  have hii : (i : Int) < (ls.length : Int) := by omega
  have hjj : (j : Int) < (ls.length : Int) := by omega
  clear hcx hcell hr hc hb hi hj
  generalize ls.length = n at *
  go_enter Try.func56, Try.ntmps56
  go_wp2_with fail
  go_quiet ((go_at_call 57; refine (KC _).mono ?_; rintro e w' ⟨rfl, rfl⟩; exact ⟨rfl, _, rfl⟩))
  go_wp2
  go_ret
  exact ⟨rfl, _, rfl⟩

set_option maxRecDepth 100000 in
set_option maxHeartbeats 1000000 in
theorem insEq (W : World) (B m : Nat) (hF : EqF W B m) (a : Option Addr) (c k : Nat) (ids : List Nat) (hr : Rd W (.slice a k c) k (nats ids)) (hl : ids.length = k) (hids : ∀ i ∈ ids, i < m) (p q : Nat) (hq : q ≤ k) (hpq : p ≤ q) (hk : k ≤ 100) :
    Calls Try.prog 81 #[.slice a k c, .int .i64 (p : Int), .int .i64 (q : Int), .func (.func 56) #[] #[.pointer (some ⟨B, 0, none⟩)]] W fun e w' => e = .returned (.tuple #[]) ∧ Below W.heap.size W w' := by
  have wp1 : IntKind.i64.wrap ((p : Int) + 1) = (p : Int) + 1 := IntWalk.i64_in _ (by omega)
  go_enter Try.func81, Try.ntmps81
  go_wp2
  go_loopw [8, 9] (fun ii _ wr => ∃ i : Nat, p + 1 ≤ i ∧ i ≤ max q (p + 1) ∧ ii = .int .i64 i ∧ Below W.heap.size W wr) (fun ii _ _ => q - (intOf ii).toNat)
  case atStart => exact ⟨p + 1, by omega, by omega, by go_num, Below.refl _ _⟩
  case round =>
    obtain ⟨i, hi1, hi2, rfl, hB⟩ := hrel
    by_cases hlt : i < q
    · obtain ⟨j, rfl⟩ : ∃ j, i = j + 1 := ⟨i - 1, by omega⟩
      have hki : (j : Int) + 1 < (q : Int) := by omega
      have hpi : (j : Int) + 1 > (p : Int) := by omega
      have hdp : decide ((j : Int) + 1 > (p : Int)) = true := by simp; omega
      have w1 : IntKind.i64.wrap (j : Int) = (j : Int) := IntWalk.i64_in _ (by omega)
      have w2 : IntKind.i64.wrap ((j : Int) + 1 + 1) = (j : Int) + 1 + 1 := IntWalk.i64_in _ (by omega)
      obtain ⟨_, _, e, _, _, _, hcx⟩ := hr.later hB
      cases e
      obtain ⟨b, off, rfl, hb, hc⟩ := hcx (by omega)
      have i1 : j + 1 < ids.length := by omega
      have i2 : j < ids.length := by omega
      have c1 := hc (j + 1) (.int .i64 ((ids[j + 1] : Nat) : Int)) (by simp [nats, i1])
      have c2 := hc j (.int .i64 ((ids[j] : Nat) : Int)) (by simp [nats, i2])
      have KF := fun w (h : Below wr.heap.size wr w) => hF w (below_c hB h) ids[j + 1] ids[j] (hids _ (List.getElem_mem _)) (hids _ (List.getElem_mem _))
      have t1 : ((j : Int) + 1).toNat = j + 1 := by omega
      have n0 : (0 : Int) ≤ (j : Int) + 1 := by omega
      have n2 : (j : Int) < (k : Int) := by omega
      have n3 : (j : Int) + 1 < (k : Int) := by omega
      clear hc hcx hr hF hids
      generalize ids[j + 1] = x at *
      generalize ids[j] = y at *
      go_wp2_with fail
      refine wp_loop_rounds 1 ?_
      rw [rounds_succ]
      go_wp2_with fail
      go_quiet ((go_at_call 56; refine (KF _ (below_drewN' _ _)).mono ?_; rintro e w' ⟨rfl, q, rfl⟩; exact ⟨rfl, _, World.drewN_drewN _ _ _⟩))
      go_wp2
      go_roundw
      case rel => exact ⟨j + 1 + 1, by omega, by omega, by go_num, hB.trans ((below_drewN' _ _).mono hB.size)⟩
      case measure => simp [intOf]; omega
    · have hki : ¬ (i : Int) < (q : Int) := by omega
      go_wp2
      go_end0
      exact ⟨rfl, hB⟩
end Go.Proofs.Ytjeafgnaoncphaa


namespace Go.Proofs.Ytjeafgnaoncphaa
open Go.RowKit Gr

theorem rd_ids {W : World} {a : Option Addr} {c k : Nat} {ids : List Nat} (h : Rd W (.slice a k c) k (nats ids)) (hl : ids.length = k) (hk : 0 < k) :
    ∃ b off, a = some ⟨b, off, none⟩ ∧ ∀ x, x < k → W.cell? ⟨b, off + x, none⟩ = some (.int .i64 (((ids[x]?.getD 0 : Nat) : Int))) := by
  obtain ⟨_, _, e, _, _, _, hc⟩ := h
  cases e
  obtain ⟨b, off, rfl, _, hcx⟩ := hc hk
  refine ⟨b, off, rfl, fun x hx => hcx x _ ?_⟩
  have : x < ids.length := by omega
  simp [nats, this]
theorem ids_lt {ids : List Nat} {M k : Nat} (h : ∀ i ∈ ids, i < M) (hl : ids.length = k) {x : Nat} (hx : x < k) : ids[x]?.getD 0 < M := by
  have : x < ids.length := by omega
  rw [List.getElem?_eq_getElem this]
  exact h _ (List.getElem_mem this)

-- two elements are compared: neither is less

set_option maxRecDepth 100000 in
set_option maxHeartbeats 4000000 in
theorem sym_one (B M : Nat) (a : Option Addr) (c k : Nat) (ids : List Nat) (hl : ids.length = k) (hids : ∀ i ∈ ids, i < M) (hk : k ≤ 100) (p m q : Nat) (W : World) (hpm : p < m) (hmq : m < q) (hqk : q ≤ k) (hF : EqF W B M) (hr : Rd W (.slice a k c) k (nats ids)) (h1 : m = p + 1 ∨ q = m + 1) :
    Calls Try.prog 82 #[.slice a k c, .int .i64 (p : Int), .int .i64 (m : Int), .int .i64 (q : Int), .func (.func 56) #[] #[.pointer (some ⟨B, 0, none⟩)]] W fun e w' => e = .returned (.tuple #[]) ∧ Below W.heap.size W w' := by
  obtain ⟨b, off, rfl, _⟩ := rd_ids hr hl (by omega)
  have HC : Hid (∀ w, Below W.heap.size W w → ∀ x, x < k → w.cell? ⟨b, off + x, none⟩ = some (.int .i64 (((ids[x]?.getD 0 : Nat) : Int)))) := fun w hw x hx => by
    obtain ⟨b', off', e, hc⟩ := rd_ids (hr.later hw) hl (by omega)
    cases e
    exact hc x hx
  have HI : Hid (∀ x, x < k → ids[x]?.getD 0 < M) := fun x hx => ids_lt hids hl hx
  have HFF := Lib.hid hF
  clear hr hF hids
  by_cases hm1 : m = p + 1
  · have hd : ((m : Int) - (p : Int) == 1) = true := by simp; omega
    have b1 : m ≤ p + 1 := by omega
    clear hm1 h1
    go_enter Try.func82, Try.ntmps82
    go_wp2
    go_loopw [10, 11, 12] (fun ii jj _ wr => ∃ j : Nat, m ≤ j ∧ j ≤ q ∧ ii = .int .i64 (m : Int) ∧ jj = .int .i64 j ∧ Below W.heap.size W wr) (fun _ jj _ _ => (intOf jj).toNat - p)
    case atStart => exact ⟨q, by omega, by omega, rfl, rfl, Below.refl _ _⟩
    case round =>
      obtain ⟨j, hj1, hj2, rfl, rfl, hB⟩ := hrel
      by_cases hlt : m < j
      · have hlj : (m : Int) < (j : Int) := by omega
        obtain ⟨h, hh⟩ : ∃ h : Nat, ((m : Int) + (j : Int)) / 2 = (h : Int) := ⟨(m + j) / 2, by omega⟩
        have hb1 : m ≤ h := by omega
        have hb2 : h < j := by omega
        have c1 := HC.out wr hB _ (show h < k by omega)
        have c2 := HC.out wr hB _ (show p < k by omega)
        have KF := fun w (hbw : Below wr.heap.size wr w) => HFF.out w (below_c hB hbw) _ _ (HI.out _ (show h < k by omega)) (HI.out _ (show p < k by omega))
        have x1 : (h : Int) < (k : Int) := by omega
        have x2 : (p : Int) < (k : Int) := by omega
        have wh : IntKind.i64.wrap (h : Int) = (h : Int) := IntWalk.i64_in _ (by omega)
        generalize ids[h]?.getD 0 = x at *
        generalize ids[p]?.getD 0 = y at *
        go_wp2_with fail
        go_quiet ((go_at_call 56; refine (KF _ (below_drewN' _ _)).mono ?_; rintro e w' ⟨rfl, q, rfl⟩; exact ⟨rfl, _, World.drewN_drewN _ _ _⟩))
        go_wp2
        go_roundw
        case rel => exact ⟨h, by omega, by omega, rfl, rfl, hB.trans ((below_drewN' _ _).mono hB.size)⟩
        case measure => simp [intOf]; omega
      · obtain rfl : m = j := by omega
        have w1 : IntKind.i64.wrap ((m : Int) - 1) = (m : Int) - 1 := IntWalk.i64_in _ (by omega)
        have n1 : ¬ (p : Int) < (m : Int) - 1 := by omega
        have n2 : decide ((p : Int) < (m : Int) - 1) = false := by simp; omega
        go_wp2_with fail
        refine wp_loop_rounds 1 ?_
        rw [rounds_succ]
        go_wp2
        refine bodyPost_ret (results_none rfl _ _ _) rfl ?_
        exact ⟨rfl, hB⟩
  · have hd : ((m : Int) - (p : Int) == 1) = false := by simp; omega
    have hd2 : ((q : Int) - (m : Int) == 1) = true := by simp; omega
    have b1 : q ≤ m + 1 := by omega
    clear hm1 h1
    go_enter Try.func82, Try.ntmps82
    go_wp2
    go_loopw [14, 15, 16] (fun ii jj _ wr => ∃ i : Nat, p ≤ i ∧ i ≤ m ∧ ii = .int .i64 (i : Int) ∧ jj = .int .i64 (m : Int) ∧ Below W.heap.size W wr) (fun ii _ _ _ => m - (intOf ii).toNat)
    case atStart => exact ⟨p, by omega, by omega, rfl, rfl, Below.refl _ _⟩
    case round =>
      obtain ⟨i, hi1, hi2, rfl, rfl, hB⟩ := hrel
      by_cases hlt : i < m
      · have hli : (i : Int) < (m : Int) := by omega
        obtain ⟨h, hh⟩ : ∃ h : Nat, ((i : Int) + (m : Int)) / 2 = (h : Int) := ⟨(i + m) / 2, by omega⟩
        have hb1 : i ≤ h := by omega
        have hb2 : h < m := by omega
        have c1 := HC.out wr hB _ (show m < k by omega)
        have c2 := HC.out wr hB _ (show h < k by omega)
        have KF := fun w (hbw : Below wr.heap.size wr w) => HFF.out w (below_c hB hbw) _ _ (HI.out _ (show m < k by omega)) (HI.out _ (show h < k by omega))
        have x1 : (h : Int) < (k : Int) := by omega
        have x2 : (m : Int) < (k : Int) := by omega
        have wh : IntKind.i64.wrap (h : Int) = (h : Int) := IntWalk.i64_in _ (by omega)
        have wh1 : IntKind.i64.wrap ((h : Int) + 1) = (h : Int) + 1 := IntWalk.i64_in _ (by omega)
        generalize ids[m]?.getD 0 = x at *
        generalize ids[h]?.getD 0 = y at *
        go_wp2_with fail
        go_quiet ((go_at_call 56; refine (KF _ (below_drewN' _ _)).mono ?_; rintro e w' ⟨rfl, q, rfl⟩; exact ⟨rfl, _, World.drewN_drewN _ _ _⟩))
        go_wp2
        go_roundw
        case rel => exact ⟨h + 1, by omega, by omega, by go_num, rfl, hB.trans ((below_drewN' _ _).mono hB.size)⟩
        case measure => simp [intOf]; omega
      · obtain rfl : m = i := by omega
        have n2 : decide ((m : Int) > (m : Int)) = false := by simp
        go_wp2_with fail
        refine wp_loop_rounds 1 ?_
        rw [rounds_succ]
        go_wp2
        refine bodyPost_ret (results_none rfl _ _ _) rfl ?_
        exact ⟨rfl, hB⟩

-- the search of the place where the two halves are to be turned: it ends at its upper end

set_option maxRecDepth 100000 in
set_option maxHeartbeats 4000000 in
theorem sym_more (B M : Nat) (a : Option Addr) (c k : Nat) (ids : List Nat) (hl : ids.length = k) (hids : ∀ i ∈ ids, i < M) (hk : k ≤ 100) (p m q : Nat) (W : World) (hpm : p + 1 < m) (hmq : m + 1 < q) (hqk : q ≤ k) (hF : EqF W B M) (hr : Rd W (.slice a k c) k (nats ids))
    (ih : ∀ (p' m' q' : Nat) (W' : World), q' - p' < q - p → p' < m' → m' < q' → q' ≤ k → EqF W' B M → Rd W' (.slice a k c) k (nats ids) →
      Calls Try.prog 82 #[.slice a k c, .int .i64 (p' : Int), .int .i64 (m' : Int), .int .i64 (q' : Int), .func (.func 56) #[] #[.pointer (some ⟨B, 0, none⟩)]] W' fun e w' => e = .returned (.tuple #[]) ∧ Below W'.heap.size W' w') :
    Calls Try.prog 82 #[.slice a k c, .int .i64 (p : Int), .int .i64 (m : Int), .int .i64 (q : Int), .func (.func 56) #[] #[.pointer (some ⟨B, 0, none⟩)]] W fun e w' => e = .returned (.tuple #[]) ∧ Below W.heap.size W w' := by
  obtain ⟨b, off, rfl, _⟩ := rd_ids hr hl (by omega)
  have HC : Hid (∀ w, Below W.heap.size W w → ∀ x, x < k → w.cell? ⟨b, off + x, none⟩ = some (.int .i64 (((ids[x]?.getD 0 : Nat) : Int)))) := fun w hw x hx => by
    obtain ⟨b', off', e, hc⟩ := rd_ids (hr.later hw) hl (by omega)
    cases e
    exact hc x hx
  have HI : Hid (∀ x, x < k → ids[x]?.getD 0 < M) := fun x hx => ids_lt hids hl hx
  have HFF := Lib.hid hF
  have HIH : Hid (∀ (p' m' q' : Nat) (W' : World), Below W.heap.size W W' → q' - p' < q - p → p' < m' → m' < q' → q' ≤ k →
      Calls Try.prog 82 #[.slice (some ⟨b, off, none⟩) k c, .int .i64 (p' : Int), .int .i64 (m' : Int), .int .i64 (q' : Int), .func (.func 56) #[] #[.pointer (some ⟨B, 0, none⟩)]] W' fun e w' => e = .returned (.tuple #[]) ∧ Below W'.heap.size W' w') :=
    fun p' m' q' W' hw h1 h2 h3 h4 => ih p' m' q' W' h1 h2 h3 h4 (hF.later hw) (hr.later hw)
  clear hr hF hids ih
  obtain ⟨z, hz⟩ : ∃ z : Nat, ((p : Int) + (q : Int)) / 2 = (z : Int) := ⟨(p + q) / 2, by omega⟩
  have z1 : 2 * z ≤ p + q := by omega
  have z2 : p + q ≤ 2 * z + 1 := by omega
  have wz : IntKind.i64.wrap (z : Int) = (z : Int) := IntWalk.i64_in _ (by omega)
  have d1 : ((m : Int) - (p : Int) == 1) = false := by simp; omega
  have d2 : ((q : Int) - (m : Int) == 1) = false := by simp; omega
  obtain ⟨g, hg⟩ : ∃ g : Nat, (z : Int) + (m : Int) - 1 = (g : Int) := ⟨z + m - 1, by omega⟩
  have wg : IntKind.i64.wrap (g : Int) = (g : Int) := IntWalk.i64_in _ (by omega)
  by_cases hmz : z < m
  · have d3 : decide ((m : Int) > (z : Int)) = true := by simp; omega
    obtain ⟨s0, hs0⟩ : ∃ s0 : Nat, (z : Int) + (m : Int) - (q : Int) = (s0 : Int) := ⟨z + m - q, by omega⟩
    have ws : IntKind.i64.wrap (s0 : Int) = (s0 : Int) := IntWalk.i64_in _ (by omega)
    go_enter Try.func82, Try.ntmps82
    go_wp2
    go_loopw [20, 21, 23] (fun ss rr _ wr => ∃ s : Nat, s0 ≤ s ∧ s ≤ z ∧ ss = .int .i64 (s : Int) ∧ rr = .int .i64 (z : Int) ∧ Below W.heap.size W wr) (fun ss _ _ _ => z - (intOf ss).toNat)
    case atStart => exact ⟨s0, by omega, by omega, rfl, rfl, Below.refl _ _⟩
    case round =>
      obtain ⟨s, hs1, hs2, rfl, rfl, hB⟩ := hrel
      by_cases hlt : s < z
      · have hls : (s : Int) < (z : Int) := by omega
        obtain ⟨h, hh⟩ : ∃ h : Nat, ((s : Int) + (z : Int)) / 2 = (h : Int) := ⟨(s + z) / 2, by omega⟩
        have hb1 : s ≤ h := by omega
        have hb2 : h < z := by omega
        obtain ⟨d, hd⟩ : ∃ d : Nat, (g : Int) - (h : Int) = (d : Int) := ⟨g - h, by omega⟩
        have c1 := HC.out wr hB _ (show d < k by omega)
        have c2 := HC.out wr hB _ (show h < k by omega)
        have KF := fun w (hbw : Below wr.heap.size wr w) => HFF.out w (below_c hB hbw) _ _ (HI.out _ (show d < k by omega)) (HI.out _ (show h < k by omega))
        have x1 : (h : Int) < (k : Int) := by omega
        have x2 : (d : Int) < (k : Int) := by omega
        have wh : IntKind.i64.wrap (h : Int) = (h : Int) := IntWalk.i64_in _ (by omega)
        have wd : IntKind.i64.wrap (d : Int) = (d : Int) := IntWalk.i64_in _ (by omega)
        have wh1 : IntKind.i64.wrap ((h : Int) + 1) = (h : Int) + 1 := IntWalk.i64_in _ (by omega)
        generalize ids[d]?.getD 0 = x at *
        generalize ids[h]?.getD 0 = y at *
        go_wp2_with fail
        go_quiet ((go_at_call 56; refine (KF _ (below_drewN' _ _)).mono ?_; rintro e w' ⟨rfl, q, rfl⟩; exact ⟨rfl, _, World.drewN_drewN _ _ _⟩))
        go_wp2
        go_roundw
        case rel => exact ⟨h + 1, by omega, by omega, by go_num, rfl, hB.trans ((below_drewN' _ _).mono hB.size)⟩
        case measure => simp [intOf]; omega
      · obtain rfl : z = s := by omega
        have we : IntKind.i64.wrap ((z : Int) + (m : Int) - (z : Int)) = (m : Int) := by rw [IntWalk.i64_in _ (by omega)]; omega
        have we2 : IntKind.i64.wrap (m : Int) = (m : Int) := IntWalk.i64_in _ (by omega)
        have l1 : decide ((z : Int) < (m : Int)) = true := by simp; omega
        have l2 : decide ((p : Int) < (z : Int)) = true := by simp; omega
        have l3 : decide ((m : Int) < (q : Int)) = true := by simp; omega
        have KI := fun w (hbw : Below wr.heap.size wr w) => HIH.out z m q w (below_c hB hbw) (by omega) (by omega) (by omega) (by omega)
        go_wp2_with fail
        refine (KI _ (Below.refl _ _)).mono ?_
        rintro e w' ⟨rfl, hB2⟩
        go_wp2
        go_end0
        exact ⟨rfl, below_c hB hB2⟩
  · have d3 : decide ((m : Int) > (z : Int)) = false := by simp; omega
    go_enter Try.func82, Try.ntmps82
    go_wp2
    go_loopw [20, 21, 23] (fun ss rr _ wr => ∃ s : Nat, p ≤ s ∧ s ≤ m ∧ ss = .int .i64 (s : Int) ∧ rr = .int .i64 (m : Int) ∧ Below W.heap.size W wr) (fun ss _ _ _ => m - (intOf ss).toNat)
    case atStart => exact ⟨p, by omega, by omega, rfl, rfl, Below.refl _ _⟩
    case round =>
      obtain ⟨s, hs1, hs2, rfl, rfl, hB⟩ := hrel
      by_cases hlt : s < m
      · have hls : (s : Int) < (m : Int) := by omega
        obtain ⟨h, hh⟩ : ∃ h : Nat, ((s : Int) + (m : Int)) / 2 = (h : Int) := ⟨(s + m) / 2, by omega⟩
        have hb1 : s ≤ h := by omega
        have hb2 : h < m := by omega
        obtain ⟨d, hd⟩ : ∃ d : Nat, (g : Int) - (h : Int) = (d : Int) := ⟨g - h, by omega⟩
        have c1 := HC.out wr hB _ (show d < k by omega)
        have c2 := HC.out wr hB _ (show h < k by omega)
        have KF := fun w (hbw : Below wr.heap.size wr w) => HFF.out w (below_c hB hbw) _ _ (HI.out _ (show d < k by omega)) (HI.out _ (show h < k by omega))
        have x1 : (h : Int) < (k : Int) := by omega
        have x2 : (d : Int) < (k : Int) := by omega
        have wh : IntKind.i64.wrap (h : Int) = (h : Int) := IntWalk.i64_in _ (by omega)
        have wd : IntKind.i64.wrap (d : Int) = (d : Int) := IntWalk.i64_in _ (by omega)
        have wh1 : IntKind.i64.wrap ((h : Int) + 1) = (h : Int) + 1 := IntWalk.i64_in _ (by omega)
        generalize ids[d]?.getD 0 = x at *
        generalize ids[h]?.getD 0 = y at *
        go_wp2_with fail
        go_quiet ((go_at_call 56; refine (KF _ (below_drewN' _ _)).mono ?_; rintro e w' ⟨rfl, q, rfl⟩; exact ⟨rfl, _, World.drewN_drewN _ _ _⟩))
        go_wp2
        go_roundw
        case rel => exact ⟨h + 1, by omega, by omega, by go_num, rfl, hB.trans ((below_drewN' _ _).mono hB.size)⟩
        case measure => simp [intOf]; omega
      · obtain rfl : m = s := by omega
        have we2 : IntKind.i64.wrap (z : Int) = (z : Int) := IntWalk.i64_in _ (by omega)
        have l1 : decide ((m : Int) < (m : Int)) = false := by simp
        have l2 : decide ((p : Int) < (m : Int)) = true := by simp; omega
        have l4 : decide ((z : Int) < (z : Int)) = false := by simp
        by_cases hz2 : m < z
        · have l3 : decide ((m : Int) < (z : Int)) = true := by simp; omega
          have KI := fun w (hbw : Below wr.heap.size wr w) => HIH.out p m z w (below_c hB hbw) (by omega) (by omega) (by omega) (by omega)
          go_wp2_with fail
          refine (KI _ (Below.refl _ _)).mono ?_
          rintro e w' ⟨rfl, hB2⟩
          go_wp2
          go_end0
          exact ⟨rfl, below_c hB hB2⟩
        · have l3 : decide ((m : Int) < (z : Int)) = false := by simp; omega
          go_wp2
          go_end0
          exact ⟨rfl, hB⟩

theorem symEq (B M : Nat) (a : Option Addr) (c k : Nat) (ids : List Nat) (hl : ids.length = k) (hids : ∀ i ∈ ids, i < M) (hk : k ≤ 100) : ∀ (t p m q : Nat) (W : World), q - p ≤ t → p < m → m < q → q ≤ k → EqF W B M → Rd W (.slice a k c) k (nats ids) →
    Calls Try.prog 82 #[.slice a k c, .int .i64 (p : Int), .int .i64 (m : Int), .int .i64 (q : Int), .func (.func 56) #[] #[.pointer (some ⟨B, 0, none⟩)]] W fun e w' => e = .returned (.tuple #[]) ∧ Below W.heap.size W w' := by
  intro t
  induction t with
  | zero => intro p m q W h1 h2 h3; omega
  | succ t ih =>
    intro p m q W ht hpm hmq hqk hF hr
    by_cases h1 : m = p + 1 ∨ q = m + 1
    · exact sym_one B M a c k ids hl hids hk p m q W hpm hmq hqk hF hr h1
    · exact sym_more B M a c k ids hl hids hk p m q W (by omega) (by omega) hqk hF hr fun p' m' q' W' h1 h2 h3 h4 h5 h6 => ih p' m' q' W' (by omega) h2 h3 h4 h5 h6

set_option maxRecDepth 100000 in
set_option maxHeartbeats 2000000 in
theorem stableEq (B M : Nat) (a : Option Addr) (c k : Nat) (ids : List Nat) (hl : ids.length = k) (hids : ∀ i ∈ ids, i < M) (hk : k ≤ 24) (W : World) (hF : EqF W B M) (hr : Rd W (.slice a k c) k (nats ids)) :
    Calls Try.prog 68 #[.slice a k c, .int .i64 (k : Int), .func (.func 56) #[] #[.pointer (some ⟨B, 0, none⟩)]] W fun e w' => e = .returned (.tuple #[]) ∧ Below W.heap.size W w' := by
  have KI := fun (p q : Nat) w (hw : Below W.heap.size W w) h1 h2 => insEq w B M (hF.later hw) a c k ids (hr.later hw) hl hids p q h1 h2 (by omega)
  have KS := fun (p m q : Nat) w (hw : Below W.heap.size W w) h1 h2 h3 => symEq B M a c k ids hl hids (by omega) q p m q w (by omega) h1 h2 h3 (hF.later hw) (hr.later hw)
  clear hF hr hids hl
  by_cases h20 : k < 20
  · have d1 : decide ((20 : Int) ≤ (k : Int)) = false := by simp; omega
    have d2 : decide ((20 : Int) < (k : Int)) = false := by simp; omega
    have i1 : ¬ (20 : Int) ≤ (k : Int) := by omega
    have i2 : ¬ (20 : Int) < (k : Int) := by omega
    have K1 := fun w hw => KI 0 k w hw (Nat.le_refl _) (Nat.zero_le _)
    clear KI KS
    go_enter Try.func68, Try.ntmps68
    go_wp2_with fail
    refine wp_loop_rounds 1 ?_
    rw [rounds_succ]
    go_wp2_with fail
    refine (K1 _ (Below.refl _ _)).mono ?_
    rintro e w1 ⟨rfl, hB1⟩
    go_wp2_with fail
    refine wp_loop_rounds 1 ?_
    rw [rounds_succ]
    go_wp2
    go_end0
    exact ⟨rfl, hB1⟩
  · have d1 : decide ((20 : Int) ≤ (k : Int)) = true := by simp; omega
    have i1 : (20 : Int) ≤ (k : Int) := by omega
    have d4 : decide ((40 : Int) ≤ (k : Int)) = false := by simp; omega
    have i4 : ¬ (40 : Int) ≤ (k : Int) := by omega
    have d5 : decide ((40 : Int) < (k : Int)) = false := by simp; omega
    have i5 : ¬ (40 : Int) < (k : Int) := by omega
    have K1 := fun w hw => KI 0 20 w hw (by omega) (by omega)
    have K2 := fun w hw => KI 20 k w hw (Nat.le_refl _) (by omega)
    by_cases h21 : k = 20
    · have d2 : decide ((20 : Int) < (k : Int)) = false := by simp; omega
      have i2 : ¬ (20 : Int) < (k : Int) := by omega
      clear KI KS h21
      go_enter Try.func68, Try.ntmps68
      go_wp2_with fail
      refine wp_loop_rounds 2 ?_
      rw [rounds_succ]
      go_wp2_with fail
      refine (K1 _ (Below.refl _ _)).mono ?_
      rintro e w1 ⟨rfl, hB1⟩
      go_wp2_with fail
      rw [rounds_succ]
      go_wp2_with fail
      refine (K2 _ hB1).mono ?_
      rintro e w2 ⟨rfl, hB2⟩
      have hB12 := below_c hB1 hB2
      go_wp2_with fail
      refine wp_loop_rounds 1 ?_
      rw [rounds_succ]
      go_wp2
      go_end0
      exact ⟨rfl, hB12⟩
    · have d2 : decide ((20 : Int) < (k : Int)) = true := by simp; omega
      have i2 : (20 : Int) < (k : Int) := by omega
      have K3 := fun w hw => KS 0 20 k w hw (by omega) (by omega) (Nat.le_refl _)
      clear KI KS h21
      go_enter Try.func68, Try.ntmps68
      go_wp2_with fail
      refine wp_loop_rounds 2 ?_
      rw [rounds_succ]
      go_wp2_with fail
      refine (K1 _ (Below.refl _ _)).mono ?_
      rintro e w1 ⟨rfl, hB1⟩
      go_wp2_with fail
      rw [rounds_succ]
      go_wp2_with fail
      refine (K2 _ hB1).mono ?_
      rintro e w2 ⟨rfl, hB2⟩
      have hB12 := below_c hB1 hB2
      go_wp2_with fail
      refine wp_loop_rounds 2 ?_
      rw [rounds_succ]
      go_wp2_with fail
      refine wp_loop_rounds 1 ?_
      rw [rounds_succ]
      go_wp2_with fail
      refine (K3 _ hB12).mono ?_
      rintro e w3 ⟨rfl, hB3⟩
      have hB13 := below_c hB12 hB3
      go_wp2_with fail
      rw [rounds_succ]
      go_wp2
      go_end0
      exact ⟨rfl, hB13⟩

set_option maxRecDepth 100000 in
theorem sortEq (B M : Nat) (a : Option Addr) (c k : Nat) (ids : List Nat) (hl : ids.length = k) (hids : ∀ i ∈ ids, i < M) (hk : k ≤ 24) (W : World) (hF : EqF W B M) (hr : Rd W (.slice a k c) k (nats ids)) :
    Calls Try.prog 55 #[.slice a k c, .func (.func 56) #[] #[.pointer (some ⟨B, 0, none⟩)]] W fun e w' => e = .returned (.tuple #[]) ∧ Below W.heap.size W w' := by
  have K := stableEq B M a c k ids hl hids hk W hF hr
  clear hF hr hids hl
  go_enter Try.func55, Try.ntmps55
  go_wp2_with fail
  refine K.mono ?_
  rintro e w1 ⟨rfl, hB1⟩
  go_wp2
  go_end0
  exact ⟨rfl, hB1⟩
end Go.Proofs.Ytjeafgnaoncphaa


namespace Go.Proofs.Ytjeafgnaoncphaa
open Go.RowKit Gr

set_option maxRecDepth 100000 in
set_option maxHeartbeats 2000000 in
theorem spanCheck_ok (n : Nat) (v : Value) (ls : List Ln) (w : World) (hr : CostRd w v ls) (hg : GoodG n ls) :
    Calls Try.prog 54 #[.int .i64 (n : Int), v] w fun e w' => e = .returned .nilIface ∧ Below w.heap.size w w' := by
  have hr0 := hr
  obtain ⟨a, c, rfl, hnc, hcm, _, hcell⟩ := hr0
  unfold maxLen at hcm
  have HN : Hid (decide (1 ≤ (n : Int) ∧ (n : Int) ≤ 8) = true) := decide_eq_true ⟨by have := hg.1; omega, by have := hg.2.1; omega⟩
  have hl24 := hg.2.2.1
  have hl' : (ls.length : Int) ≤ (24 : Int) := by omega
  have hn1 := hg.1
  have hn8 := hg.2.1
  have wn1 : IntKind.i64.wrap ((n : Int) - 1) = (n : Int) - 1 := IntWalk.i64_in _ (by omega)
  have HG := Lib.hid hg.2.2.2
  clear hg
  go_enter Try.func54, Try.ntmps54
  go_wp2_with fail
  refine (within_any _ _ _ _).mono ?_
  rintro e w' ⟨rfl, rfl⟩
  rw [HN.out]
  go_wp2_with fail
  go_loopw [17] (fun i wr => ∃ k : Nat, k ≤ ls.length ∧ i = .int .i64 k ∧ Below w.heap.size w wr) (fun i _ => ls.length - (intOf i).toNat)
  case atStart => exact ⟨0, by omega, rfl, Below.refl _ _⟩
  case round =>
    obtain ⟨k, hk, rfl, hbr⟩ := hrel
    by_cases hlt : k < ls.length
    · obtain ⟨b, off, rfl, hbb, hc⟩ := hcell (by omega)
      obtain ⟨g1, g2, g3⟩ := costs_at hc hlt
      have hc1 := (hbr.cell (p := ⟨b, off + k * 3, none⟩) hbb).trans g1
      have hc2 := (hbr.cell (p := ⟨b, off + k * 3 + 1, none⟩) hbb).trans g2
      have hc3 := (hbr.cell (p := ⟨b, off + k * 3 + 2, none⟩) hbb).trans g3
      have hgl := HG.out _ (List.getElem_mem hlt)
      have HA : Hid (El.allIn [(ls[k]).1, (ls[k]).2] 0 ((n : Int) - 1) = true) := by show _ = _; simp [El.allIn]; omega
      have hb : ((ls[k]).1 == (ls[k]).2) = false := by simpa using hgl.2.2.2.2
      have hki : (k : Int) < (ls.length : Int) := by omega
      clear g1 g2 g3 hc hcell hgl
      generalize hx : (ls[k]).1 = x at *
      generalize hy : (ls[k]).2 = y at *
      clear hx hy
      go_wp2_with fail
      refine (all_any _ _ [x, y] 0 ((n : Int) - 1) _ (rd_two (by simp)) rfl).mono ?_
      rintro e w' ⟨rfl, rfl⟩
      rw [HA.out]
      go_wp2_with fail
      refine (within_any _ _ _ _).mono ?_
      rintro e w' ⟨rfl, rfl⟩
      rw [show decide ((0 : Int) ≤ 3 ∧ (3 : Int) ≤ 20) = true from by decide]
      go_wp2
      go_roundw
      case rel => exact ⟨k + 1, by omega, by go_num, below_c (below_c hbr (below_alloc' _ _)) (below_alloc' _ _)⟩
      case measure => simp [intOf]; omega
    · go_wp2
      go_ret
      exact ⟨rfl, hbr⟩
end Go.Proofs.Ytjeafgnaoncphaa
