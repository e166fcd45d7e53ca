/- DeepParts returns true for every input: the walk. Conditions: none. -/
import Derived.Test.YthlnejfojaldnaaDeepBack
namespace Go.Proofs.Ythlnejfojaldnaa
open Go.RowKit Gr

/-- a point is met from none just if it is the least of its part -/
theorem deep_parts {O : List Nat} {n : Nat} {m l c p : List Int} (hO : Bounded n O) (hs : Symm O) (h : IsDeep O n m l c) (hp : IsParts O n p) {i : Nat} (hi : i < n) : at1 c i = -1 ↔ at1 p i = (i : Int) := by
  obtain ⟨s, k, r1, r2, r3, r4⟩ := hp.least i hi
  have hconn : ∀ v, s.testBit v = true → Conn O i v := fun v hv T h0 hT => r1.least T h0 (fun u v hu huv _ => hT u v hu huv) v hv
  have hin : ∀ v, Conn O i v → s.testBit v = true := fun v hv => hv (fun v => s.testBit v = true) r1.src (fun u v hu huv => r1.shut u v hu huv ((below_bit n v).2 (hO u v huv).2))
  have hsym : ∀ {a b}, Conn O a b → Conn O b a := fun {a b} hab => hab (fun x => Conn O x a) (fun T h0 _ => h0) (fun u v hu huv T h0 hT => hu T (hT v u h0 (hs _ _ huv)) hT)
  constructor
  · intro hc
    rcases h.tree i hi with ⟨_, h2⟩ | ⟨q, _, h2, _⟩
    · have h3 := h2 k (hconn k r3)
      have h4 := r4 i r1.src
      have : k = i := by omega
      rw [r2, this]
    · rw [hc] at h2; omega
  · intro hpi
    -- go up to the root
    have up : ∀ (t : Nat) (x : Nat), x < n → (at1 m x).toNat ≤ t → ∃ r, r < n ∧ Conn O r x ∧ at1 c r = -1 ∧ (∀ y, Conn O r y → r ≤ y) ∧ (r = x ∨ at1 c x ≠ -1) := by
      intro t
      induction t with
      | zero =>
        intro x hx ht
        rcases h.tree x hx with ⟨h1, h2⟩ | ⟨q, q1, q2, q3, q4, q5⟩
        · exact ⟨x, hx, fun T h0 _ => h0, h1, h2, .inl rfl⟩
        · have := h.times q q1; omega
      | succ t ih =>
        intro x hx ht
        rcases h.tree x hx with ⟨h1, h2⟩ | ⟨q, q1, q2, q3, q4, q5⟩
        · exact ⟨x, hx, fun T h0 _ => h0, h1, h2, .inl rfl⟩
        · have := h.times q q1
          obtain ⟨r, r1, r2, r3, r4, _⟩ := ih q q1 (by omega)
          exact ⟨r, r1, fun T h0 hT => hT q x (r2 T h0 hT) q3, r3, r4, .inr (by omega)⟩
    obtain ⟨r, hr, hrx, hcr, hmin, hor⟩ := up _ i hi (Nat.le_refl _)
    have hk : k = i := by omega
    have h1 := hmin i hrx
    have h2 := r4 r (hin r (hsym hrx))
    have : r = i := by omega
    rw [← this]; exact hcr

set_option maxRecDepth 100000 in
set_option maxHeartbeats 4000000 in
theorem deepParts_any (n : Int) {v : Value} {ls : List Ln} {w : World} (hr : LinesRd w v ls) :
    Calls Try.prog 8 #[.int .i64 n, v] w fun e w' => e = .returned (.bool true) ∧ Below w.heap.size w w' := by
  by_cases hc : chk n ls = 0
  · obtain ⟨m, rfl, hg⟩ := good_of hc
    have HG := Lib.hid hg
    have hm8 := hg.2.1
    have hm1 := hg.1
    have HD := Lib.hid (deepWalk_is hm8 (adj_bounded hg) (fun _ _ h => adj_symm hg h))
    have hmm : ((m : Int) != (m : Int)) = false := by simp
    clear hc hg
    go_enter Try.func8, Try.ntmps8
    go_wp2_with fail
    refine (deepFact_any _).mono ?_
    rintro e w1 ⟨rfl, hB1⟩
    go_wp2_with fail
    refine (deep_ok m _ ls _ (hr.later hB1) HG.out).mono ?_
    rintro e w2 ⟨a1, c1, a2, c2, a3, c3, rfl, r1, r2, r3, hB2⟩
    have hB12 := below_c hB1 hB2
    generalize deepWalk (beside m ls) m = D at *
    go_wp2_with fail
    refine (parts_ok m _ ls _ (hr.later hB12) HG.out).mono ?_
    rintro e w3 ⟨p, ap, cp, rfl, hp, hrp, hB3⟩
    have hB13 := below_c hB12 hB3
    have r3' := r3.later hB3
    have HP : Hid (∀ i, i < m → (at1 D.frm i = -1 ↔ at1 p i = (i : Int))) := fun i hi => deep_parts (adj_bounded HG.out) (fun _ _ h => adj_symm HG.out h) HD.out hp hi
    have hpl := hp.len
    obtain ⟨bc, oc, rfl, hcc1, hcc2, _⟩ := rd_cells r3' HD.out.lc hm1
    obtain ⟨bp, op, rfl, hcp1, hcp2, _⟩ := rd_cells hrp hp.len hm1
    unfold maxLen at hcc2 hcp2
    clear r1 r2 r3 hB1 hB2 hB3 hB12 hp
    go_wp2_with fail
    go_loopw [11] (fun i wr => ∃ k : Nat, k ≤ m ∧ i = .int .i64 k ∧ Below w3.heap.size w3 wr) (fun i _ => m - (intOf i).toNat)
    case atStart => exact ⟨0, by omega, rfl, Below.refl _ _⟩
    case round =>
      obtain ⟨k, hk, rfl, hbr⟩ := hrel
      by_cases hlt : k < m
      · have hki : (k : Int) < (m : Int) := by omega
        have c1 := rdAt (r3'.later hbr) HD.out.lc hlt
        have c2 := rdAt (hrp.later hbr) hpl hlt
        have hkey := HP.out k hlt
        generalize at1 D.frm k = ck at *
        generalize at1 p k = pk at *
        have hs : ((ck == -1) = true ∧ (pk == (k : Int)) = true) ∨ ((ck == -1) = false ∧ (pk == (k : Int)) = false) := by
          by_cases h : ck = -1
          · exact .inl ⟨by simp [h], by simp [hkey.1 h]⟩
          · exact .inr ⟨by simp [h], by simp; exact fun e => h (hkey.2 e)⟩
        clear hkey
        rcases hs with ⟨e1, e2⟩ | ⟨e1, e2⟩
        all_goals
          go_wp2
          go_quiet (fail)
          go_wp2
          go_roundw
          case rel => exact ⟨k + 1, by omega, by go_num, hbr.trans ((below_drewN' _ _).mono hbr.size)⟩
          case measure => simp [intOf]; omega
      · go_wp2
        go_ret
        exact ⟨rfl, below_c hB13 hbr⟩
  · go_enter Try.func8, Try.ntmps8
    go_wp2_with fail
    refine (deepFact_any _).mono ?_
    rintro e w1 ⟨rfl, hB1⟩
    go_wp2_with fail
    refine (deep_bad n _ ls _ (hr.later hB1) hc).mono ?_
    rintro e w2 ⟨rfl, hB2⟩
    go_wp2
    go_ret
    exact ⟨rfl, below_c hB1 hB2⟩

end Go.Proofs.Ythlnejfojaldnaa
