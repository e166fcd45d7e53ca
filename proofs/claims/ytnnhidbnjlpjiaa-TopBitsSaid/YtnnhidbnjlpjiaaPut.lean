/- What the putting of de Bruijn words does: the walk. Conditions: in each statement. -/
import Derived.Test.YtnnhidbnjlpjiaaBitsP
import Derived.Test.YtnnhidbnjlpjiaaGaps
import Derived.Test.YtnnhidbnjlpjiaaQueue
import Derived.Test.YtnnhidbnjlpjiaaCoreOut
import Derived.StillTailTactics
import Derived.Great.Walk
namespace Go.Proofs.Ytnnhidbnjlpjiaa
open Go.RowKit Bt
open El (at0)

/-- the variables of a ring of two signs, from block B on -/
structure RMem (B G C long : Nat) (st : List Int × List Int) (W : World) : Prop where
  geo : B + 1 < G ∧ G < C
  signs : Boxed W B 3 (.int .i64 2)
  lng : Boxed W (B + 1) 3 (.int .i64 (long : Int))
  row : W.ownsRow G 3 1 (.slice (some ⟨G, 0, none⟩) (long + 1) (long + 1)) (long + 1) (ints st.1)
  word : Boxed W C 26 (.slice (some ⟨G, 0, none⟩) (long + 1) (long + 1))
  out : ∃ v, Boxed W (C + 1) 26 v ∧ W.ownsRow (C + 3) 3 1 v st.2.length (ints st.2)
  put : Boxed W (C + 2) 50 (.func (.func 26) #[] #[.pointer (some ⟨B + 1, 0, none⟩), .pointer (some ⟨C + 1, 0, none⟩), .pointer (some ⟨C, 0, none⟩), .pointer (some ⟨C + 2, 0, none⟩), .pointer (some ⟨B, 0, none⟩)])

theorem RMem.later {B G C long : Nat} {st : List Int × List Int} {W W' : World} (h : RMem B G C long st W) (hb : Below W.heap.size W W') : RMem B G C long st W' := by
  obtain ⟨v, o1, o2⟩ := h.out
  exact ⟨h.geo, boxed_later h.signs hb, boxed_later h.lng hb, owns_later h.row hb, boxed_later h.word hb, ⟨v, boxed_later o1 hb, owns_later o2 hb⟩, boxed_later h.put hb⟩

theorem own_ge {W : World} {base : Nat} {e : TypeId} {s n : Nat} {v : Value} {xs : List Value} (h : W.ownsRow base e s v n xs) (b : Nat) (hb : b < base) : some b ≠ v.ownBlock := by
  intro e'
  have := (h.lt b e'.symm).1; omega
theorem own_ne {W : World} {base : Nat} {e : TypeId} {s n : Nat} {v : Value} {xs : List Value} (h : W.ownsRow base e s v n xs) (b : Nat) (hb : b < base) : v.ownBlock = none ∨ v.ownBlock ≠ some b :=
  .inr fun e' => own_ge h b hb e'.symm

theorem ints_setB (xs : List Int) (i : Nat) (x : Int) : (ints xs).set i (.int .i64 x) = ints (xs.set i x) := by simp [ints, List.map_set]

/-- a store into the word -/
theorem RMem.set {B G C long : Nat} {st : List Int × List Int} {W : World} (h : RMem B G C long st W) (t : Nat) (x : Int) : RMem B G C long (st.1.set t x, st.2) (W.setCell ⟨G, t, none⟩ (.int .i64 x)) := by
  have geo := h.geo
  have hg := grownBy_setCell_at W G t (.int .i64 x)
  obtain ⟨v, o1, o2⟩ := h.out
  have hr := (h.row.stored t (.int .i64 x)).1
  rw [ints_setB] at hr
  exact ⟨h.geo, h.signs.kept hg (by intro e; injection e; omega), h.lng.kept hg (by intro e; injection e; omega), hr, h.word.kept hg (by intro e; injection e; omega), ⟨v, o1.kept hg (by intro e; injection e; omega), o2.kept hg (own_ne o2 _ (by omega))⟩, h.put.kept hg (by intro e; injection e; omega)⟩

/-- the numbers put: an append, then the store of the slice -/
theorem RMem.puts {B G C long n : Nat} {st : List Int × List Int} {ys : List Int} {W W1 : World} {v v' : Value} (h : RMem B G C long st W) (hv : Boxed W (C + 1) 26 v) (hA : AppTo W (C + 3) 3 1 v W1 v' n (ints ys)) (hn : n = ys.length) (ho : W.ownsRow (C + 3) 3 1 v st.2.length (ints st.2)) :
    RMem B G C long (st.1, ys) (W1.setCell ⟨C + 1, 0, none⟩ v') := by
  subst hn
  have geo := h.geo
  have hg := grownBy_setCell_at W1 (C + 1) 0 v'
  have hk := hA.grown
  refine ⟨h.geo, (h.signs.kept hk (own_ge ho _ (by omega))).kept hg (by intro e; injection e; omega), (h.lng.kept hk (own_ge ho _ (by omega))).kept hg (by intro e; injection e; omega), ?_, (h.word.kept hk (own_ge ho _ (by omega))).kept hg (by intro e; injection e; omega), ⟨v', (hv.kept hk (own_ge ho _ (by omega))).set v', hA.own.kept hg (own_ne hA.own _ (by omega))⟩, (h.put.kept hk (own_ge ho _ (by omega))).kept hg (by intro e; injection e; omega)⟩
  refine (h.row.kept hk (.inr ?_)).kept hg (.inr (by simp [Value.ownBlock]; omega))
  exact fun e => own_ge ho G (by omega) (by simpa [Value.ownBlock] using e)

namespace Bt
/-- a word of so many signs, each 0 or 1 -/
def Wd (long : Nat) (w : List Int) : Prop := w.length = long + 1 ∧ ∀ i, 0 ≤ at0 w i ∧ at0 w i ≤ 1
theorem Wd.set {long : Nat} {w : List Int} (h : Wd long w) (t : Nat) {x : Int} (hx : 0 ≤ x ∧ x ≤ 1) : Wd long (w.set t x) := by
  refine ⟨by rw [List.length_set]; exact h.1, fun i => ?_⟩
  unfold at0
  rw [List.getElem?_set]
  split
  · split
    · exact hx
    · simp
  · exact h.2 i
theorem putS_ok (long : Nat) : ∀ (f t p : Nat) (st : List Int × List Int), Wd long st.1 → Wd long (putS long f t p st).1 ∧ (putS long f t p st).2.length ≤ st.2.length + (long + 1) * 2 ^ f := by
  intro f
  induction f with
  | zero => intro t p st h; exact ⟨h, by simp [putS]⟩
  | succ f ih =>
    intro t p st h
    unfold putS
    split
    · split
      · refine ⟨h, ?_⟩
        simp only [List.length_append, List.length_take, List.length_drop, h.1]
        have : (long + 1) * 1 ≤ (long + 1) * 2 ^ (f + 1) := Nat.mul_le_mul_left _ (Nat.one_le_two_pow)
        omega
      · exact ⟨h, by simp⟩
    · have h1 := ih (t + 1) p (st.1.set t (at0 st.1 (t - p)), st.2) (h.set t (h.2 _))
      simp only
      generalize putS long f (t + 1) p (st.1.set t (at0 st.1 (t - p)), st.2) = st1 at *
      obtain ⟨h2, h3⟩ := h1
      have hk := h2.2 (t - p)
      have hpow : (long + 1) * 2 ^ (f + 1) = (long + 1) * 2 ^ f + (long + 1) * 2 ^ f := by rw [Nat.pow_succ, Nat.mul_comm (2 ^ f), ← Nat.mul_assoc, Nat.mul_comm (long + 1) 2, Nat.mul_assoc, Nat.two_mul]
      generalize hk0 : (at0 st1.1 (t - p) + 1).toNat = k0 at *
      have hk2 : k0 = 1 ∨ k0 = 2 := by omega
      rcases hk2 with rfl | rfl
      · have h4 := ih (t + 1) t (st1.1.set t (((1 : Nat) + 0 : Nat) : Int), st1.2) (h2.set t (by decide))
        simp only [show 2 - 1 = 1 from rfl, List.range_one, List.foldl_cons, List.foldl_nil]
        exact ⟨h4.1, by have := h4.2; simp only at h3 this ⊢; omega⟩
      · simp only [Nat.sub_self, List.range_zero, List.foldl_nil]
        exact ⟨h2, by simp only at h3; omega⟩
end Bt

set_option maxRecDepth 100000 in
set_option maxHeartbeats 4000000 in
theorem put_any (B G C long : Nat) (hl1 : 1 ≤ long) (hl6 : long ≤ 6) : ∀ (f t p : Nat) (st : List Int × List Int) (W : World),
    RMem B G C long st W → Wd long st.1 → 1 ≤ p → p ≤ t → t ≤ long + 1 → long + 2 ≤ t + f → st.2.length + (long + 1) * 2 ^ f ≤ 10000 →
    Calls Try.prog 26 #[.int .i64 (t : Int), .int .i64 (p : Int), .pointer (some ⟨B + 1, 0, none⟩), .pointer (some ⟨C + 1, 0, none⟩), .pointer (some ⟨C, 0, none⟩), .pointer (some ⟨C + 2, 0, none⟩), .pointer (some ⟨B, 0, none⟩)] W
      fun e W' => (∃ v, e = .returned v) ∧ RMem B G C long (putS long f t p st) W' ∧ Below B W W' := by
  obtain ⟨i0, hi, hz0, hz1, hz2⟩ := info_parts info_int
  intro f
  induction f with
  | zero => intro t p st W hm hw hp1 hpt htl hf _; omega
  | succ f ih =>
    intro t p st W hm hw hp1 hpt htl hf hsz
    have geo := hm.geo
    have cS := hm.signs.cell
    have cL := hm.lng.cell
    have cW := hm.word.cell
    have cP := hm.put.cell
    obtain ⟨ov, hob, hor⟩ := hm.out
    have cO := hob.cell
    have fO := hob.frozen
    have hbB : C + 1 < W.heap.size := hob.lt
    have hbP := hm.put.lt
    by_cases hlt : long < t
    · have hlt' : (long : Int) < (t : Int) := by omega
      by_cases hd : long % p = 0
      · have hS : Hid (putS long (f + 1) t p st = (st.1, st.2 ++ (st.1.drop 1).take p)) := by show _ = _; rw [putS, if_pos hlt, if_pos hd]
        have hdb : ((long : Int) % (p : Int) == 0) = true := by
          rw [beq_iff_eq, ← Int.natCast_emod]; omega
        have hp0 : ((p : Int) == 0) = false := by rw [beq_eq_false_iff_ne]; omega
        have hl0 : ¬ long = 0 := by omega
        have hpg : p ≤ long := Nat.le_of_dvd (by omega) (Nat.dvd_of_mod_eq_zero hd)
        have hpl : (p : Int) + 1 ≤ (long : Int) + 1 := by omega
        have hpl1 : (1 : Int) ≤ (p : Int) + 1 := by omega
        have hpn : ((p : Int) + 1).toNat = p + 1 := by omega
        have wp1 : IntKind.i64.wrap ((p : Int) + 1) = (p : Int) + 1 := IntWalk.i64_in _ (by omega)
        have hD := (Below.refl W.heap.size W).drew
        have hor1 := owns_later hor hD
        have hm1 := hm.later hD
        have hob1 := boxed_later hob hD
        have hrd : Rd W.drew (.slice (some ⟨G, 1, none⟩) p long) p (ints ((st.1.drop 1).take p)) := by
          refine ⟨_, _, rfl, by omega, by unfold maxLen; omega, fun h => absurd h (by omega), fun _ => ⟨G, 1, rfl, (by show _ < W.heap.size; omega), fun j u hu => ?_⟩⟩
          have hj : j < p := by have := (List.getElem?_eq_some_iff.1 hu).1; simp [ints, hw.1] at this; omega
          have := owns_at hm1.row (k := 1 + j) (u := u) (by
            have e : (ints ((st.1.drop 1).take p))[j]? = (ints st.1)[1 + j]? := by
              simp only [ints, List.map_take, List.map_drop]
              rw [List.getElem?_take_of_lt hj, List.getElem?_drop]
            rw [← e]; exact hu)
          exact this
        have hlen : (ints ((st.1.drop 1).take p)).length = p * 1 := by simp [ints, hw.1]; omega
        have hsz2 : st.2.length ≤ 10000 := by omega
        go_enter Try.func26, Try.ntmps26
        go_wp2_with fail
        refine wp_region_still_tail 5 (by kernel_rfl) (by kernel_rfl) ?_
        simp only [List.take_succ_cons, List.take_zero, List.drop_succ_cons, List.drop_zero]
        change wpStill _ _ (World.drew _) _ _ _
        repeat still_step
        refine wpStill_nil ?_
        change wpList _ _ _ _ _ (World.drew _)
        go_wp2_with (at_builtin; go_must (refine wpl_appL _ _ _ (AppTo.refl hor1) hrd hlen (by omega) rfl rfl Try.underlying26 hi hz0 hz1 hz2 rfl (by decide) rfl rfl (ints_one _) (by decide) (by omega) (by show _ ≤ W.heap.size; omega) ?_); intro v3 w3 hA3 hne3 hst3; obtain ⟨a3, c3, rfl⟩ := owns_slice hA3.own; have hob3 := hob1.kept hA3.grown (own_ge hor1 _ (by omega)); have cO3 := hob3.cell; have fO3 := hob3.frozen)
        refine bodyPost_ret (results_none rfl _ _ _) rfl ?_
        have hl2 : st.2.length + p = (st.2 ++ (st.1.drop 1).take p).length := by simp [hw.1]; omega
        refine ⟨⟨_, rfl⟩, ?_, ?_⟩
        · rw [hS.out]
          exact hm1.puts hob1 (ys := st.2 ++ (st.1.drop 1).take p) (by simpa [ints] using hA3) hl2 hor1
        · refine Below.trans (b := w3) ?_ ((Below.refl _ _).setCell (p := ⟨C + 1, 0, none⟩) ?_ _)
          · exact (Below.refl B W).drew.trans (hst3.mono (by omega))
          · show B ≤ C + 1; omega
      · have hS : Hid (putS long (f + 1) t p st = st) := by show _ = _; rw [putS, if_pos hlt, if_neg hd]
        have hdb : ((long : Int) % (p : Int) == 0) = false := by
          rw [beq_eq_false_iff_ne, ← Int.natCast_emod]; omega
        have hp0 : ((p : Int) == 0) = false := by rw [beq_eq_false_iff_ne]; omega
        go_enter Try.func26, Try.ntmps26
        go_wp2_with fail
        refine bodyPost_ret (results_none rfl _ _ _) rfl ?_
        exact ⟨⟨_, rfl⟩, by rw [hS.out]; exact hm, Below.refl _ _⟩
    · have htl' : (t : Int) ≤ (long : Int) := by omega
      have htlen : t < st.1.length := by rw [hw.1]; omega
      have hqlen : t - p < st.1.length := by rw [hw.1]; omega
      obtain ⟨q, hq⟩ : ∃ q, t = q + p := ⟨t - p, by omega⟩
      have hqi : ((t : Int) - (p : Int)) = (q : Int) := by omega
      have hqe : t - p = q := by omega
      have HS : Hid (putS long (f + 1) t p st = (let st1 := putS long f (t + 1) p (st.1.set t (at0 st.1 q), st.2); if at0 st1.1 q = 0 then putS long f (t + 1) t (st1.1.set t 1, st1.2) else st1)) := by
        show _ = _
        rw [putS, if_neg hlt, hqe]
        simp only
        have h1 := (putS_ok long f (t + 1) p (st.1.set t (at0 st.1 q), st.2) (hw.set t (hw.2 _))).1.2 q
        generalize putS long f (t + 1) p (st.1.set t (at0 st.1 q), st.2) = st1 at *
        by_cases h0 : at0 st1.1 q = 0
        · rw [if_pos h0, h0]; rfl
        · have : at0 st1.1 q = 1 := by omega
          rw [if_neg h0, this]; rfl
      have hxq := hw.2 q
      have hrq := owns_at hm.row (k := q) (u := .int .i64 (at0 st.1 q)) (by rw [El.at0_lt (by omega)]; exact ints_get (by omega))
      have hrt := owns_at hm.row (k := t) (u := .int .i64 (at0 st.1 t)) (by rw [El.at0_lt htlen]; exact ints_get htlen)
      have hft := hm.row.frozenAt t
      have hms := (hm.set t (at0 st.1 q)).later ((Below.refl _ _).drew)
      have hBs : Below B W (W.setCell ⟨G, t, none⟩ (.int .i64 (at0 st.1 q))).drew := ((Below.refl B W).setCell (p := ⟨G, t, none⟩) (by show B ≤ G; omega) _).drew
      have hws := hw.set t hxq
      have hput := putS_ok long f (t + 1) p (st.1.set t (at0 st.1 q), st.2) hws
      have hpow : (long + 1) * 2 ^ (f + 1) = (long + 1) * 2 ^ f + (long + 1) * 2 ^ f := by rw [Nat.pow_succ, Nat.mul_comm (2 ^ f), ← Nat.mul_assoc, Nat.mul_comm (long + 1) 2, Nat.mul_assoc, Nat.two_mul]
      have wtp : IntKind.i64.wrap ((t : Int) - (p : Int)) = (q : Int) := by rw [hqi]; exact IntWalk.i64_in _ (by omega)
      have wq : IntKind.i64.wrap (q : Int) = (q : Int) := IntWalk.i64_in _ (by omega)
      have hq0 : (0 : Int) ≤ (q : Int) := by omega
      have hql : (q : Int) < (long : Int) + 1 := by omega
      have ht0 : (0 : Int) ≤ (t : Int) := by omega
      have htl2 : (t : Int) < (long : Int) + 1 := by omega
      have HQ := Lib.hid hq
      clear hq hqi hqe
      go_enter Try.func26, Try.ntmps26
      go_wp2_with fail
      generalize at0 st.1 q = x at *
      refine wp_region_still_tail 9 (by kernel_rfl) (by kernel_rfl) ?_
      simp only [List.take_succ_cons, List.take_zero, List.drop_succ_cons, List.drop_zero]
      change wpStill _ _ (World.drew _) _ _ _
      repeat still_step
      refine wpStill_nil ?_
      change wpList _ _ _ _ _ (World.drew _)
      have cP1 := hms.put.cell
      go_wp2_with fail
      have K1 := ih (t + 1) p (st.1.set t x, st.2) _ hms hws hp1 (by omega) (by omega) (by omega) (by show st.2.length + (long + 1) * 2 ^ f ≤ 10000; omega)
      rw [show ((t + 1 : Nat) : Int) = (t : Int) + 1 from by simp] at K1
      refine K1.mono ?_
      clear K1
      rintro e W2 ⟨⟨rv, rfl⟩, hm2, hB2⟩
      obtain ⟨hw2, hs2⟩ := hput
      change _ ≤ st.2.length + (long + 1) * 2 ^ f at hs2
      generalize putS long f (t + 1) p (st.1.set t x, st.2) = st1 at *
      have hBW2 := hBs.trans hB2
      clear hBs hms cP1 hrq hrt hft cS cL cW cP cO fO hob hor hbB hbP
      have hx1 := hw2.2 q
      have cW2 := hm2.word.cell
      have cx2 := owns_at hm2.row (k := q) (u := .int .i64 (at0 st1.1 q)) (by rw [El.at0_lt (by rw [hw2.1]; omega)]; exact ints_get (by rw [hw2.1]; omega))
      generalize hx1e : at0 st1.1 q = x1 at *
      have wx1 : IntKind.i64.wrap (x1 + 1) = x1 + 1 := IntWalk.i64_in _ (by omega)
      go_wp2_with fail
      go_loopw [9] (fun k wr => ∃ j : Nat, k = .int .i64 j ∧ ((j = 1 ∧ x1 = 0 ∧ RMem B G C long st1 wr) ∨ (j = 2 ∧ RMem B G C long (putS long (f + 1) t p st) wr)) ∧ Below B W wr) (fun k _ => 2 - (intOf k).toNat)
      case atStart =>
        have hx01 : x1 = 0 ∨ x1 = 1 := by omega
        rcases hx01 with h0 | h0
        · exact ⟨1, by rw [h0]; rfl, .inl ⟨rfl, h0, hm2⟩, hBW2⟩
        · refine ⟨2, by rw [h0]; rfl, .inr ⟨rfl, ?_⟩, hBW2⟩
          rw [HS.out, if_neg (by omega)]; exact hm2
      case round =>
        obtain ⟨j, rfl, ⟨rfl, h0, hmr⟩ | ⟨rfl, hmr⟩, hBr⟩ := hrel
        · have H0 := Lib.hid h0
          clear h0
          have cSr := hmr.signs.cell
          have cWr := hmr.word.cell
          have ctr := owns_at hmr.row (k := t) (u := .int .i64 (at0 st1.1 t)) (by rw [El.at0_lt (by rw [hw2.1]; omega)]; exact ints_get (by rw [hw2.1]; omega))
          have ftr := hmr.row.frozenAt t
          have hms := hmr.set t 1
          have cP1 := hms.put.cell
          have hB3 := hBr.setCell (p := ⟨G, t, none⟩) (by show B ≤ G; omega) (.int .i64 1)
          go_wp2_with fail
          have K1 := ih (t + 1) t (st1.1.set t 1, st1.2) _ hms (hw2.set t (by decide)) (by omega) (by omega) (by omega) (by omega) (by show st1.2.length + (long + 1) * 2 ^ f ≤ 10000; omega)
          rw [show ((t + 1 : Nat) : Int) = (t : Int) + 1 from by simp] at K1
          refine K1.mono ?_
          clear K1
          rintro e W4 ⟨⟨rv, rfl⟩, hm4, hB4⟩
          have HF : Hid (RMem B G C long (putS long (f + 1) t p st) W4) := by
            show RMem _ _ _ _ _ _
            rw [HS.out, if_pos H0.out]; exact hm4
          have hB34 := hB3.trans hB4
          clear hm4 hB4 hms cP1
          go_wp2
          go_roundw
          case rel => exact ⟨2, by go_num, .inr ⟨rfl, HF.out⟩, hB34⟩
          case measure => simp [intOf]
        · have cSr := hmr.signs.cell
          have HF := Lib.hid hmr
          go_wp2_with fail
          refine Great.bodyPost_end0 rfl rfl ?_
          exact ⟨⟨_, rfl⟩, HF.out, hBr⟩

end Go.Proofs.Ytnnhidbnjlpjiaa
