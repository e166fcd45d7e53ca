/- What is left of a tree when its least leaf goes, time and again: plain. Conditions: in each statement. -/
import Derived.Test.YtjeafgnaoncphaaTreeCheck
import Derived.Test.YtjeafgnaoncphaaDegW
namespace Go.Proofs.Ytjeafgnaoncphaa
open Go.RowKit Gr

namespace Gr
/-- how many are beside v -/
def dO (O : List Nat) (v : Nat) : Nat := (elems (O[v]?.getD 0)).length
theorem adj_get (O : List Nat) (u v : Nat) : adjS O u v ↔ (O[u]?.getD 0).testBit v = true := Iff.rfl
theorem dO_near {n : Nat} {ls : List Ln} (hg : GoodG n ls) {v : Nat} (hv : v < n) : dO (beside n ls) v = dg (rN ls) n v := by
  rw [← near_dg, near_pt hg v hv, ptInts_length]
  unfold dO
  rw [List.getElem?_eq_getElem (by rw [beside_length]; exact hv)]; rfl
/-- the ends of lines are twice as many as the lines -/
theorem sum_dg_le (n : Nat) (ls : List Ln) : ((List.range n).map (dg (rN ls) n)).sum ≤ 2 * ls.length := by
  have hone : ∀ l : List Nat, l.Nodup → ∀ x : Int, (l.map fun (a : Nat) => if (a : Int) = x then 1 else 0).sum ≤ 1 := by
    intro l
    induction l with
    | nil => intro _ x; simp
    | cons a l ih =>
      intro hn x
      have hn' := List.nodup_cons.1 hn
      rw [List.map_cons, List.sum_cons]
      by_cases e : (a : Int) = x
      · rw [if_pos e]
        have : (l.map fun (a : Nat) => if (a : Int) = x then 1 else 0).sum = 0 := by
          rw [List.sum_eq_zero_iff_forall_eq_nat]
          intro y hy
          obtain ⟨b, hb, rfl⟩ := List.mem_map.1 hy
          rw [if_neg]
          intro e2
          have : a = b := by omega
          exact hn'.1 (this ▸ hb)
        omega
      · rw [if_neg e]
        have := ih hn'.2 x
        omega
  induction ls with
  | nil =>
    have : ∀ a, dg (rN []) n a = 0 := fun a => by
      unfold dg
      rw [List.length_eq_zero_iff, List.filter_eq_nil_iff]
      intro b _ h
      obtain ⟨l, hl, _⟩ := near_iff.1 h
      cases hl
    have h0 : ((List.range n).map (dg (rN []) n)).sum = 0 := by
      rw [List.sum_eq_zero_iff_forall_eq_nat]
      intro y hy
      obtain ⟨b, _, rfl⟩ := List.mem_map.1 hy
      exact this b
    omega
  | cons l ls ih =>
    have key : ∀ a : Nat, dg (rN (l :: ls)) n a ≤ dg (rN ls) n a + ((if (a : Int) = l.1 then 1 else 0) + (if (a : Int) = l.2 then 1 else 0)) := by
      intro a
      have h1 : ∀ b : Nat, rN (l :: ls) a b = true → rN ls a b = true ∨ ((a : Int) = l.1 ∧ (b : Int) = l.2) ∨ ((a : Int) = l.2 ∧ (b : Int) = l.1) := fun b h => by
        obtain ⟨l', hl, h2⟩ := near_iff.1 h
        rcases List.mem_cons.1 hl with rfl | hl
        · right; omega
        · exact .inl (near_iff.2 ⟨l', hl, h2⟩)
      have h2 : dg (rN (l :: ls)) n a ≤ dg (rN ls) n a + (((List.range n).map fun (b : Nat) => (if (a : Int) = l.1 ∧ (b : Int) = l.2 then 1 else 0)).sum + ((List.range n).map fun (b : Nat) => (if (a : Int) = l.2 ∧ (b : Int) = l.1 then 1 else 0)).sum) := by
        rw [dg_sum, dg_sum, ← sum_add, ← sum_add]
        have : ∀ m : List Nat, (m.map fun b => if rN (l :: ls) a b then 1 else 0).sum ≤ (m.map fun (i : Nat) => (if rN ls a i then 1 else 0) + ((if (a : Int) = l.1 ∧ (i : Int) = l.2 then 1 else 0) + (if (a : Int) = l.2 ∧ (i : Int) = l.1 then 1 else 0))).sum := by
          intro m
          induction m with
          | nil => exact Nat.le_refl _
          | cons b m ihm =>
            simp only [List.map_cons, List.sum_cons]
            have hb := h1 b
            have : (if rN (l :: ls) a b then 1 else 0) ≤ (if rN ls a b then 1 else 0) + ((if (a : Int) = l.1 ∧ (b : Int) = l.2 then 1 else 0) + (if (a : Int) = l.2 ∧ (b : Int) = l.1 then 1 else 0)) := by
              by_cases h : rN (l :: ls) a b = true
              · rw [if_pos h]
                rcases hb h with h | h | h
                · rw [if_pos h]; omega
                · rw [if_pos h]; omega
                · rw [if_pos h]; omega
              · rw [if_neg h]; exact Nat.zero_le _
            omega
        exact this _
      have h3 : ((List.range n).map fun (b : Nat) => (if (a : Int) = l.1 ∧ (b : Int) = l.2 then 1 else 0)).sum ≤ (if (a : Int) = l.1 then 1 else 0) := by
        by_cases e : (a : Int) = l.1
        · rw [if_pos e]
          have := hone (List.range n) List.nodup_range l.2
          simpa [e] using this
        · have hz : ∀ m : List Nat, (m.map fun _ => 0).sum = 0 := fun m => by
            induction m with
            | nil => rfl
            | cons _ m ih => simpa using ih
          simp [e, hz]
      have h4 : ((List.range n).map fun (b : Nat) => (if (a : Int) = l.2 ∧ (b : Int) = l.1 then 1 else 0)).sum ≤ (if (a : Int) = l.2 then 1 else 0) := by
        by_cases e : (a : Int) = l.2
        · rw [if_pos e]
          have := hone (List.range n) List.nodup_range l.1
          simpa [e] using this
        · have hz : ∀ m : List Nat, (m.map fun _ => 0).sum = 0 := fun m => by
            induction m with
            | nil => rfl
            | cons _ m ih => simpa using ih
          simp [e, hz]
      omega
    have h5 : ((List.range n).map (dg (rN (l :: ls)) n)).sum ≤ ((List.range n).map fun (a : Nat) => dg (rN ls) n a + ((if (a : Int) = l.1 then 1 else 0) + (if (a : Int) = l.2 then 1 else 0))).sum := by
      have : ∀ m : List Nat, (m.map (dg (rN (l :: ls)) n)).sum ≤ (m.map fun (a : Nat) => dg (rN ls) n a + ((if (a : Int) = l.1 then 1 else 0) + (if (a : Int) = l.2 then 1 else 0))).sum := by
        intro m
        induction m with
        | nil => exact Nat.le_refl _
        | cons b m ihm =>
          simp only [List.map_cons, List.sum_cons]
          have := key b
          omega
      exact this _
    rw [sum_add, sum_add] at h5
    have h6 := hone (List.range n) List.nodup_range l.1
    have h7 := hone (List.range n) List.nodup_range l.2
    rw [List.length_cons]
    omega

/-- what is left of a tree when some leaves went; A: those that are left -/
structure Pru (n : Nat) (O0 O A out : List Nat) : Prop where
  len : O.length = n
  small : Small O
  nd : A.Nodup
  lt : ∀ i ∈ A, i < n
  many : A.length + out.length = n
  symm : ∀ u v, adjS O u v → adjS O v u
  within : ∀ u v, adjS O u v → u ∈ A ∧ v ∈ A ∧ u ≠ v
  conn : ∀ u ∈ A, ∀ v ∈ A, Conn O u v
  sum : (A.map (dO O)).sum + 2 ≤ 2 * A.length
  left : ∀ v ∈ A, dO O0 v = dO O v + out.count v
  gone : ∀ v, v < n → v ∉ A → dO O0 v = 1 + out.count v
  outs : ∀ v ∈ out, v < n

section
variable {n : Nat} {O0 O A out : List Nat}
theorem dO_pos {v w : Nat} (h : adjS O v w) (hs : Small O) : 1 ≤ dO O v := by
  unfold dO
  have hw : w < 8 := by
    have h1 := getD_small hs v
    rcases Nat.lt_or_ge w 8 with h2 | h2
    · exact h2
    · have : (O[v]?.getD 0).testBit w = false := Nat.testBit_lt_two_pow (Nat.lt_of_lt_of_le (show O[v]?.getD 0 < 2 ^ 8 from h1) (Nat.pow_le_pow_right (by omega) h2))
      rw [show (O[v]?.getD 0).testBit w = true from h] at this; cases this
  exact List.length_pos_iff_exists_mem.2 ⟨⟨w, hw⟩, mem_elems.2 h⟩
theorem Pru.has (h : Pru n O0 O A out) (h2 : 2 ≤ A.length) {v : Nat} (hv : v ∈ A) : 1 ≤ dO O v := by
  obtain ⟨u, hu, hne⟩ : ∃ u ∈ A, u ≠ v := by
    refine Classical.byContradiction fun hn => ?_
    have hall : ∀ u ∈ A, u = v := fun u hu => Classical.byContradiction fun e => hn ⟨u, hu, e⟩
    have := h.nd.length_le_of_subset (l₂ := [v]) fun u hu => by rw [hall u hu]; exact List.mem_singleton.2 rfl
    simp at this
    omega
  have := h.conn v hv u hu (fun x => x = v ∨ ∃ w, adjS O v w) (.inl rfl) (fun x y hx hxy => by
    rcases hx with rfl | hx
    · exact .inr ⟨y, hxy⟩
    · exact .inr hx)
  rcases this with e | ⟨w, hw⟩
  · exact absurd e hne
  · exact dO_pos hw h.small
theorem Pru.leaf (h : Pru n O0 O A out) (h2 : 2 ≤ A.length) : ∃ i, i < n ∧ dO O i = 1 := by
  refine Classical.byContradiction fun hn => ?_
  have hall : ∀ v ∈ A, 2 ≤ dO O v := fun v hv => by
    have h1 := h.has h2 hv
    have : dO O v ≠ 1 := fun e => hn ⟨v, h.lt v hv, e⟩
    omega
  have key : ∀ m : List Nat, (∀ v ∈ m, 2 ≤ dO O v) → 2 * m.length ≤ (m.map (dO O)).sum := by
    intro m
    induction m with
    | nil => intro _; simp
    | cons a m ih =>
      intro hm
      have := ih fun v hv => hm v (List.mem_cons_of_mem _ hv)
      have := hm a List.mem_cons_self
      simp only [List.map_cons, List.sum_cons, List.length_cons]
      omega
  have := key A hall
  have := h.sum
  omega
theorem Pru.last (h : Pru n O0 O A out) (h2 : A.length = 2) : ∀ v, v < n → dO O0 v = 1 + out.count v := by
  intro v hv
  by_cases hA : v ∈ A
  · have h1 := h.has (by omega) hA
    have hs := h.sum
    rw [h2] at hs
    have : dO O v ≤ 1 := by
      have hp := (List.perm_cons_erase hA).map (dO O)
      have e1 := hp.sum_nat
      rw [List.map_cons, List.sum_cons] at e1
      have hl : (A.erase v).length = 1 := by rw [List.length_erase_of_mem hA, h2]
      obtain ⟨u, hu⟩ := List.length_eq_one_iff.1 hl
      have hum : u ∈ A := List.mem_of_mem_erase (hu ▸ List.mem_singleton.2 rfl : u ∈ A.erase v)
      have h3 := h.has (by omega) hum
      rw [hu] at e1
      simp at e1
      omega
    rw [h.left v hA]
    omega
  · exact h.gone v hv hA

theorem elems_diff {s i : Nat} (hi : i < 8) (hb : s.testBit i = true) : (elems (diff s (2 ^ i))).length + 1 = (elems s).length := by
  have hnd : ∀ t, (elems t).Nodup := fun t => List.Pairwise.filter _ (List.nodup_finRange 8)
  have hp : (elems s).Perm (⟨i, hi⟩ :: elems (diff s (2 ^ i))) := by
    refine (List.perm_ext_iff_of_nodup (hnd _) (List.nodup_cons.2 ⟨fun h => ?_, hnd _⟩)).2 fun x => ?_
    · have := mem_elems.1 h
      rw [diff_bit, Nat.testBit_two_pow] at this
      simp at this
    · rw [List.mem_cons, mem_elems, mem_elems, diff_bit, Nat.testBit_two_pow]
      constructor
      · intro h
        by_cases e : i = x.val
        · left; exact Fin.ext e.symm
        · right; simp [h, e]
      · rintro (rfl | h)
        · exact hb
        · simp only [Bool.and_eq_true] at h; exact h.1
  have := hp.length_eq
  rw [List.length_cons] at this
  exact this.symm
theorem elems_one {s j : Nat} (x : Pt) (h : elems s = [x]) (hj : s.testBit j = true) (hs : s < 256) : j = x.val := by
  have hw : j < 8 := by
    rcases Nat.lt_or_ge j 8 with h2 | h2
    · exact h2
    · have : s.testBit j = false := Nat.testBit_lt_two_pow (Nat.lt_of_lt_of_le (show s < 2 ^ 8 from hs) (Nat.pow_le_pow_right (by omega) h2))
      rw [hj] at this; cases this
  have : (⟨j, hw⟩ : Pt) ∈ elems s := mem_elems.2 hj
  rw [h] at this
  exact congrArg Fin.val (List.mem_singleton.1 this)

/-- the leaf i goes; j is beside it -/
def cutO (O : List Nat) (i j : Nat) : List Nat := (O.set i 0).set j (diff (O[j]?.getD 0) (2 ^ i))
theorem Pru.step (h : Pru n O0 O A out) {i j : Nat} (hij : adjS O i j) (hone : ∀ k, adjS O i k → k = j) (hd : dO O i = 1) (h2 : 2 ≤ A.length) : Pru n O0 (cutO O i j) (A.erase i) (out ++ [j]) := by
  obtain ⟨hi, hj, hne⟩ := h.within i j hij
  have hin := h.lt i hi
  have hjn := h.lt j hj
  have hlen : (cutO O i j).length = n := by unfold cutO; simp [h.len]
  have hget : ∀ u, (cutO O i j)[u]?.getD 0 = if u = j then diff (O[j]?.getD 0) (2 ^ i) else if u = i then 0 else O[u]?.getD 0 := fun u => by
    unfold cutO
    by_cases e1 : u = j
    · subst e1
      rw [if_pos rfl, List.getElem?_set_self (by simp [h.len]; exact hjn)]; rfl
    · rw [if_neg e1, List.getElem?_set_ne (fun e => e1 e.symm)]
      by_cases e2 : u = i
      · subst e2
        rw [if_pos rfl, List.getElem?_set_self (by rw [h.len]; exact hin)]; rfl
      · rw [if_neg e2, List.getElem?_set_ne (fun e => e2 e.symm)]
  have hadj : ∀ u v, adjS (cutO O i j) u v ↔ adjS O u v ∧ u ≠ i ∧ v ≠ i := fun u v => by
    rw [adj_get, hget]
    by_cases e1 : u = j
    · subst e1
      rw [if_pos rfl, diff_bit, Nat.testBit_two_pow]
      simp only [Bool.and_eq_true, Bool.not_eq_true', decide_eq_false_iff_not]
      exact ⟨fun ⟨a, b⟩ => ⟨a, fun e => hne e.symm, fun e => b e.symm⟩, fun ⟨a, _, b⟩ => ⟨a, fun e => b e.symm⟩⟩
    · rw [if_neg e1]
      by_cases e2 : u = i
      · subst e2
        rw [if_pos rfl]
        simp
      · rw [if_neg e2]
        refine ⟨fun a => ⟨a, e2, ?_⟩, fun a => a.1⟩
        rintro rfl
        exact e1 (hone u (h.symm _ _ a))
  have hmem : ∀ u, u ∈ A.erase i ↔ u ∈ A ∧ u ≠ i := fun u => by rw [h.nd.mem_erase_iff]; exact and_comm
  have hje : j ∈ A.erase i := (hmem j).2 ⟨hj, fun e => hne e.symm⟩
  have hdj : dO (cutO O i j) j + 1 = dO O j := by
    unfold dO
    rw [hget, if_pos rfl]
    exact elems_diff (by
      have h1 := getD_small h.small j
      rcases Nat.lt_or_ge i 8 with h3 | h3
      · exact h3
      · have : (O[j]?.getD 0).testBit i = false := Nat.testBit_lt_two_pow (Nat.lt_of_lt_of_le (show O[j]?.getD 0 < 2 ^ 8 from h1) (Nat.pow_le_pow_right (by omega) h3))
        rw [show (O[j]?.getD 0).testBit i = true from h.symm _ _ hij] at this; cases this) (h.symm _ _ hij)
  have hdo : ∀ u, u ≠ j → u ≠ i → dO (cutO O i j) u = dO O u := fun u e1 e2 => by
    unfold dO
    rw [hget, if_neg e1, if_neg e2]
  have hcnt : ∀ v, (out ++ [j]).count v = out.count v + (if j = v then 1 else 0) := fun v => by
    rw [List.count_append]
    congr 1
    by_cases e : j = v <;> simp [e]
  refine ⟨hlen, ?_, h.nd.erase _, fun u hu => h.lt u ((hmem u).1 hu).1, ?_, fun u v huv => ?_, fun u v huv => ?_, fun u hu v hv => ?_, ?_, fun v hv => ?_, fun v hv hvA => ?_, fun v hv => ?_⟩
  · unfold cutO
    exact set_small (set_small h.small _ _ (by decide)) _ _ (diff_small (getD_small h.small _))
  · rw [List.length_erase_of_mem hi, List.length_append, List.length_singleton]
    have := h.many
    omega
  · rw [hadj] at huv ⊢
    exact ⟨h.symm _ _ huv.1, huv.2.2, huv.2.1⟩
  · rw [hadj] at huv
    obtain ⟨a, b, c⟩ := h.within u v huv.1
    exact ⟨(hmem u).2 ⟨a, huv.2.1⟩, (hmem v).2 ⟨b, huv.2.2⟩, c⟩
  · obtain ⟨hu1, hu2⟩ := (hmem u).1 hu
    obtain ⟨hv1, hv2⟩ := (hmem v).1 hv
    have := h.conn u hu1 v hv1 (fun x => (x ≠ i → Conn (cutO O i j) u x) ∧ (x = i → Conn (cutO O i j) u j)) ⟨fun _ => Conn.refl _ _, fun e => absurd e hu2⟩ (fun x y hx hxy => by
      by_cases ex : x = i
      · subst ex
        have ey := hone y hxy
        subst ey
        exact ⟨fun _ => hx.2 rfl, fun _ => hx.2 rfl⟩
      · refine ⟨fun ey => Conn.step (hx.1 ex) ((hadj x y).2 ⟨hxy, ex, ey⟩), fun ey => ?_⟩
        subst ey
        have := hone x (h.symm _ _ hxy)
        subst this
        exact hx.1 ex)
    exact this.1 hv2
  · have e1 := ((List.perm_cons_erase hi).map (dO O)).sum_nat
    have e2 := ((List.perm_cons_erase hje).map (dO O)).sum_nat
    have e3 := ((List.perm_cons_erase hje).map (dO (cutO O i j))).sum_nat
    rw [List.map_cons, List.sum_cons] at e1 e2 e3
    have e4 : ((A.erase i).erase j).map (dO (cutO O i j)) = ((A.erase i).erase j).map (dO O) := List.map_congr_left fun u hu => by
      have h3 := (h.nd.erase i).mem_erase_iff.1 hu
      exact hdo u h3.1 ((hmem u).1 h3.2).2
    rw [e4] at e3
    have hl := List.length_erase_of_mem hi
    have := h.sum
    omega
  · obtain ⟨hv1, hv2⟩ := (hmem v).1 hv
    rw [hcnt, h.left v hv1]
    by_cases e : j = v
    · subst e; rw [if_pos rfl]; omega
    · rw [if_neg e, hdo v (fun e' => e e'.symm) hv2]; omega
  · rw [hcnt]
    by_cases e : v = i
    · subst e
      rw [if_neg (fun e => hne e.symm), h.left v hi, hd]; omega
    · have hvn : v ∉ A := fun hv' => hvA ((hmem v).2 ⟨hv', e⟩)
      rw [if_neg (by rintro rfl; exact hvn hj), h.gone v hv hvn]; omega
  · rcases List.mem_append.1 hv with hv | hv
    · exact h.outs v hv
    · rw [List.mem_singleton] at hv; rw [hv]; exact hjn
end

theorem pru_start {n : Nat} {ls : List Ln} (hg : GoodG n ls) (hS : Small (beside n ls)) (hT : IsTreeG n ls) : Pru n (beside n ls) (beside n ls) (List.range n) [] := by
  have hb := adj_bounded hg
  have hs : ∀ u v, adjS (beside n ls) u v → adjS (beside n ls) v u := fun _ _ h => adj_symm hg h
  have hn1 := hg.1
  refine ⟨beside_length n ls, hS, List.nodup_range, fun i hi => List.mem_range.1 hi, by simp, hs, fun u v h => ⟨List.mem_range.2 (hb u v h).1, List.mem_range.2 (hb u v h).2, adj_ne hg h⟩, fun u hu v hv => ?_, ?_, fun v _ => by simp, fun v hv hn => absurd (List.mem_range.2 hv) hn, fun v hv => by cases hv⟩
  · exact Conn.trans (Conn.symm hs (hT.2 u (List.mem_range.1 hu))) (hT.2 v (List.mem_range.1 hv))
  · have e : (List.range n).map (dO (beside n ls)) = (List.range n).map (dg (rN ls) n) := List.map_congr_left fun v hv => dO_near hg (List.mem_range.1 hv)
    rw [e, List.length_range]
    have := sum_dg_le n ls
    have := hT.1
    omega
end Gr
end Go.Proofs.Ytjeafgnaoncphaa
