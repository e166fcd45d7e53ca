/- The points that one comes to where there is room, and one way more: plain. Conditions: in each statement. -/
import Derived.Test.YtjeafgnaoncphaaFlowP
namespace Go.Proofs.Ytjeafgnaoncphaa
open Go.RowKit Gr

namespace Gr
/-- ord: who was come to, in order; F: from whom -/
structure ComeR (n a : Nat) (R : Nat → Nat → Int) (ord : List Nat) (F : Nat → Int) : Prop where
  nd : ord.Nodup
  lt : ∀ x ∈ ord, x < n
  head : ord[0]? = some a
  non : ∀ x, x < n → (F x < 0 ↔ x ∉ ord)
  low : ∀ x, x < n → -1 ≤ F x ∧ F x < n
  par : ∀ i (_ : 0 < i) (hi : i < ord.length), ∃ (j : Nat) (hj : j < i), F ord[i] = ((ord[j] : Nat) : Int) ∧ 1 ≤ R ord[j] ord[i]
/-- the first h are done, and the next one up to j -/
def BDone (n : Nat) (R : Nat → Nat → Int) (ord : List Nat) (h j : Nat) : Prop :=
  (∀ i (hi : i < ord.length), i < h → ∀ y, y < n → 1 ≤ R ord[i] y → y ∈ ord) ∧ ∀ (hh : h < ord.length) y, y < j → 1 ≤ R ord[h] y → y ∈ ord
section
variable {n a : Nat} {R : Nat → Nat → Int} {ord : List Nat} {F : Nat → Int}
theorem come_start (ha : a < n) : ComeR n a R [a] (fun x => if x = a then (a : Int) else -1) := by
  refine ⟨by simp, fun x hx => by rw [List.mem_singleton.1 hx]; exact ha, rfl, fun x _ => ?_, fun x _ => ?_, fun i h0 hi => ?_⟩
  · by_cases e : x = a
    · simp [e]
    · simp [e]
  · split <;> omega
  · simp at hi; omega
theorem ComeR.pos (h : ComeR n a R ord F) : 0 < ord.length := by
  rcases Nat.eq_zero_or_pos ord.length with e | e
  · have := h.head
    rw [List.length_eq_zero_iff.1 e] at this
    cases this
  · exact e
theorem ComeR.first (h : ComeR n a R ord F) : ord[0]'h.pos = a := by
  have := h.head
  rw [List.getElem?_eq_getElem h.pos] at this
  exact Option.some.inj this
theorem ComeR.few (h : ComeR n a R ord F) : ord.length ≤ n := by
  have := h.nd.length_le_of_subset (l₂ := List.range n) fun x hx => List.mem_range.2 (h.lt x hx)
  simpa using this
theorem ComeR.push (h : ComeR n a R ord F) {i x : Nat} (hi : i < ord.length) (hx : x < n) (hF : F x < 0) (hR : 1 ≤ R ord[i] x) : ComeR n a R (ord ++ [x]) (fun u => if u = x then ((ord[i] : Nat) : Int) else F u) := by
  have hxo := (h.non x hx).1 hF
  refine ⟨?_, fun u hu => ?_, ?_, fun u hu => ?_, fun u hu => ?_, fun k h0 hk => ?_⟩
  · rw [List.nodup_append]
    refine ⟨h.nd, by simp, fun u hu v hv e => ?_⟩
    rw [List.mem_singleton] at hv
    exact hxo (hv ▸ e ▸ hu)
  · rcases List.mem_append.1 hu with hu | hu
    · exact h.lt u hu
    · rw [List.mem_singleton] at hu; rw [hu]; exact hx
  · rw [List.getElem?_append_left h.pos]; exact h.head
  · by_cases e : u = x
    · subst e
      rw [if_pos rfl]
      simp
    · rw [if_neg e, h.non u hu]
      simp [e]
  · by_cases e : u = x
    · rw [if_pos e]
      have := h.lt _ (List.getElem_mem hi)
      omega
    · rw [if_neg e]; exact h.low u hu
  · by_cases e : k < ord.length
    · obtain ⟨j, hj, h1, h2⟩ := h.par k h0 e
      refine ⟨j, hj, ?_, ?_⟩
      · rw [List.getElem_append_left e, List.getElem_append_left (by omega), if_neg (fun (e2 : ord[k] = x) => hxo (by rw [← e2]; exact List.getElem_mem e))]
        exact h1
      · rw [List.getElem_append_left e, List.getElem_append_left (by omega)]
        exact h2
    · have hk' : k = ord.length := by rw [List.length_append, List.length_singleton] at hk; omega
      subst hk'
      refine ⟨i, hi, ?_, ?_⟩
      · rw [List.getElem_append_right (Nat.le_refl _), List.getElem_append_left hi]
        simp
      · rw [List.getElem_append_right (Nat.le_refl _), List.getElem_append_left hi]
        simpa using hR
theorem comed_start (hn : ord.length = 1) : BDone n R ord 0 0 := ⟨fun i _ h => by omega, fun _ y h => by omega⟩
theorem BDone.more {h j x : Nat} (hd : BDone n R ord h j) (hh : h < ord.length) : BDone n R (ord ++ [x]) h j := by
  refine ⟨fun i hi hih y hy hR => ?_, fun hh' y hy hR => ?_⟩
  · rw [List.getElem_append_left (by omega)] at hR
    exact List.mem_append_left _ (hd.1 i (by omega) hih y hy hR)
  · rw [List.getElem_append_left hh] at hR
    exact List.mem_append_left _ (hd.2 hh y hy hR)
theorem BDone.next {h j : Nat} (hd : BDone n R ord h j) (hh : h < ord.length) (hj : 1 ≤ R ord[h] j → j ∈ ord) : BDone n R ord h (j + 1) := by
  refine ⟨hd.1, fun hh' y hy hR => ?_⟩
  by_cases e : y = j
  · subst e; exact hj hR
  · exact hd.2 hh' y (by omega) hR
theorem BDone.round {h : Nat} (hd : BDone n R ord h n) : BDone n R ord (h + 1) 0 := by
  refine ⟨fun i hi hih y hy hR => ?_, fun _ y hy => by omega⟩
  by_cases e : i = h
  · subst e; exact hd.2 hi y hy hR
  · exact hd.1 i hi (by omega) y hy hR
/-- where b is not come to, as many ways go as lines lead out of those that are -/
theorem come_cut {ls : List Ln} (hg : GoodG n ls) {b : Nat} {k : Int} (hf : Flow n ls a b (netK a b k) R) (ha : a < n) (hb : b < n) (h : ComeR n a R ord F) {j : Nat} (hd : BDone n R ord ord.length j) (hFb : F b < 0) :
    ∃ T : Nat → Bool, T a = true ∧ T b = false ∧ k = (cutL ls T : Int) := by
  have hbo := (h.non b hb).1 hFb
  have hao : a ∈ ord := by rw [← h.first]; exact List.getElem_mem _
  refine ⟨fun x => decide (x ∈ ord), by simpa using hao, by simpa using hbo, ?_⟩
  refine flow_eq hg hf ha _ (by simpa using hao) (by simpa using hbo) fun x y hx hy hTx hTy => ?_
  simp only [decide_eq_true_eq, decide_eq_false_iff_not] at hTx hTy
  obtain ⟨i, hi, rfl⟩ := List.mem_iff_getElem.1 hTx
  have h1 : ¬ 1 ≤ R ord[i] y := fun h2 => hTy (hd.1 i hi hi y hy h2)
  have := hf.pos ord[i] y hx hy
  omega

/-- one way more was laid from ord[d] to b -/
structure Aug (n : Nat) (ls : List Ln) (a b : Nat) (k : Int) (R : Nat → Nat → Int) (ord : List Nat) (d : Nat) (R' : Nat → Nat → Int) : Prop where
  hd : d < ord.length
  flow : Flow n ls a b (fun u => netK a b k u + ((if u = ord[d] then 1 else 0) + (if u = b then -1 else 0))) R'
  same : ∀ p q (hp : p < ord.length) (hq : q < ord.length), p ≤ d → q ≤ d → R' ord[p] ord[q] = R ord[p] ord[q]
theorem flow_net {ls : List Ln} {b : Nat} {N N' : Nat → Int} (h : Flow n ls a b N R) (e : ∀ u, N u = N' u) : Flow n ls a b N' R := by
  have : N = N' := funext e
  rwa [← this]
theorem aug_start {ls : List Ln} {b d : Nat} {k : Int} (hf : Flow n ls a b (netK a b k) R) (hd : d < ord.length) (hb : ord[d] = b) : Aug n ls a b k R ord d R := by
  refine ⟨hd, flow_net hf fun u => ?_, fun _ _ _ _ _ _ => rfl⟩
  rw [hb]
  split <;> omega
theorem Aug.step {ls : List Ln} {b d j : Nat} {k : Int} {R' : Nat → Nat → Int} (h : ComeR n a R ord F) (g : Aug n ls a b k R ord d R') (hj : j < d) (hR : 1 ≤ R (ord[j]'(Nat.lt_trans hj g.hd)) (ord[d]'g.hd)) :
    Aug n ls a b k R ord j (pushR R' (ord[j]'(Nat.lt_trans hj g.hd)) (ord[d]'g.hd)) := by
  have hjl := Nat.lt_trans hj g.hd
  have hdl := g.hd
  have hne : ∀ p (hp : p < ord.length), p ≤ j → ord[p] ≠ ord[d] := fun p hp hpj => List.pairwise_iff_getElem.1 h.nd p d hp hdl (by omega)
  refine ⟨hjl, ?_, fun p q hp hq hpj hqj => ?_⟩
  · have := flow_push g.flow (h.lt _ (List.getElem_mem hjl)) (h.lt _ (List.getElem_mem hdl)) (hne j hjl (Nat.le_refl _)) (by rw [g.same j d hjl hdl (by omega) (Nat.le_refl _)]; exact hR)
    refine flow_net this fun u => ?_
    have := hne j hjl (Nat.le_refl _)
    by_cases e1 : u = ord[j] <;> by_cases e2 : u = ord[d] <;> by_cases e3 : u = b <;> simp only [e1, e2, e3, if_true, if_false] <;> omega
  · unfold pushR
    rw [if_neg (fun e => hne q hq hqj e.2), if_neg (fun e => hne p hp hpj e.1)]
    exact g.same p q hp hq (by omega) (by omega)
theorem Aug.last {ls : List Ln} {b : Nat} {k : Int} {R' : Nat → Nat → Int} (h : ComeR n a R ord F) (g : Aug n ls a b k R ord 0 R') : Flow n ls a b (netK a b (k + 1)) R' := by
  refine flow_net g.flow fun u => ?_
  rw [h.first]
  unfold netK
  by_cases e1 : u = a <;> by_cases e2 : u = b <;> simp only [e1, e2, if_true, if_false] <;> omega
end
theorem flow_bound {n : Nat} {ls : List Ln} (hg : GoodG n ls) {a b : Nat} {k : Int} {R : Nat → Nat → Int} (h : Flow n ls a b (netK a b k) R) (ha : a < n) (hab : a ≠ b) : k ≤ 24 := by
  have := flow_le hg h ha (fun x => decide (x = a)) (by simp) (by simp; exact fun e => hab e.symm)
  have h2 : cutL ls (fun x => decide (x = a)) ≤ ls.length := List.length_filter_le _ _
  have := hg.2.2.1
  omega
end Gr
end Go.Proofs.Ytjeafgnaoncphaa
