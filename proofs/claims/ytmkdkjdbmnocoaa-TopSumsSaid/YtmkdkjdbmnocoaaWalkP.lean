/- How far points are from one: a walk in rounds, and what it comes to. Conditions: none. -/
import Derived.Test.YtmkdkjdbmnocoaaEachP
namespace Go.Proofs.Ytmkdkjdbmnocoaa.Gr

/-- j is in the set of i -/
def adjS (O : List Nat) (i j : Nat) : Prop := (O[i]?.getD 0).testBit j = true
/-- the number of i in a list; -1 beyond it -/
def at1 (d : List Int) (i : Nat) : Int := d[i]?.getD (-1)

theorem at1_lt {d : List Int} {i : Nat} (h : i < d.length) : d[i]? = some (at1 d i) := by simp [at1, h]
theorem at1_ge {d : List Int} {i : Nat} (h : d.length ≤ i) : at1 d i = -1 := by simp [at1, h]
theorem at1_set {d : List Int} {i j : Nat} {v : Int} (h : i < d.length) : at1 (d.set i v) j = if j = i then v else at1 d j := by
  unfold at1
  rw [List.getElem?_set]
  by_cases e : i = j
  · subst e; simp [h]
  · rw [if_neg e, if_neg (fun h => e h.symm)]
theorem at1_in {d : List Int} {i : Nat} (h : 0 ≤ at1 d i) : i < d.length := by
  rcases Nat.lt_or_ge i d.length with h1 | h1
  · exact h1
  · rw [at1_ge h1] at h; omega

/-- the numbers are how far each point is from f: -1: it can't be reached -/
structure IsDist (O : List Nat) (n f : Nat) (d : List Int) : Prop where
  len : d.length = n
  lo : ∀ i, -1 ≤ at1 d i
  src : at1 d f = 0
  zero : ∀ i, at1 d i = 0 → i = f
  pre : ∀ i, 0 < at1 d i → ∃ j, adjS O j i ∧ at1 d j = at1 d i - 1
  edge : ∀ i j, adjS O i j → 0 ≤ at1 d i → 0 ≤ at1 d j ∧ at1 d j ≤ at1 d i + 1
  small : ∀ i, at1 d i < n

/-- between two rounds: q are the points whose neighbours are still to be looked at -/
structure Bfs (O : List Nat) (n f : Nat) (d : List Int) (q : List Nat) : Prop where
  len : d.length = n
  lo : ∀ i, -1 ≤ at1 d i
  src : at1 d f = 0
  zero : ∀ i, at1 d i = 0 → i = f
  pre : ∀ i, 0 < at1 d i → ∃ j, adjS O j i ∧ at1 d j = at1 d i - 1
  qin : ∀ i ∈ q, 0 ≤ at1 d i
  sorted : q.Pairwise (fun a b => at1 d a ≤ at1 d b)
  near : ∀ h t, q = h :: t → ∀ i, at1 d i ≤ at1 d h + 1
  done : ∀ i, 0 ≤ at1 d i → i ∉ q → ∀ j, adjS O i j → 0 ≤ at1 d j ∧ at1 d j ≤ at1 d i + 1
  few : ∀ i, at1 d i + 1 + ((d.countP fun z => decide (z < 0) : Nat) : Int) ≤ n
  cap : (d.countP fun z => decide (z < 0)) + q.length ≤ n

/-- one point x beside u -/
def bfsStep (u : Nat) (st : List Int × List Nat) (x : Nat) : List Int × List Nat :=
  if at1 st.1 x < 0 then (st.1.set x (at1 st.1 u + 1), st.2 ++ [x]) else st

def bfsMu (d : List Int) (q : List Nat) : Nat := d.countP (fun z => decide (z < 0)) + q.length

theorem bfs_step {O : List Nat} {n f u x : Nat} {d : List Int} {t : List Nat} (h : Bfs O n f d (u :: t)) (hx : x < n) (ha : adjS O u x) :
    ∃ d' t', bfsStep u (d, u :: t) x = (d', u :: t') ∧ Bfs O n f d' (u :: t') ∧ at1 d' u = at1 d u ∧ (∀ i, 0 ≤ at1 d i → 0 ≤ at1 d' i) ∧ 0 ≤ at1 d' x ∧ bfsMu d' (u :: t') = bfsMu d (u :: t) := by
  have hu : 0 ≤ at1 d u := h.qin u List.mem_cons_self
  by_cases hn : at1 d x < 0
  · have hxl : x < d.length := by rw [h.len]; exact hx
    have hux : u ≠ x := by rintro rfl; omega
    have hs : ∀ i, at1 (d.set x (at1 d u + 1)) i = if i = x then at1 d u + 1 else at1 d i := fun i => at1_set hxl
    have hcnt : (d.set x (at1 d u + 1)).countP (fun z => decide (z < 0)) + 1 = d.countP (fun z => decide (z < 0)) := by
      rw [List.countP_set hxl]
      have e1 : d[x] < 0 := by have := at1_lt hxl; rw [List.getElem?_eq_getElem hxl] at this; simp at this; omega
      have hp : 0 < d.countP (fun z => decide (z < 0)) := List.countP_pos_iff.2 ⟨d[x], List.getElem_mem hxl, by simpa using e1⟩
      have e2 : ¬ (at1 d u + 1 < 0) := by omega
      simp [e1, e2]
      omega
    refine ⟨d.set x (at1 d u + 1), t ++ [x], by simp [bfsStep, hn], ?_, ?_, ?_, ?_, ?_⟩
    · refine ⟨by simp [h.len], ?_, ?_, ?_, ?_, ?_, ?_, ?_, ?_, ?_, by have := h.cap; simp at this ⊢; omega⟩
      · intro i; rw [hs]; split
        · omega
        · exact h.lo i
      · rw [hs, if_neg (by rintro rfl; have := h.src; omega)]; exact h.src
      · intro i hi; rw [hs] at hi; split at hi
        · omega
        · exact h.zero i hi
      · intro i hi; rw [hs] at hi ⊢
        split
        · rename_i e; subst e
          refine ⟨u, ha, ?_⟩
          rw [hs, if_neg hux]; omega
        · rename_i e
          rw [if_neg e] at hi
          obtain ⟨j, h1, h2⟩ := h.pre i hi
          refine ⟨j, h1, ?_⟩
          rw [hs, if_neg (by rintro rfl; omega)]; exact h2
      · intro i hi; rw [hs]; split
        · omega
        · rename_i e
          rw [← List.cons_append] at hi
          rcases List.mem_append.1 hi with h1 | h1
          · exact h.qin i h1
          · exact absurd (List.mem_singleton.1 h1) e
      · rw [← List.cons_append, List.pairwise_append]
        have hne : ∀ a ∈ u :: t, a ≠ x := by
          intro a hm e
          subst e
          have := h.qin a hm
          omega
        refine ⟨?_, by simp, ?_⟩
        · refine List.Pairwise.imp_of_mem ?_ h.sorted
          intro a b ha hb hab
          rw [hs, hs, if_neg (hne a ha), if_neg (hne b hb)]; exact hab
        · intro a ha b hb
          rw [List.mem_singleton.1 hb, hs, hs, if_neg (hne a ha), if_pos rfl]
          exact h.near u t rfl a
      · intro h0 t0 e i
        cases e
        rw [hs u, if_neg hux, hs]; split
        · omega
        · exact h.near u t rfl i
      · intro i hi hq j hj
        rw [← List.cons_append] at hq
        have hq1 : i ∉ u :: t := fun h => hq (List.mem_append_left _ h)
        have hix : i ≠ x := fun e => hq (List.mem_append_right _ (by simp [e]))
        rw [hs, if_neg hix] at hi
        obtain ⟨h1, h2⟩ := h.done i hi hq1 j hj
        rw [hs j, hs i, if_neg hix, if_neg (by rintro rfl; omega)]
        exact ⟨h1, h2⟩
      · intro i
        rw [hs]
        have f1 := h.few i
        have f2 := h.few u
        split <;> omega
    · rw [hs, if_neg hux]
    · intro i hi; rw [hs]; split <;> omega
    · rw [hs, if_pos rfl]; omega
    · unfold bfsMu
      simp
      omega
  · exact ⟨d, t, by simp [bfsStep, hn], h, rfl, fun _ h => h, by omega, rfl⟩

theorem bfs_fold {O : List Nat} {n f u : Nat} (xs : List Pt) : ∀ {d : List Int} {t : List Nat}, Bfs O n f d (u :: t) → (∀ x ∈ xs, x.val < n ∧ adjS O u x.val) →
    ∃ d' t', (xs.map (·.val)).foldl (bfsStep u) (d, u :: t) = (d', u :: t') ∧ Bfs O n f d' (u :: t') ∧ at1 d' u = at1 d u ∧ (∀ i, 0 ≤ at1 d i → 0 ≤ at1 d' i) ∧ (∀ x ∈ xs, 0 ≤ at1 d' x.val) ∧ bfsMu d' (u :: t') = bfsMu d (u :: t) := by
  induction xs with
  | nil => intro d t h _; exact ⟨d, t, rfl, h, rfl, fun _ h => h, by simp, rfl⟩
  | cons x xs ih =>
    intro d t h hx
    obtain ⟨d1, t1, e1, b1, u1, m1, x1, mu1⟩ := bfs_step h (hx x List.mem_cons_self).1 (hx x List.mem_cons_self).2
    obtain ⟨d2, t2, e2, b2, u2, m2, x2, mu2⟩ := ih b1 (fun y hy => hx y (List.mem_cons_of_mem _ hy))
    refine ⟨d2, t2, ?_, b2, u2.trans u1, fun i hi => m2 i (m1 i hi), ?_, mu2.trans mu1⟩
    · rw [List.map_cons, List.foldl_cons, e1, e2]
    · intro y hy
      rcases List.mem_cons.1 hy with rfl | hy
      · exact m2 _ x1
      · exact x2 y hy

/-- sets of points below n -/
def Bounded (n : Nat) (O : List Nat) : Prop := ∀ i j, adjS O i j → i < n ∧ j < n

/-- the round is over -/
theorem bfs_round {O : List Nat} {n f u : Nat} (hn : n ≤ 8) (hO : Bounded n O) {d : List Int} {t : List Nat} (h : Bfs O n f d (u :: t)) :
    ∃ d' t', ((elems (O[u]?.getD 0)).map (·.val)).foldl (bfsStep u) (d, u :: t) = (d', u :: t') ∧ Bfs O n f d' t' ∧ bfsMu d' t' < bfsMu d (u :: t) := by
  obtain ⟨d', t', e, b, hu, hm, hx, mu⟩ := bfs_fold (elems (O[u]?.getD 0)) h (fun x hx => by
    have ha : adjS O u x.val := mem_elems.1 hx
    exact ⟨(hO _ _ ha).2, ha⟩)
  refine ⟨d', t', e, ⟨b.len, b.lo, b.src, b.zero, b.pre, fun i hi => b.qin i (List.mem_cons_of_mem _ hi), (List.pairwise_cons.1 b.sorted).2, ?_, ?_, b.few, by have := b.cap; simp at this; omega⟩, ?_⟩
  · intro h' t'' e' i
    have h1 := b.near u t' rfl i
    have h2 := (List.pairwise_cons.1 b.sorted).1 h' (by rw [e']; exact List.mem_cons_self)
    omega
  · intro i hi hq j hj
    by_cases hiu : i = u
    · subst hiu
      have hj8 : j < 8 := Nat.lt_of_lt_of_le (hO _ _ hj).2 hn
      exact ⟨hx ⟨j, hj8⟩ (mem_elems.2 hj), b.near i t' rfl j⟩
    · exact b.done i hi (by simp [hiu, hq]) j hj
  · rw [← mu]; unfold bfsMu; simp

theorem bfs_start {O : List Nat} {n f : Nat} (hf : f < n) : Bfs O n f ((List.replicate n (-1)).set f 0) [f] := by
  have hs : ∀ i, at1 ((List.replicate n (-1 : Int)).set f 0) i = if i = f then 0 else -1 := fun i => by
    rw [at1_set (by simpa using hf)]
    split
    · rfl
    · unfold at1; rw [List.getElem?_replicate]; split <;> rfl
  have hc : ((List.replicate n (-1 : Int)).set f 0).countP (fun z => decide (z < 0)) = n - 1 := by
    rw [List.countP_set (by simpa using hf)]
    simp [List.countP_replicate]
  refine ⟨by simp, ?_, ?_, ?_, ?_, ?_, by simp, ?_, ?_, ?_, by rw [hc]; simp; omega⟩
  · intro i; rw [hs]; split <;> omega
  · rw [hs, if_pos rfl]
  · intro i hi; rw [hs] at hi; split at hi
    · assumption
    · omega
  · intro i hi; rw [hs] at hi; split at hi <;> omega
  · intro i hi; rw [hs, if_pos (by simpa using hi)]; omega
  · intro h t e i; cases e; rw [hs, hs, if_pos rfl]; split <;> omega
  · intro i hi hq j _; rw [hs] at hi; split at hi
    · rename_i e; exact absurd (by simp [e]) hq
    · omega
  · intro i; rw [hs, hc]; split <;> omega

theorem bfs_end {O : List Nat} {n f : Nat} {d : List Int} (h : Bfs O n f d []) : IsDist O n f d :=
  ⟨h.len, h.lo, h.src, h.zero, h.pre, fun i j hij hi => h.done i hi (by simp) j hij, fun i => by have := h.few i; omega⟩

/-! the points that can be reached -/

/-- s: the points that can be reached from f over the sets O, within W -/
structure IsReach (O : List Nat) (W f s : Nat) : Prop where
  src : s.testBit f = true
  shut : ∀ u v, s.testBit u = true → adjS O u v → W.testBit v = true → s.testBit v = true
  least : ∀ T : Nat → Prop, T f → (∀ u v, T u → adjS O u v → W.testBit v = true → T v) → ∀ v, s.testBit v = true → T v

structure Rch (O : List Nat) (W f s : Nat) (q : List Nat) : Prop where
  src : s.testBit f = true
  qin : ∀ i ∈ q, s.testBit i = true
  shut : ∀ u v, s.testBit u = true → u ∉ q → adjS O u v → W.testBit v = true → s.testBit v = true
  least : ∀ T : Nat → Prop, T f → (∀ u v, T u → adjS O u v → W.testBit v = true → T v) → ∀ v, s.testBit v = true → T v

theorem rch_start (O : List Nat) (W f : Nat) : Rch O W f (0 ||| 2 ^ f) [f] := by
  have hb : ∀ i, (0 ||| 2 ^ f).testBit i = true ↔ i = f := fun i => by
    rw [Nat.zero_or, Nat.testBit_two_pow]; simp [eq_comm]
  refine ⟨(hb f).2 rfl, ?_, ?_, ?_⟩
  · intro i hi; exact (hb i).2 (by simpa using hi)
  · intro u v hu hq; exact absurd (by simp [(hb u).1 hu]) hq
  · intro T hT _ v hv; rw [(hb v).1 hv]; exact hT

/-- all points of xs more -/
def withAll (s : Nat) (xs : List Nat) : Nat := xs.foldl (fun s x => s ||| 2 ^ x) s
theorem withAll_bit (xs : List Nat) : ∀ (s i : Nat), (withAll s xs).testBit i = true ↔ s.testBit i = true ∨ i ∈ xs := by
  induction xs with
  | nil => intro s i; simp [withAll]
  | cons x xs ih =>
    intro s i
    show (withAll (s ||| 2 ^ x) xs).testBit i = true ↔ _
    rw [ih, Nat.testBit_or, Nat.testBit_two_pow, Bool.or_eq_true, decide_eq_true_eq, List.mem_cons, or_assoc, @eq_comm _ x i]
theorem withAll_small (xs : List Pt) : ∀ (s : Nat), s < 256 → withAll s (xs.map (·.val)) < 256 := by
  induction xs with
  | nil => intro s h; exact h
  | cons x xs ih => intro s h; exact ih _ (or_small h (pow_small x.isLt))

theorem rch_round {O : List Nat} {W f s u : Nat} {t : List Nat} (h : Rch O W f s (u :: t)) {S : List Nat} (hS : ∀ x, x ∈ S ↔ adjS O u x ∧ W.testBit x = true ∧ s.testBit x = false) :
    Rch O W f (withAll s S) (t ++ S) := by
  refine ⟨(withAll_bit _ _ _).2 (.inl h.src), ?_, ?_, ?_⟩
  · intro i hi
    rw [withAll_bit]
    rcases List.mem_append.1 hi with h1 | h1
    · exact .inl (h.qin i (List.mem_cons_of_mem _ h1))
    · exact .inr h1
  · intro a v ha hq hav hW
    rw [withAll_bit] at ha ⊢
    by_cases hau : a = u
    · subst hau
      cases hs : s.testBit v with
      | true => exact .inl rfl
      | false => exact .inr ((hS v).2 ⟨hav, hW, hs⟩)
    · rcases ha with ha | ha
      · exact .inl (h.shut a v ha (by simp [hau]; exact fun hm => hq (List.mem_append_left _ hm)) hav hW)
      · exact absurd (List.mem_append_right _ ha) hq
  · intro T h1 h2 v hv
    rw [withAll_bit] at hv
    rcases hv with hv | hv
    · exact h.least T h1 h2 v hv
    · obtain ⟨g1, g2, _⟩ := (hS v).1 hv
      exact h2 u v (h.least T h1 h2 u (h.qin u List.mem_cons_self)) g1 g2

theorem rch_end {O : List Nat} {W f s : Nat} (h : Rch O W f s []) : IsReach O W f s := ⟨h.src, fun u v hu => h.shut u v hu (by simp), h.least⟩

def rchMu (s : Nat) (q : List Nat) : Nat := (8 - (elems s).length) + q.length

theorem filter_two {α : Type} (l : List α) (p q : α → Bool) (h : ∀ a ∈ l, ¬ (p a = true ∧ q a = true)) : (l.filter fun a => p a || q a).length = (l.filter p).length + (l.filter q).length := by
  induction l with
  | nil => rfl
  | cons a l ih =>
    have ih' := ih (fun b hb => h b (List.mem_cons_of_mem _ hb))
    have ha := h a List.mem_cons_self
    simp only [List.filter_cons]
    cases hp : p a <;> cases hq : q a <;> simp_all <;> omega

theorem elems_le (s : Nat) : (elems s).length ≤ 8 := by
  unfold elems
  refine Nat.le_trans (List.length_filter_le _ _) ?_
  simp

theorem rch_mu {s S u : Nat} {t : List Nat} (h : ∀ x, S.testBit x = true → s.testBit x = false) :
    rchMu (withAll s ((elems S).map (·.val))) (t ++ (elems S).map (·.val)) < rchMu s (u :: t) := by
  have e : (elems (withAll s ((elems S).map (·.val)))).length = (elems s).length + (elems S).length := by
    have : elems (withAll s ((elems S).map (·.val))) = (List.finRange 8).filter fun i => s.testBit i.val || S.testBit i.val := by
      unfold elems
      apply List.filter_congr
      intro i _
      rw [Bool.eq_iff_iff, withAll_bit]
      simp
      constructor
      · rintro (h1 | ⟨a, h1, h2⟩)
        · exact .inl h1
        · exact .inr (h2 ▸ h1)
      · rintro (h1 | h1)
        · exact .inl h1
        · exact .inr ⟨i, h1, rfl⟩
    rw [this]
    refine filter_two _ _ _ ?_
    rintro a _ ⟨h1, h2⟩
    rw [h _ h2] at h1; cases h1
  have h8 := elems_le (withAll s ((elems S).map (·.val)))
  unfold rchMu
  rw [List.length_append, List.length_map, List.length_cons]
  omega

end Go.Proofs.Ytmkdkjdbmnocoaa.Gr
