/- PlainA: what several texts say, in one: WalkP, Adj, RingP, PartsP, DeepP, ForestP, LowP, LowestP, BridgeP, FarP. Conditions: in each statement. -/
import Derived.Test.YtjeafgnaoncphaaPlainB

namespace Go.Proofs.Ytjeafgnaoncphaa.Gr

/-- j is in the set of i -/
def adjS (O : List Nat) (i j : Nat) : Prop := (O[i]?.getD 0).testBit j = true
/-- the number of i in a list; -1 beyond it -/
def at1 (d : List Int) (i : Nat) : Int := d[i]?.getD (-1)

theorem at1_lt {d : List Int} {i : Nat} (h : i < d.length) : d[i]? = some (at1 d i) := by simp [at1, h]
theorem at1_ge {d : List Int} {i : Nat} (h : d.length ≤ i) : at1 d i = -1 := by simp [at1, h]
theorem at1_set {d : List Int} {i j : Nat} {v : Int} (h : i < d.length) : at1 (d.set i v) j = if j = i then v else at1 d j := by
  unfold at1
  rw [List.getElem?_set]
  by_cases e : i = j
  · subst e; simp [h]
  · rw [if_neg e, if_neg (fun h => e h.symm)]
theorem at1_in {d : List Int} {i : Nat} (h : 0 ≤ at1 d i) : i < d.length := by
  rcases Nat.lt_or_ge i d.length with h1 | h1
  · exact h1
  · rw [at1_ge h1] at h; omega

/-- the numbers are how far each point is from f: -1: it can't be reached -/
structure IsDist (O : List Nat) (n f : Nat) (d : List Int) : Prop where
  len : d.length = n
  lo : ∀ i, -1 ≤ at1 d i
  src : at1 d f = 0
  zero : ∀ i, at1 d i = 0 → i = f
  pre : ∀ i, 0 < at1 d i → ∃ j, adjS O j i ∧ at1 d j = at1 d i - 1
  edge : ∀ i j, adjS O i j → 0 ≤ at1 d i → 0 ≤ at1 d j ∧ at1 d j ≤ at1 d i + 1
  small : ∀ i, at1 d i < n

/-- between two rounds: q are the points whose neighbours are still to be looked at -/
structure Bfs (O : List Nat) (n f : Nat) (d : List Int) (q : List Nat) : Prop where
  len : d.length = n
  lo : ∀ i, -1 ≤ at1 d i
  src : at1 d f = 0
  zero : ∀ i, at1 d i = 0 → i = f
  pre : ∀ i, 0 < at1 d i → ∃ j, adjS O j i ∧ at1 d j = at1 d i - 1
  qin : ∀ i ∈ q, 0 ≤ at1 d i
  sorted : q.Pairwise (fun a b => at1 d a ≤ at1 d b)
  near : ∀ h t, q = h :: t → ∀ i, at1 d i ≤ at1 d h + 1
  done : ∀ i, 0 ≤ at1 d i → i ∉ q → ∀ j, adjS O i j → 0 ≤ at1 d j ∧ at1 d j ≤ at1 d i + 1
  few : ∀ i, at1 d i + 1 + ((d.countP fun z => decide (z < 0) : Nat) : Int) ≤ n
  cap : (d.countP fun z => decide (z < 0)) + q.length ≤ n

/-- one point x beside u -/
def bfsStep (u : Nat) (st : List Int × List Nat) (x : Nat) : List Int × List Nat :=
  if at1 st.1 x < 0 then (st.1.set x (at1 st.1 u + 1), st.2 ++ [x]) else st

def bfsMu (d : List Int) (q : List Nat) : Nat := d.countP (fun z => decide (z < 0)) + q.length

theorem bfs_step {O : List Nat} {n f u x : Nat} {d : List Int} {t : List Nat} (h : Bfs O n f d (u :: t)) (hx : x < n) (ha : adjS O u x) :
    ∃ d' t', bfsStep u (d, u :: t) x = (d', u :: t') ∧ Bfs O n f d' (u :: t') ∧ at1 d' u = at1 d u ∧ (∀ i, 0 ≤ at1 d i → 0 ≤ at1 d' i) ∧ 0 ≤ at1 d' x ∧ bfsMu d' (u :: t') = bfsMu d (u :: t) := by
  have hu : 0 ≤ at1 d u := h.qin u List.mem_cons_self
  by_cases hn : at1 d x < 0
  · have hxl : x < d.length := by rw [h.len]; exact hx
    have hux : u ≠ x := by rintro rfl; omega
    have hs : ∀ i, at1 (d.set x (at1 d u + 1)) i = if i = x then at1 d u + 1 else at1 d i := fun i => at1_set hxl
    have hcnt : (d.set x (at1 d u + 1)).countP (fun z => decide (z < 0)) + 1 = d.countP (fun z => decide (z < 0)) := by
      rw [List.countP_set hxl]
      have e1 : d[x] < 0 := by have := at1_lt hxl; rw [List.getElem?_eq_getElem hxl] at this; simp at this; omega
      have hp : 0 < d.countP (fun z => decide (z < 0)) := List.countP_pos_iff.2 ⟨d[x], List.getElem_mem hxl, by simpa using e1⟩
      have e2 : ¬ (at1 d u + 1 < 0) := by omega
      simp [e1, e2]
      omega
    refine ⟨d.set x (at1 d u + 1), t ++ [x], by simp [bfsStep, hn], ?_, ?_, ?_, ?_, ?_⟩
    · refine ⟨by simp [h.len], ?_, ?_, ?_, ?_, ?_, ?_, ?_, ?_, ?_, by have := h.cap; simp at this ⊢; omega⟩
      · intro i; rw [hs]; split
        · omega
        · exact h.lo i
      · rw [hs, if_neg (by rintro rfl; have := h.src; omega)]; exact h.src
      · intro i hi; rw [hs] at hi; split at hi
        · omega
        · exact h.zero i hi
      · intro i hi; rw [hs] at hi ⊢
        split
        · rename_i e; subst e
          refine ⟨u, ha, ?_⟩
          rw [hs, if_neg hux]; omega
        · rename_i e
          rw [if_neg e] at hi
          obtain ⟨j, h1, h2⟩ := h.pre i hi
          refine ⟨j, h1, ?_⟩
          rw [hs, if_neg (by rintro rfl; omega)]; exact h2
      · intro i hi; rw [hs]; split
        · omega
        · rename_i e
          rw [← List.cons_append] at hi
          rcases List.mem_append.1 hi with h1 | h1
          · exact h.qin i h1
          · exact absurd (List.mem_singleton.1 h1) e
      · rw [← List.cons_append, List.pairwise_append]
        have hne : ∀ a ∈ u :: t, a ≠ x := by
          intro a hm e
          subst e
          have := h.qin a hm
          omega
        refine ⟨?_, by simp, ?_⟩
        · refine List.Pairwise.imp_of_mem ?_ h.sorted
          intro a b ha hb hab
          rw [hs, hs, if_neg (hne a ha), if_neg (hne b hb)]; exact hab
        · intro a ha b hb
          rw [List.mem_singleton.1 hb, hs, hs, if_neg (hne a ha), if_pos rfl]
          exact h.near u t rfl a
      · intro h0 t0 e i
        cases e
        rw [hs u, if_neg hux, hs]; split
        · omega
        · exact h.near u t rfl i
      · intro i hi hq j hj
        rw [← List.cons_append] at hq
        have hq1 : i ∉ u :: t := fun h => hq (List.mem_append_left _ h)
        have hix : i ≠ x := fun e => hq (List.mem_append_right _ (by simp [e]))
        rw [hs, if_neg hix] at hi
        obtain ⟨h1, h2⟩ := h.done i hi hq1 j hj
        rw [hs j, hs i, if_neg hix, if_neg (by rintro rfl; omega)]
        exact ⟨h1, h2⟩
      · intro i
        rw [hs]
        have f1 := h.few i
        have f2 := h.few u
        split <;> omega
    · rw [hs, if_neg hux]
    · intro i hi; rw [hs]; split <;> omega
    · rw [hs, if_pos rfl]; omega
    · unfold bfsMu
      simp
      omega
  · exact ⟨d, t, by simp [bfsStep, hn], h, rfl, fun _ h => h, by omega, rfl⟩

theorem bfs_fold {O : List Nat} {n f u : Nat} (xs : List Pt) : ∀ {d : List Int} {t : List Nat}, Bfs O n f d (u :: t) → (∀ x ∈ xs, x.val < n ∧ adjS O u x.val) →
    ∃ d' t', (xs.map (·.val)).foldl (bfsStep u) (d, u :: t) = (d', u :: t') ∧ Bfs O n f d' (u :: t') ∧ at1 d' u = at1 d u ∧ (∀ i, 0 ≤ at1 d i → 0 ≤ at1 d' i) ∧ (∀ x ∈ xs, 0 ≤ at1 d' x.val) ∧ bfsMu d' (u :: t') = bfsMu d (u :: t) := by
  induction xs with
  | nil => intro d t h _; exact ⟨d, t, rfl, h, rfl, fun _ h => h, by simp, rfl⟩
  | cons x xs ih =>
    intro d t h hx
    obtain ⟨d1, t1, e1, b1, u1, m1, x1, mu1⟩ := bfs_step h (hx x List.mem_cons_self).1 (hx x List.mem_cons_self).2
    obtain ⟨d2, t2, e2, b2, u2, m2, x2, mu2⟩ := ih b1 (fun y hy => hx y (List.mem_cons_of_mem _ hy))
    refine ⟨d2, t2, ?_, b2, u2.trans u1, fun i hi => m2 i (m1 i hi), ?_, mu2.trans mu1⟩
    · rw [List.map_cons, List.foldl_cons, e1, e2]
    · intro y hy
      rcases List.mem_cons.1 hy with rfl | hy
      · exact m2 _ x1
      · exact x2 y hy

/-- sets of points below n -/
def Bounded (n : Nat) (O : List Nat) : Prop := ∀ i j, adjS O i j → i < n ∧ j < n

/-- the round is over -/
theorem bfs_round {O : List Nat} {n f u : Nat} (hn : n ≤ 8) (hO : Bounded n O) {d : List Int} {t : List Nat} (h : Bfs O n f d (u :: t)) :
    ∃ d' t', ((elems (O[u]?.getD 0)).map (·.val)).foldl (bfsStep u) (d, u :: t) = (d', u :: t') ∧ Bfs O n f d' t' ∧ bfsMu d' t' < bfsMu d (u :: t) := by
  obtain ⟨d', t', e, b, hu, hm, hx, mu⟩ := bfs_fold (elems (O[u]?.getD 0)) h (fun x hx => by
    have ha : adjS O u x.val := mem_elems.1 hx
    exact ⟨(hO _ _ ha).2, ha⟩)
  refine ⟨d', t', e, ⟨b.len, b.lo, b.src, b.zero, b.pre, fun i hi => b.qin i (List.mem_cons_of_mem _ hi), (List.pairwise_cons.1 b.sorted).2, ?_, ?_, b.few, by have := b.cap; simp at this; omega⟩, ?_⟩
  · intro h' t'' e' i
    have h1 := b.near u t' rfl i
    have h2 := (List.pairwise_cons.1 b.sorted).1 h' (by rw [e']; exact List.mem_cons_self)
    omega
  · intro i hi hq j hj
    by_cases hiu : i = u
    · subst hiu
      have hj8 : j < 8 := Nat.lt_of_lt_of_le (hO _ _ hj).2 hn
      exact ⟨hx ⟨j, hj8⟩ (mem_elems.2 hj), b.near i t' rfl j⟩
    · exact b.done i hi (by simp [hiu, hq]) j hj
  · rw [← mu]; unfold bfsMu; simp

theorem bfs_start {O : List Nat} {n f : Nat} (hf : f < n) : Bfs O n f ((List.replicate n (-1)).set f 0) [f] := by
  have hs : ∀ i, at1 ((List.replicate n (-1 : Int)).set f 0) i = if i = f then 0 else -1 := fun i => by
    rw [at1_set (by simpa using hf)]
    split
    · rfl
    · unfold at1; rw [List.getElem?_replicate]; split <;> rfl
  have hc : ((List.replicate n (-1 : Int)).set f 0).countP (fun z => decide (z < 0)) = n - 1 := by
    rw [List.countP_set (by simpa using hf)]
    simp [List.countP_replicate]
  refine ⟨by simp, ?_, ?_, ?_, ?_, ?_, by simp, ?_, ?_, ?_, by rw [hc]; simp; omega⟩
  · intro i; rw [hs]; split <;> omega
  · rw [hs, if_pos rfl]
  · intro i hi; rw [hs] at hi; split at hi
    · assumption
    · omega
  · intro i hi; rw [hs] at hi; split at hi <;> omega
  · intro i hi; rw [hs, if_pos (by simpa using hi)]; omega
  · intro h t e i; cases e; rw [hs, hs, if_pos rfl]; split <;> omega
  · intro i hi hq j _; rw [hs] at hi; split at hi
    · rename_i e; exact absurd (by simp [e]) hq
    · omega
  · intro i; rw [hs, hc]; split <;> omega

theorem bfs_end {O : List Nat} {n f : Nat} {d : List Int} (h : Bfs O n f d []) : IsDist O n f d :=
  ⟨h.len, h.lo, h.src, h.zero, h.pre, fun i j hij hi => h.done i hi (by simp) j hij, fun i => by have := h.few i; omega⟩

/-! the points that can be reached -/

/-- s: the points that can be reached from f over the sets O, within W -/
structure IsReach (O : List Nat) (W f s : Nat) : Prop where
  src : s.testBit f = true
  shut : ∀ u v, s.testBit u = true → adjS O u v → W.testBit v = true → s.testBit v = true
  least : ∀ T : Nat → Prop, T f → (∀ u v, T u → adjS O u v → W.testBit v = true → T v) → ∀ v, s.testBit v = true → T v

structure Rch (O : List Nat) (W f s : Nat) (q : List Nat) : Prop where
  src : s.testBit f = true
  qin : ∀ i ∈ q, s.testBit i = true
  shut : ∀ u v, s.testBit u = true → u ∉ q → adjS O u v → W.testBit v = true → s.testBit v = true
  least : ∀ T : Nat → Prop, T f → (∀ u v, T u → adjS O u v → W.testBit v = true → T v) → ∀ v, s.testBit v = true → T v

theorem rch_start (O : List Nat) (W f : Nat) : Rch O W f (0 ||| 2 ^ f) [f] := by
  have hb : ∀ i, (0 ||| 2 ^ f).testBit i = true ↔ i = f := fun i => by
    rw [Nat.zero_or, Nat.testBit_two_pow]; simp [eq_comm]
  refine ⟨(hb f).2 rfl, ?_, ?_, ?_⟩
  · intro i hi; exact (hb i).2 (by simpa using hi)
  · intro u v hu hq; exact absurd (by simp [(hb u).1 hu]) hq
  · intro T hT _ v hv; rw [(hb v).1 hv]; exact hT

/-- all points of xs more -/
def withAll (s : Nat) (xs : List Nat) : Nat := xs.foldl (fun s x => s ||| 2 ^ x) s
theorem withAll_bit (xs : List Nat) : ∀ (s i : Nat), (withAll s xs).testBit i = true ↔ s.testBit i = true ∨ i ∈ xs := by
  induction xs with
  | nil => intro s i; simp [withAll]
  | cons x xs ih =>
    intro s i
    show (withAll (s ||| 2 ^ x) xs).testBit i = true ↔ _
    rw [ih, Nat.testBit_or, Nat.testBit_two_pow, Bool.or_eq_true, decide_eq_true_eq, List.mem_cons, or_assoc, @eq_comm _ x i]
theorem withAll_small (xs : List Pt) : ∀ (s : Nat), s < 256 → withAll s (xs.map (·.val)) < 256 := by
  induction xs with
  | nil => intro s h; exact h
  | cons x xs ih => intro s h; exact ih _ (or_small h (pow_small x.isLt))

theorem rch_round {O : List Nat} {W f s u : Nat} {t : List Nat} (h : Rch O W f s (u :: t)) {S : List Nat} (hS : ∀ x, x ∈ S ↔ adjS O u x ∧ W.testBit x = true ∧ s.testBit x = false) :
    Rch O W f (withAll s S) (t ++ S) := by
  refine ⟨(withAll_bit _ _ _).2 (.inl h.src), ?_, ?_, ?_⟩
  · intro i hi
    rw [withAll_bit]
    rcases List.mem_append.1 hi with h1 | h1
    · exact .inl (h.qin i (List.mem_cons_of_mem _ h1))
    · exact .inr h1
  · intro a v ha hq hav hW
    rw [withAll_bit] at ha ⊢
    by_cases hau : a = u
    · subst hau
      cases hs : s.testBit v with
      | true => exact .inl rfl
      | false => exact .inr ((hS v).2 ⟨hav, hW, hs⟩)
    · rcases ha with ha | ha
      · exact .inl (h.shut a v ha (by simp [hau]; exact fun hm => hq (List.mem_append_left _ hm)) hav hW)
      · exact absurd (List.mem_append_right _ ha) hq
  · intro T h1 h2 v hv
    rw [withAll_bit] at hv
    rcases hv with hv | hv
    · exact h.least T h1 h2 v hv
    · obtain ⟨g1, g2, _⟩ := (hS v).1 hv
      exact h2 u v (h.least T h1 h2 u (h.qin u List.mem_cons_self)) g1 g2

theorem rch_end {O : List Nat} {W f s : Nat} (h : Rch O W f s []) : IsReach O W f s := ⟨h.src, fun u v hu => h.shut u v hu (by simp), h.least⟩

def rchMu (s : Nat) (q : List Nat) : Nat := (8 - (elems s).length) + q.length

theorem filter_two {α : Type} (l : List α) (p q : α → Bool) (h : ∀ a ∈ l, ¬ (p a = true ∧ q a = true)) : (l.filter fun a => p a || q a).length = (l.filter p).length + (l.filter q).length := by
  induction l with
  | nil => rfl
  | cons a l ih =>
    have ih' := ih (fun b hb => h b (List.mem_cons_of_mem _ hb))
    have ha := h a List.mem_cons_self
    simp only [List.filter_cons]
    cases hp : p a <;> cases hq : q a <;> simp_all <;> omega

theorem elems_le (s : Nat) : (elems s).length ≤ 8 := by
  unfold elems
  refine Nat.le_trans (List.length_filter_le _ _) ?_
  simp

theorem rch_mu {s S u : Nat} {t : List Nat} (h : ∀ x, S.testBit x = true → s.testBit x = false) :
    rchMu (withAll s ((elems S).map (·.val))) (t ++ (elems S).map (·.val)) < rchMu s (u :: t) := by
  have e : (elems (withAll s ((elems S).map (·.val)))).length = (elems s).length + (elems S).length := by
    have : elems (withAll s ((elems S).map (·.val))) = (List.finRange 8).filter fun i => s.testBit i.val || S.testBit i.val := by
      unfold elems
      apply List.filter_congr
      intro i _
      rw [Bool.eq_iff_iff, withAll_bit]
      simp
      constructor
      · rintro (h1 | ⟨a, h1, h2⟩)
        · exact .inl h1
        · exact .inr (h2 ▸ h1)
      · rintro (h1 | h1)
        · exact .inl h1
        · exact .inr ⟨i, h1, rfl⟩
    rw [this]
    refine filter_two _ _ _ ?_
    rintro a _ ⟨h1, h2⟩
    rw [h _ h2] at h1; cases h1
  have h8 := elems_le (withAll s ((elems S).map (·.val)))
  unfold rchMu
  rw [List.length_append, List.length_map, List.length_cons]
  omega

end Go.Proofs.Ytjeafgnaoncphaa.Gr


namespace Go.Proofs.Ytjeafgnaoncphaa.Gr

theorem outStep_adj {o : List Nat} {l : Ln} {i j : Nat} (h : l.1.toNat < o.length) : adjS (outStep o l) i j ↔ adjS o i j ∨ (l.1.toNat = i ∧ l.2.toNat = j) := by
  unfold adjS outStep
  rw [List.getElem?_set]
  by_cases e : l.1.toNat = i
  · subst e
    rw [if_pos rfl, if_pos h]
    simp [Nat.testBit_or, Nat.testBit_two_pow]
  · rw [if_neg e]; simp [e]
theorem backStep_adj {o : List Nat} {l : Ln} {i j : Nat} (h : l.2.toNat < o.length) : adjS (backStep o l) i j ↔ adjS o i j ∨ (l.2.toNat = i ∧ l.1.toNat = j) := by
  unfold adjS backStep
  rw [List.getElem?_set]
  by_cases e : l.2.toNat = i
  · subst e
    rw [if_pos rfl, if_pos h]
    simp [Nat.testBit_or, Nat.testBit_two_pow]
  · rw [if_neg e]; simp [e]

theorem fold_out_adj {i j : Nat} (ls : List Ln) : ∀ (o : List Nat), (∀ l ∈ ls, l.1.toNat < o.length) → (adjS (ls.foldl outStep o) i j ↔ adjS o i j ∨ ∃ l ∈ ls, l.1.toNat = i ∧ l.2.toNat = j) := by
  induction ls with
  | nil => intro o _; simp
  | cons l r ih =>
    intro o h
    rw [List.foldl_cons, ih _ (fun x hx => by rw [outStep_length]; exact h x (List.mem_cons_of_mem _ hx)), outStep_adj (h l List.mem_cons_self)]
    simp [or_assoc]
theorem fold_back_adj {i j : Nat} (ls : List Ln) : ∀ (o : List Nat), (∀ l ∈ ls, l.2.toNat < o.length) → (adjS (ls.foldl backStep o) i j ↔ adjS o i j ∨ ∃ l ∈ ls, l.2.toNat = i ∧ l.1.toNat = j) := by
  induction ls with
  | nil => intro o _; simp
  | cons l r ih =>
    intro o h
    rw [List.foldl_cons, ih _ (fun x hx => by rw [backStep_length]; exact h x (List.mem_cons_of_mem _ hx)), backStep_adj (h l List.mem_cons_self)]
    simp [or_assoc]

/-- a line from a to b -/
def goes (ls : List Ln) (a b : Int) : Bool := ls.any fun l => l.1 == a && l.2 == b
/-- a line between a and b -/
def near (ls : List Ln) (a b : Int) : Bool := goes ls a b || goes ls b a

theorem goes_iff {ls : List Ln} {a b : Int} : goes ls a b = true ↔ ∃ l ∈ ls, l.1 = a ∧ l.2 = b := by simp [goes]
theorem near_iff {ls : List Ln} {a b : Int} : near ls a b = true ↔ ∃ l ∈ ls, (l.1 = a ∧ l.2 = b) ∨ (l.1 = b ∧ l.2 = a) := by
  unfold near
  rw [Bool.or_eq_true, goes_iff, goes_iff]
  constructor
  · rintro (⟨l, h1, h2⟩ | ⟨l, h1, h2⟩)
    · exact ⟨l, h1, .inl h2⟩
    · exact ⟨l, h1, .inr h2⟩
  · rintro ⟨l, h1, (h2 | h2)⟩
    · exact .inl ⟨l, h1, h2⟩
    · exact .inr ⟨l, h1, h2⟩
theorem near_symm (ls : List Ln) (a b : Int) : near ls a b = near ls b a := by unfold near; rw [Bool.or_comm]

theorem adj_near {n : Nat} {ls : List Ln} (hg : GoodG n ls) (i j : Nat) : adjS (beside n ls) i j ↔ near ls i j = true := by
  obtain ⟨_, _, _, h⟩ := hg
  have e0 : ¬ adjS (List.replicate n 0) i j := by
    unfold adjS; rw [List.getElem?_replicate]; split <;> simp
  unfold beside out
  rw [fold_back_adj _ _ (fun l hl => by rw [foldl_outStep_length, List.length_replicate]; have := h l hl; omega), fold_out_adj _ _ (fun l hl => by rw [List.length_replicate]; have := h l hl; omega), near_iff]
  constructor
  · rintro ((h1 | ⟨l, h1, h2, h3⟩) | ⟨l, h1, h2, h3⟩)
    · exact absurd h1 e0
    · exact ⟨l, h1, .inl (by have := h l h1; omega)⟩
    · exact ⟨l, h1, .inr (by have := h l h1; omega)⟩
  · rintro ⟨l, h1, (h2 | h2)⟩
    · exact .inl (.inr ⟨l, h1, by omega⟩)
    · exact .inr ⟨l, h1, by omega⟩

theorem near_in {n : Nat} {ls : List Ln} (hg : GoodG n ls) {a b : Int} (h : near ls a b = true) : 0 ≤ a ∧ a < n ∧ 0 ≤ b ∧ b < n ∧ a ≠ b := by
  obtain ⟨l, h1, h2⟩ := near_iff.1 h
  have := hg.2.2.2 l h1
  rcases h2 with ⟨rfl, rfl⟩ | ⟨rfl, rfl⟩ <;> omega

theorem adj_symm {n : Nat} {ls : List Ln} (hg : GoodG n ls) {i j : Nat} (h : adjS (beside n ls) i j) : adjS (beside n ls) j i := by
  rw [adj_near hg] at h ⊢; rw [near_symm]; exact h
theorem adj_bounded {n : Nat} {ls : List Ln} (hg : GoodG n ls) : Bounded n (beside n ls) := by
  intro i j h
  have := near_in hg ((adj_near hg i j).1 h)
  omega
theorem adj_ne {n : Nat} {ls : List Ln} (hg : GoodG n ls) {i j : Nat} (h : adjS (beside n ls) i j) : i ≠ j := by
  have := near_in hg ((adj_near hg i j).1 h)
  omega

/-- the same who are beside each other: the same sets -/
theorem beside_congr {n : Nat} {ls ms : List Ln} (h1 : GoodG n ls) (h2 : GoodG n ms) (h : ∀ i j : Nat, near ls i j = near ms i j) : beside n ls = beside n ms := by
  refine List.ext_getElem? fun i => ?_
  rcases Nat.lt_or_ge i n with hi | hi
  · have l1 : i < (beside n ls).length := by rw [beside_length]; exact hi
    have l2 : i < (beside n ms).length := by rw [beside_length]; exact hi
    rw [List.getElem?_eq_getElem l1, List.getElem?_eq_getElem l2]
    congr 1
    apply Nat.eq_of_testBit_eq
    intro j
    have e1 := adj_near h1 i j
    have e2 := adj_near h2 i j
    unfold adjS at e1 e2
    rw [List.getElem?_eq_getElem l1] at e1
    rw [List.getElem?_eq_getElem l2] at e2
    rw [Bool.eq_iff_iff]
    simp only [Option.getD_some] at e1 e2
    rw [e1, e2, h i j]
  · rw [List.getElem?_eq_none (by rw [beside_length]; exact hi), List.getElem?_eq_none (by rw [beside_length]; exact hi)]

theorem chk_good {n : Nat} {ls : List Ln} (h : GoodG n ls) : chk n ls = 0 := by
  obtain ⟨h1, h2, h3, h4⟩ := h
  unfold chk
  rw [if_neg (by omega), if_neg (by omega)]
  clear h3
  induction ls with
  | nil => rfl
  | cons l r ih =>
    have h := h4 l List.mem_cons_self
    have e : lnErr n l = 0 := by unfold lnErr; rw [if_neg (by omega), if_neg (by omega)]
    simp only [chkLines, e]
    simpa using ih (fun x hx => h4 x (List.mem_cons_of_mem _ hx))

/-- the lines from the last one on, each the other way -/
def turn (l : Ln) : Ln := (l.2, l.1)
def backL (ls : List Ln) : List Ln := ls.reverse.map turn
theorem good_back {n : Nat} {ls : List Ln} (h : GoodG n ls) : GoodG n (backL ls) := by
  obtain ⟨h1, h2, h3, h4⟩ := h
  refine ⟨h1, h2, by simpa [backL] using h3, fun l hl => ?_⟩
  simp only [backL, List.mem_map, List.mem_reverse] at hl
  obtain ⟨m, hm, rfl⟩ := hl
  have := h4 m hm
  simp only [turn]; omega
theorem near_back (ls : List Ln) (a b : Int) : near (backL ls) a b = near ls a b := by
  rw [Bool.eq_iff_iff, near_iff, near_iff]
  constructor
  · rintro ⟨l, hl, h⟩
    simp only [backL, List.mem_map, List.mem_reverse] at hl
    obtain ⟨m, hm, rfl⟩ := hl
    simp only [turn] at h
    exact ⟨m, hm, by omega⟩
  · rintro ⟨l, hl, h⟩
    exact ⟨turn l, by simpa [backL] using ⟨l.1, l.2, hl, rfl⟩, by simp only [turn]; omega⟩
theorem beside_back {n : Nat} {ls : List Ln} (h : GoodG n ls) : beside n (backL ls) = beside n ls := beside_congr (good_back h) h (fun _ _ => near_back _ _ _)

end Go.Proofs.Ytjeafgnaoncphaa.Gr


namespace Go.Proofs.Ytjeafgnaoncphaa.Gr

/-- without the line between a and b -/
def cutS (O : List Nat) (a b : Nat) : List Nat := (O.set a (diff (O[a]?.getD 0) (2 ^ b))).set b (diff (O[b]?.getD 0) (2 ^ a))
theorem cutS_length (O : List Nat) (a b : Nat) : (cutS O a b).length = O.length := by simp [cutS]

theorem cutS_adj {O : List Nat} {a b : Nat} (ha : a < O.length) (hb : b < O.length) (hne : a ≠ b) (i j : Nat) :
    adjS (cutS O a b) i j ↔ adjS O i j ∧ ¬ (i = a ∧ j = b) ∧ ¬ (i = b ∧ j = a) := by
  unfold adjS cutS
  rw [List.getElem?_set]
  by_cases h1 : b = i
  · subst h1
    simp only [if_true, List.length_set, if_pos hb, Option.getD_some]
    rw [diff_bit, Nat.testBit_two_pow]
    simp only [Bool.and_eq_true, Bool.not_eq_true', decide_eq_false_iff_not]
    constructor
    · rintro ⟨h2, h3⟩; exact ⟨h2, fun h => hne h.1.symm, fun h => h3 h.2.symm⟩
    · rintro ⟨h2, _, h3⟩; exact ⟨h2, fun h => h3 ⟨by first | rfl | trivial, h.symm⟩⟩
  · rw [if_neg h1, List.getElem?_set]
    by_cases h2 : a = i
    · subst h2
      simp only [if_true, if_pos ha, Option.getD_some]
      rw [diff_bit, Nat.testBit_two_pow]
      simp only [Bool.and_eq_true, Bool.not_eq_true', decide_eq_false_iff_not]
      constructor
      · rintro ⟨h3, h4⟩; exact ⟨h3, fun h => h4 h.2.symm, fun h => h1 h.1.symm⟩
      · rintro ⟨h3, h4, _⟩; exact ⟨h3, fun h => h4 ⟨by first | rfl | trivial, h.symm⟩⟩
    · rw [if_neg h2]
      constructor
      · intro h; exact ⟨h, fun h' => h2 h'.1.symm, fun h' => h1 h'.1.symm⟩
      · intro h; exact h.1
theorem cutS_bounded {n : Nat} {O : List Nat} {a b : Nat} (hO : Bounded n O) (ha : a < O.length) (hb : b < O.length) (hne : a ≠ b) : Bounded n (cutS O a b) :=
  fun i j h => hO i j ((cutS_adj ha hb hne i j).1 h).1
theorem diff_small {s t : Nat} (h : s < 256) : diff s t < 256 := by
  rcases Nat.lt_or_ge (diff s t) 256 with h1 | h1
  · exact h1
  · obtain ⟨i, hi, hb⟩ := Nat.exists_ge_and_testBit_of_ge_two_pow (n := 8) h1
    rw [diff_bit] at hb
    have : s.testBit i = false := Nat.testBit_lt_two_pow (Nat.lt_of_lt_of_le (show s < 2 ^ 8 from h) (Nat.pow_le_pow_right (by omega) hi))
    rw [this] at hb; simp at hb
theorem cutS_small {O : List Nat} {a b : Nat} (h : Small O) : Small (cutS O a b) := set_small (set_small h _ _ (diff_small (getD_small h _))) _ _ (diff_small (getD_small h _))

theorem exists_dist_of {O : List Nat} {n f : Nat} (hn : n ≤ 8) (hO : Bounded n O) : ∀ (m : Nat) (d : List Int) (q : List Nat), bfsMu d q ≤ m → Bfs O n f d q → ∃ D, IsDist O n f D := by
  intro m
  induction m with
  | zero =>
    intro d q hm h
    cases q with
    | nil => exact ⟨d, bfs_end h⟩
    | cons u t => simp [bfsMu] at hm
  | succ m ih =>
    intro d q hm h
    cases q with
    | nil => exact ⟨d, bfs_end h⟩
    | cons u t =>
      obtain ⟨d', t', _, h', hmu⟩ := bfs_round hn hO h
      exact ih d' t' (by omega) h'
theorem exists_dist {O : List Nat} {n f : Nat} (hn : n ≤ 8) (hO : Bounded n O) (hf : f < n) : ∃ D, IsDist O n f D := exists_dist_of hn hO _ _ _ (Nat.le_refl _) (bfs_start hf)

theorem dist_le {O : List Nat} {n f : Nat} {D D' : List Int} (h : IsDist O n f D) (h' : IsDist O n f D') : ∀ (k i : Nat), at1 D' i = (k : Int) → 0 ≤ at1 D i ∧ at1 D i ≤ at1 D' i := by
  intro k
  induction k with
  | zero => intro i hi; have e := h'.zero i hi; subst e; rw [h.src]; omega
  | succ k ih =>
    intro i hi
    obtain ⟨j, hj, hk⟩ := h'.pre i (by omega)
    obtain ⟨h1, h2⟩ := ih j (by omega)
    obtain ⟨h3, h4⟩ := h.edge j i hj h1
    omega
theorem dist_unique {O : List Nat} {n f : Nat} {D D' : List Int} (h : IsDist O n f D) (h' : IsDist O n f D') (i : Nat) : at1 D i = at1 D' i := by
  have l1 := h.lo i
  have l2 := h'.lo i
  by_cases h1 : 0 ≤ at1 D i
  · obtain ⟨g1, g2⟩ := dist_le h' h (at1 D i).toNat i (by omega)
    obtain ⟨g3, g4⟩ := dist_le h h' (at1 D' i).toNat i (by omega)
    omega
  · by_cases h2 : 0 ≤ at1 D' i
    · obtain ⟨g1, g2⟩ := dist_le h h' (at1 D' i).toNat i (by omega)
      omega
    · omega
/-- at each lesser distance there is a point -/
theorem dist_below {O : List Nat} {n f : Nat} {D : List Int} (h : IsDist O n f D) : ∀ (k i : Nat), at1 D i = (k : Int) → ∀ j : Nat, j ≤ k → ∃ v, at1 D v = (j : Int) := by
  intro k
  induction k with
  | zero => intro i hi j hj; have : j = 0 := by omega
            subst this; exact ⟨i, hi⟩
  | succ k ih =>
    intro i hi j hj
    by_cases e : j = k + 1
    · subst e; exact ⟨i, hi⟩
    · obtain ⟨u, _, hu⟩ := h.pre i (by omega)
      exact ih u (by omega) j (by omega)

/-- the length of the shortest ring over the line from a to b; 0: none -/
def RV (O : List Nat) (n a b : Nat) (r : Int) : Prop := ∃ D, IsDist (cutS O a b) n a D ∧ r = at1 D b + 1
structure BestIs (O : List Nat) (n : Nat) (P : Nat → Nat → Prop) (k : Int) : Prop where
  pos : 0 ≤ k
  some : k ≠ 0 → ∃ a b, P a b ∧ RV O n a b k
  least : ∀ a b r, P a b → RV O n a b r → r = 0 ∨ (k ≠ 0 ∧ k ≤ r)
  small : k ≤ n
theorem RV.unique {O : List Nat} {n a b : Nat} {r s : Int} (h : RV O n a b r) (h' : RV O n a b s) : r = s := by
  obtain ⟨D, h1, rfl⟩ := h
  obtain ⟨D', h2, rfl⟩ := h'
  rw [dist_unique h1 h2]
theorem RV.bounds {O : List Nat} {n a b : Nat} {r : Int} (h : RV O n a b r) : 0 ≤ r ∧ r ≤ n := by
  obtain ⟨D, h1, rfl⟩ := h
  have := h1.lo b
  have := h1.small b
  omega
theorem BestIs.mono {O : List Nat} {n : Nat} {P P' : Nat → Nat → Prop} {k : Int} (h : BestIs O n P k) (hp : ∀ a b, P a b ↔ P' a b) : BestIs O n P' k :=
  ⟨h.pos, fun hk => by obtain ⟨a, b, h1, h2⟩ := h.some hk; exact ⟨a, b, (hp a b).1 h1, h2⟩, fun a b r h1 h2 => h.least a b r ((hp a b).2 h1) h2, h.small⟩
/-- one line more: no better -/
theorem BestIs.skip {O : List Nat} {n a b : Nat} {P : Nat → Nat → Prop} {k r : Int} (h : BestIs O n P k) (hr : RV O n a b r) (hn : r = 0 ∨ (k ≠ 0 ∧ k ≤ r)) : BestIs O n (fun x y => P x y ∨ (x = a ∧ y = b)) k := by
  refine ⟨h.pos, fun hk => ?_, fun x y s hx hs => ?_, h.small⟩
  · obtain ⟨x, y, h1, h2⟩ := h.some hk; exact ⟨x, y, .inl h1, h2⟩
  · rcases hx with hx | ⟨rfl, rfl⟩
    · exact h.least x y s hx hs
    · rw [hs.unique hr]; exact hn
theorem BestIs.take {O : List Nat} {n a b : Nat} {P : Nat → Nat → Prop} {k r : Int} (h : BestIs O n P k) (hr : RV O n a b r) (h0 : r ≠ 0) (hn : k = 0 ∨ r < k) : BestIs O n (fun x y => P x y ∨ (x = a ∧ y = b)) r := by
  refine ⟨hr.bounds.1, fun _ => ⟨a, b, .inr ⟨rfl, rfl⟩, hr⟩, fun x y s hx hs => ?_, hr.bounds.2⟩
  rcases hx with hx | ⟨rfl, rfl⟩
  · rcases h.least x y s hx hs with h1 | ⟨h1, h2⟩
    · exact .inl h1
    · rcases hn with h3 | h3
      · exact absurd h3 h1
      · exact .inr ⟨h0, by omega⟩
  · exact .inr ⟨h0, by rw [hs.unique hr]; exact Int.le_refl _⟩
theorem BestIs.none (O : List Nat) (n : Nat) {P : Nat → Nat → Prop} (h : ∀ a b, ¬ P a b) : BestIs O n P 0 :=
  ⟨Int.le_refl _, fun h => absurd rfl h, fun a b _ hp => absurd hp (h a b), by omega⟩

/-! the rounds -/
/-- the sets of the points at a distance, and within it -/
structure Lvl (D : List Int) (k : Nat) (now seen : Nat) : Prop where
  now : ∀ v, now.testBit v = true ↔ at1 D v = (k : Int)
  seen : ∀ v, seen.testBit v = true ↔ 0 ≤ at1 D v ∧ at1 D v ≤ (k : Int)

/-- all points beside those of xs -/
def orAll (C : List Nat) (xs : List Nat) : Nat := xs.foldl (fun s x => s ||| C[x]?.getD 0) 0
theorem orAll_from (C xs : List Nat) : ∀ s v, (xs.foldl (fun s x => s ||| C[x]?.getD 0) s).testBit v = true ↔ s.testBit v = true ∨ ∃ x ∈ xs, adjS C x v := by
  induction xs with
  | nil => intro s v; simp
  | cons x xs ih =>
    intro s v
    rw [List.foldl_cons, ih, Nat.testBit_or, Bool.or_eq_true]
    simp only [List.mem_cons, adjS]
    constructor
    · rintro ((h | h) | ⟨y, h1, h2⟩)
      · exact .inl h
      · exact .inr ⟨x, .inl rfl, h⟩
      · exact .inr ⟨y, .inr h1, h2⟩
    · rintro (h | ⟨y, (rfl | h1), h2⟩)
      · exact .inl (.inl h)
      · exact .inl (.inr h2)
      · exact .inr ⟨y, h1, h2⟩
theorem orAll_bit (C xs : List Nat) (v : Nat) : (orAll C xs).testBit v = true ↔ ∃ x ∈ xs, adjS C x v := by
  unfold orAll; rw [orAll_from]; simp
theorem orAll_snoc (C xs : List Nat) (x : Nat) : orAll C (xs ++ [x]) = orAll C xs ||| C[x]?.getD 0 := by simp [orAll]
theorem orAll_small {C : List Nat} (h : Small C) (xs : List Nat) : orAll C xs < 256 := by
  have : ∀ s, s < 256 → xs.foldl (fun s x => s ||| C[x]?.getD 0) s < 256 := by
    induction xs with
    | nil => intro s hs; exact hs
    | cons x xs ih => intro s hs; exact ih _ (or_small hs (getD_small h _))
  exact this 0 (by decide)

theorem lvl_start {C : List Nat} {n a : Nat} {D : List Int} (h : IsDist C n a D) : Lvl D 0 (0 ||| 2 ^ a) (0 ||| 2 ^ a) := by
  have hb : ∀ v, (0 ||| 2 ^ a).testBit v = true ↔ v = a := fun i => by
    rw [Nat.zero_or, Nat.testBit_two_pow]; simp [eq_comm]
  refine ⟨fun v => ?_, fun v => ?_⟩
  · rw [hb]
    constructor
    · rintro rfl; exact h.src
    · intro hv; exact h.zero v hv
  · rw [hb]
    constructor
    · rintro rfl; rw [h.src]; exact ⟨Int.le_refl _, Int.le_refl _⟩
    · rintro ⟨h1, h2⟩; exact h.zero v (by omega)
theorem lvl_step {C : List Nat} {n a k now seen : Nat} {D : List Int} (hn : n ≤ 8) (h : IsDist C n a D) (l : Lvl D k now seen) :
    Lvl D (k + 1) (diff (orAll C ((elems now).map (·.val))) seen) (seen ||| diff (orAll C ((elems now).map (·.val))) seen) := by
  have hnow : ∀ v, (diff (orAll C ((elems now).map (·.val))) seen).testBit v = true ↔ at1 D v = ((k + 1 : Nat) : Int) := by
    intro v
    rw [diff_bit, Bool.and_eq_true, orAll_bit, Bool.not_eq_true']
    constructor
    · rintro ⟨⟨x, hx, hadj⟩, hns⟩
      obtain ⟨y, hy, rfl⟩ := List.mem_map.1 hx
      have hk := (l.now y.val).1 (mem_elems.1 hy)
      obtain ⟨h1, h2⟩ := h.edge y.val v hadj (by omega)
      have : ¬ (0 ≤ at1 D v ∧ at1 D v ≤ (k : Int)) := fun hc => by rw [(l.seen v).2 hc] at hns; cases hns
      omega
    · intro hv
      obtain ⟨j, hj, hjk⟩ := h.pre v (by omega)
      have hjl : j < 8 := by have := at1_in (d := D) (i := j) (by omega); rw [h.len] at this; omega
      refine ⟨⟨j, List.mem_map.2 ⟨⟨j, hjl⟩, mem_elems.2 ((l.now j).2 (by omega)), rfl⟩, hj⟩, ?_⟩
      cases hs : seen.testBit v with
      | false => rfl
      | true => have := (l.seen v).1 hs; omega
  refine ⟨hnow, fun v => ?_⟩
  rw [Nat.testBit_or, Bool.or_eq_true, hnow, l.seen]
  omega
theorem lvl_alive {C : List Nat} {n a k now seen : Nat} {D : List Int} (h : IsDist C n a D) (l : Lvl D k now seen) (hz : now ≠ 0) : k < n := by
  obtain ⟨v, hv⟩ := Nat.exists_testBit_of_ne_zero hz
  have := (l.now v).1 hv
  have := h.small v
  omega
/-- the rounds end: what is known of b -/
theorem lvl_end {C : List Nat} {n a b k now seen : Nat} {D : List Int} (h : IsDist C n a D) (l : Lvl D k now seen) (hnb : ¬ (0 ≤ at1 D b ∧ at1 D b < (k : Int))) (he : now = 0 ∨ now.testBit b = true) :
    (seen.testBit b = true ∧ at1 D b = (k : Int)) ∨ (seen.testBit b = false ∧ at1 D b = -1) := by
  have hlo := h.lo b
  by_cases hb : at1 D b = (k : Int)
  · exact .inl ⟨(l.seen b).2 (by omega), hb⟩
  · refine .inr ?_
    have hz : now = 0 := by
      rcases he with he | he
      · exact he
      · exact absurd ((l.now b).1 he) hb
    have hm : at1 D b = -1 := by
      by_cases hp : 0 ≤ at1 D b
      · exfalso
        obtain ⟨v, hv⟩ := dist_below h (at1 D b).toNat b (by omega) k (by omega)
        have := (l.now v).2 hv
        rw [hz] at this; simp at this
      · omega
    refine ⟨?_, hm⟩
    cases hs : seen.testBit b with
    | false => rfl
    | true => have := (l.seen b).1 hs; omega

end Go.Proofs.Ytjeafgnaoncphaa.Gr


namespace Go.Proofs.Ytjeafgnaoncphaa.Gr

def Symm (O : List Nat) : Prop := ∀ i j, adjS O i j → adjS O j i

/-- no farther than over a third one -/
theorem dist_tri {O : List Nat} {n a b : Nat} {x y : List Int} (hx : IsDist O n a x) (hy : IsDist O n b y) (hb : 0 ≤ at1 x b) : ∀ (j v : Nat), at1 y v = (j : Int) → 0 ≤ at1 x v ∧ at1 x v ≤ at1 x b + j := by
  intro j
  induction j with
  | zero => intro v hv; have := hy.zero v hv; subst this; omega
  | succ j ih =>
    intro v hv
    obtain ⟨u, h1, h2⟩ := hy.pre v (by omega)
    obtain ⟨h3, h4⟩ := ih u (by omega)
    obtain ⟨h5, h6⟩ := hx.edge u v h1 h3
    omega
theorem dist_back {O : List Nat} {n a : Nat} {x : List Int} (hn : n ≤ 8) (hO : Bounded n O) (hs : Symm O) (hx : IsDist O n a x) : ∀ (k v : Nat) (D : List Int), at1 x v = (k : Int) → IsDist O n v D → 0 ≤ at1 D a ∧ at1 D a ≤ k := by
  intro k
  induction k with
  | zero => intro v D hv hD; have := hx.zero v hv; subst this; rw [hD.src]; omega
  | succ k ih =>
    intro v D hv hD
    obtain ⟨j, h1, h2⟩ := hx.pre v (by omega)
    obtain ⟨Dj, hDj⟩ := exists_dist hn hO (hO j v h1).1 (O := O)
    obtain ⟨h3, h4⟩ := ih j Dj (by omega) hDj
    obtain ⟨h5, h6⟩ := hD.edge v j (hs j v h1) (by rw [hD.src]; omega)
    rw [hD.src] at h6
    obtain ⟨h7, h8⟩ := dist_tri hD hDj h5 (at1 Dj a).toNat a (by omega)
    omega
theorem dist_symm {O : List Nat} {n a b : Nat} {x y : List Int} (hn : n ≤ 8) (hO : Bounded n O) (hs : Symm O) (hx : IsDist O n a x) (hy : IsDist O n b y) : at1 x b = at1 y a := by
  have l1 := hx.lo b
  have l2 := hy.lo a
  by_cases h1 : 0 ≤ at1 x b
  · obtain ⟨g1, g2⟩ := dist_back hn hO hs hx (at1 x b).toNat b y (by omega) hy
    obtain ⟨g3, g4⟩ := dist_back hn hO hs hy (at1 y a).toNat a x (by omega) hx
    omega
  · by_cases h2 : 0 ≤ at1 y a
    · obtain ⟨g3, g4⟩ := dist_back hn hO hs hy (at1 y a).toNat a x (by omega) hx
      omega
    · omega

theorem below_bit (n v : Nat) : (2 ^ n - 1).testBit v = true ↔ v < n := by rw [Nat.testBit_two_pow_sub_one]; simp

/-- the points that can be reached are those whose distance is told -/
theorem reach_dist {O : List Nat} {n a s : Nat} {x : List Int} (hO : Bounded n O) (hr : IsReach O (2 ^ n - 1) a s) (hx : IsDist O n a x) (v : Nat) : s.testBit v = true ↔ 0 ≤ at1 x v := by
  constructor
  · intro h
    exact hr.least (fun v => 0 ≤ at1 x v) (by rw [hx.src]; omega) (fun u v hu huv _ => (hx.edge u v huv hu).1) v h
  · have key : ∀ (k v : Nat), at1 x v = (k : Int) → s.testBit v = true := by
      intro k
      induction k with
      | zero => intro v hv; have := hx.zero v hv; subst this; exact hr.src
      | succ k ih =>
        intro v hv
        obtain ⟨u, h1, h2⟩ := hx.pre v (by omega)
        exact hr.shut u v (ih u (by omega)) h1 ((below_bit n v).2 (hO u v h1).2)
    intro h
    exact key (at1 x v).toNat v (by omega)

/-- of each point the least one with which it hangs together -/
structure IsParts (O : List Nat) (n : Nat) (p : List Int) : Prop where
  len : p.length = n
  least : ∀ i, i < n → ∃ s m : Nat, IsReach O (2 ^ n - 1) i s ∧ at1 p i = (m : Int) ∧ s.testBit m = true ∧ ∀ j, s.testBit j = true → m ≤ j

theorem elems_sorted (s : Nat) : (elems s).Pairwise (fun a b => a.val < b.val) := by
  have h : (List.finRange 8).Pairwise (fun (a b : Pt) => a.val < b.val) := by decide
  exact h.filter _
theorem elems_head {s i : Nat} (hs : s < 256) (hi : s.testBit i = true) : ∃ (x : Pt) (r : List Pt), elems s = x :: r ∧ s.testBit x.val = true ∧ ∀ j, s.testBit j = true → x.val ≤ j := by
  have h8 : ∀ j, s.testBit j = true → j < 8 := by
    intro j hj
    rcases Nat.lt_or_ge j 8 with h | h
    · exact h
    · have : s.testBit j = false := Nat.testBit_lt_two_pow (Nat.lt_of_lt_of_le (show s < 2 ^ 8 from hs) (Nat.pow_le_pow_right (by omega) h))
      rw [this] at hj; cases hj
  have hm : (⟨i, h8 i hi⟩ : Pt) ∈ elems s := mem_elems.2 hi
  have hso := elems_sorted s
  cases he : elems s with
  | nil => rw [he] at hm; cases hm
  | cons x r =>
    refine ⟨x, r, rfl, mem_elems.1 (by rw [he]; exact List.mem_cons_self), fun j hj => ?_⟩
    have hjm : (⟨j, h8 j hj⟩ : Pt) ∈ elems s := mem_elems.2 hj
    rw [he] at hjm hso
    rcases List.mem_cons.1 hjm with e | h
    · rw [← e]; exact Nat.le_refl _
    · exact Nat.le_of_lt ((List.pairwise_cons.1 hso).1 _ h)

/-- one part: just where the distance is told -/
theorem parts_dist {O : List Nat} {n a b : Nat} {p x : List Int} (hn : n ≤ 8) (hO : Bounded n O) (hs : Symm O) (hp : IsParts O n p) (hx : IsDist O n a x) (ha : a < n) (hb : b < n) : at1 p a = at1 p b ↔ 0 ≤ at1 x b := by
  obtain ⟨sa, ma, r1, r2, r3, r4⟩ := hp.least a ha
  obtain ⟨sb, mb, q1, q2, q3, q4⟩ := hp.least b hb
  obtain ⟨y, hy⟩ := exists_dist hn hO hb (O := O)
  have da := reach_dist hO r1 hx
  have db := reach_dist hO q1 hy
  constructor
  · intro h
    have e : ma = mb := by omega
    subst e
    have h1 := (da ma).1 r3
    have h2 := (db ma).1 q3
    obtain ⟨z, hz⟩ := exists_dist hn hO (O := O) (show ma < n by have := at1_in h1; rw [hx.len] at this; exact this)
    have h3 := dist_symm hn hO hs hy hz
    exact (dist_tri hx hz h1 (at1 z b).toNat b (by omega)).1
  · intro h
    have hsub : ∀ v, 0 ≤ at1 x v ↔ 0 ≤ at1 y v := by
      intro v
      have h3 := dist_symm hn hO hs hx hy
      constructor
      · intro hv
        exact (dist_tri hy hx (by omega) (at1 x v).toNat v (by omega)).1
      · intro hv
        exact (dist_tri hx hy h (at1 y v).toNat v (by omega)).1
    have h1 := r4 mb ((da mb).2 ((hsub mb).2 ((db mb).1 q3)))
    have h2 := q4 ma ((db ma).2 ((hsub ma).1 ((da ma).1 r3)))
    omega
theorem parts_le {O : List Nat} {n a : Nat} {p : List Int} (hp : IsParts O n p) (ha : a < n) : 0 ≤ at1 p a ∧ at1 p a ≤ a := by
  obtain ⟨sa, ma, r1, r2, r3, r4⟩ := hp.least a ha
  have := r4 a r1.src
  omega

end Go.Proofs.Ytjeafgnaoncphaa.Gr


namespace Go.Proofs.Ytjeafgnaoncphaa.Gr

/-- where a deep walk stands -/
structure DSt where
  met : List Int
  left : List Int
  frm : List Int
  now : Nat
  seen : Nat

def DSt.enter (s : DSt) (i : Nat) (b : Int) : DSt := ⟨s.met.set i s.now, s.left, s.frm.set i b, s.now + 1, s.seen ||| 2 ^ i⟩
def DSt.leave (s : DSt) (i : Nat) : DSt := ⟨s.met, s.left.set i s.now, s.frm, s.now + 1, s.seen⟩
def visitStep (v : Nat → Int → DSt → DSt) (i : Nat) (s : DSt) (x : Nat) : DSt := if s.seen.testBit x = true then s else v x i s
def visit (O : List Nat) : Nat → Nat → Int → DSt → DSt
  | 0, _, _, s => s
  | f + 1, i, b, s => (((elems (O[i]?.getD 0)).map (·.val)).foldl (visitStep (visit O f) i) (s.enter i b)).leave i
def rootStep (O : List Nat) (n : Nat) (s : DSt) (i : Nat) : DSt := if s.seen.testBit i = true then s else visit O n i (-1) s
def deep0 (n : Nat) : DSt := ⟨List.replicate n 0, List.replicate n 0, List.replicate n 0, 0, 0⟩
def deepUp (O : List Nat) (n k : Nat) : DSt := (List.range k).foldl (rootStep O n) (deep0 n)
def deepWalk (O : List Nat) (n : Nat) : DSt := deepUp O n n

/-- how many points a set has -/
def cnt (s : Nat) : Nat := (elems s).length
theorem cnt_with {s i : Nat} (hi : i < 8) (h : s.testBit i = false) : cnt (s ||| 2 ^ i) = cnt s + 1 := by
  have e : elems (s ||| 2 ^ i) = (List.finRange 8).filter fun j => s.testBit j.val || decide (j = (⟨i, hi⟩ : Pt)) := by
    unfold elems
    apply List.filter_congr
    intro j _
    rw [Nat.testBit_or, Nat.testBit_two_pow]
    congr 1
    by_cases hj : i = j.val
    · rw [decide_eq_true hj, decide_eq_true (Fin.ext hj.symm)]
    · rw [decide_eq_false hj, decide_eq_false (fun e => hj (by rw [e]))]
  unfold cnt
  rw [e, filter_two _ _ _ (by rintro a _ ⟨h1, h2⟩; have := of_decide_eq_true h2; subst this; simp only at h1; rw [h] at h1; cases h1)]
  have : ∀ a : Pt, ((List.finRange 8).filter fun j => decide (j = a)).length = 1 := by decide
  rw [this]; rfl
theorem cnt_mono {s t : Nat} (h : ∀ x, s.testBit x = true → t.testBit x = true) : cnt s ≤ cnt t := by
  unfold cnt elems
  rw [← List.countP_eq_length_filter, ← List.countP_eq_length_filter]
  exact List.countP_mono_left fun a _ => h a.val
theorem cnt_le {s n : Nat} (hn : n ≤ 8) (h : ∀ x, s.testBit x = true → x < n) : cnt s ≤ n := by
  have : elems s = upto s n := (upto_all s n fun i h1 _ => by
    cases hb : s.testBit i with
    | false => rfl
    | true => have := h i hb; omega).symm
  unfold cnt
  rw [this]
  exact upto_le s n hn
theorem cnt_all {s n : Nat} (hn : n ≤ 8) (h : ∀ x, s.testBit x = true → x < n) (k : ∀ x, x < n → s.testBit x = true) : cnt s = n := by
  have e : s = 2 ^ n - 1 := Nat.eq_of_testBit_eq fun i => by
    rw [Bool.eq_iff_iff, below_bit]; exact ⟨h i, k i⟩
  rw [e]
  have : ∀ m : Fin 9, cnt (2 ^ m.val - 1) = m.val := by decide
  exact this ⟨n, by omega⟩

structure DOk (n : Nat) (s : DSt) (k : Nat) : Prop where
  lm : s.met.length = n
  ll : s.left.length = n
  lf : s.frm.length = n
  bits : ∀ x, s.seen.testBit x = true → x < n
  time : s.now + k = 2 * cnt s.seen

def New (s s' : DSt) (x : Nat) : Prop := s'.seen.testBit x = true ∧ s.seen.testBit x = false
/-- y was met and left within x -/
def Within (s : DSt) (x y : Nat) : Prop := at1 s.met x < at1 s.met y ∧ at1 s.left y < at1 s.left x
def Apart (s : DSt) (x y : Nat) : Prop := at1 s.left x < at1 s.met y ∨ at1 s.left y < at1 s.met x

/-- what some visits, each of them ended, have done -/
structure Eff (O : List Nat) (R : Nat → Int → Prop) (s s' : DSt) : Prop where
  mono : ∀ x, s.seen.testBit x = true → s'.seen.testBit x = true
  same : ∀ x, ¬ New s s' x → at1 s'.met x = at1 s.met x ∧ at1 s'.left x = at1 s.left x ∧ at1 s'.frm x = at1 s.frm x
  later : s.now ≤ s'.now
  times : ∀ x, New s s' x → (s.now : Int) ≤ at1 s'.met x ∧ at1 s'.met x < at1 s'.left x ∧ at1 s'.left x < s'.now
  nest : ∀ x y, New s s' x → New s s' y → x ≠ y → Apart s' x y ∨ Within s' x y ∨ Within s' y x
  full : ∀ x, New s s' x → ∀ y, adjS O x y → s'.seen.testBit y = true
  line : ∀ x y, New s s' x → New s s' y → adjS O x y → x ≠ y → Within s' x y ∨ Within s' y x
  tree : ∀ x, New s s' x → (R x (at1 s'.frm x) ∧ ∀ z, New s s' z → ¬ Within s' z x) ∨ ∃ c : Nat, New s s' c ∧ at1 s'.frm x = (c : Int) ∧ adjS O c x ∧ Within s' c x ∧ ∀ z, New s s' z → Within s' z x → z = c ∨ Within s' z c

theorem Eff.refl (O : List Nat) (R : Nat → Int → Prop) (s : DSt) : Eff O R s s := by
  have h : ∀ x, ¬ New s s x := by rintro x ⟨h1, h2⟩; rw [h1] at h2; cases h2
  exact ⟨fun _ h => h, fun _ _ => ⟨rfl, rfl, rfl⟩, Nat.le_refl _, fun x hx => (h x hx).elim, fun x _ hx => (h x hx).elim, fun x hx => (h x hx).elim, fun x _ hx => (h x hx).elim, fun x hx => (h x hx).elim⟩

theorem new_split {s s1 s2 : DSt} {x : Nat} (h : New s s2 x) (_ : ∀ x, s.seen.testBit x = true → s1.seen.testBit x = true) : (New s s1 x ∧ s1.seen.testBit x = true) ∨ (New s1 s2 x ∧ s1.seen.testBit x = false) := by
  cases h1 : s1.seen.testBit x with
  | true => exact .inl ⟨⟨h1, h.2⟩, rfl⟩
  | false => exact .inr ⟨⟨h.1, h1⟩, rfl⟩
theorem not_new {s s' : DSt} {x : Nat} (h : s.seen.testBit x = true) : ¬ New s s' x := by rintro ⟨_, h2⟩; rw [h] at h2; cases h2

theorem Eff.trans {O : List Nat} {R : Nat → Int → Prop} {s s1 s2 : DSt} (hs : Symm O) (h : Eff O R s s1) (k : Eff O R s1 s2) : Eff O R s s2 := by
  have up : ∀ x, New s s1 x → New s s2 x := fun x hx => ⟨k.mono x hx.1, hx.2⟩
  have up2 : ∀ x, New s1 s2 x → New s s2 x := fun x hx => ⟨hx.1, by
    cases hb : s.seen.testBit x with
    | false => rfl
    | true => exact absurd (h.mono x hb) (by rw [hx.2]; simp)⟩
  have old : ∀ x, s1.seen.testBit x = true → at1 s2.met x = at1 s1.met x ∧ at1 s2.left x = at1 s1.left x ∧ at1 s2.frm x = at1 s1.frm x := fun x hx => k.same x (not_new hx)
  have hl := h.later
  have kl := k.later
  refine ⟨fun x hx => k.mono x (h.mono x hx), ?_, Nat.le_trans hl kl, ?_, ?_, ?_, ?_, ?_⟩
  · intro x hx
    have h1 : ¬ New s s1 x := fun e => hx (up x e)
    have h2 : ¬ New s1 s2 x := fun e => hx (up2 x e)
    obtain ⟨a1, a2, a3⟩ := h.same x h1
    obtain ⟨b1, b2, b3⟩ := k.same x h2
    exact ⟨b1.trans a1, b2.trans a2, b3.trans a3⟩
  · intro x hx
    rcases new_split hx h.mono with ⟨h1, h2⟩ | ⟨h1, h2⟩
    · obtain ⟨e1, e2, _⟩ := old x h2
      have := h.times x h1
      omega
    · have := k.times x h1
      omega
  · intro x y hx hy hne
    rcases new_split hx h.mono with ⟨h1, h2⟩ | ⟨h1, h2⟩ <;> rcases new_split hy h.mono with ⟨g1, g2⟩ | ⟨g1, g2⟩
    · obtain ⟨e1, e2, _⟩ := old x h2
      obtain ⟨f1, f2, _⟩ := old y g2
      have := h.nest x y h1 g1 hne
      unfold Apart Within at *
      omega
    · obtain ⟨e1, e2, _⟩ := old x h2
      have a := h.times x h1
      have b := k.times y g1
      left; unfold Apart; omega
    · obtain ⟨e1, e2, _⟩ := old y g2
      have a := h.times y g1
      have b := k.times x h1
      left; unfold Apart; omega
    · exact k.nest x y h1 g1 hne
  · intro x hx y hxy
    rcases new_split hx h.mono with ⟨h1, h2⟩ | ⟨h1, h2⟩
    · exact k.mono y (h.full x h1 y hxy)
    · exact k.full x h1 y hxy
  · intro x y hx hy hxy hne
    rcases new_split hx h.mono with ⟨h1, h2⟩ | ⟨h1, h2⟩ <;> rcases new_split hy h.mono with ⟨g1, g2⟩ | ⟨g1, g2⟩
    · obtain ⟨e1, e2, _⟩ := old x h2
      obtain ⟨f1, f2, _⟩ := old y g2
      have := h.line x y h1 g1 hxy hne
      unfold Within at *
      omega
    · have := h.full x h1 y hxy
      rw [g2] at this; cases this
    · have := h.full y g1 x (hs _ _ hxy)
      rw [h2] at this; cases this
    · exact k.line x y h1 g1 hxy hne
  · intro x hx
    rcases new_split hx h.mono with ⟨h1, h2⟩ | ⟨h1, h2⟩
    · obtain ⟨e1, e2, e3⟩ := old x h2
      have tx := h.times x h1
      have zz : ∀ z, New s s2 z → Within s2 z x → New s s1 z ∧ Within s1 z x := by
        intro z hz hw
        rcases new_split hz h.mono with ⟨g1, g2⟩ | ⟨g1, g2⟩
        · obtain ⟨f1, f2, f3⟩ := old z g2
          refine ⟨g1, ?_⟩
          unfold Within at *; omega
        · have := k.times z g1
          unfold Within at hw; omega
      rcases h.tree x h1 with ⟨h3, h4⟩ | ⟨c, c1, c2, c3, c4, c5⟩
      · left; rw [e3]; exact ⟨h3, fun z hz hw => h4 z (zz z hz hw).1 (zz z hz hw).2⟩
      · right
        obtain ⟨f1, f2, f3⟩ := old c c1.1
        refine ⟨c, up c c1, by rw [e3]; exact c2, c3, by unfold Within at *; omega, fun z hz hw => ?_⟩
        obtain ⟨g1, g2⟩ := zz z hz hw
        obtain ⟨d1, d2, d3⟩ := old z g1.1
        rcases c5 z g1 g2 with h5 | h5
        · exact .inl h5
        · right; unfold Within at *; omega
    · have tx := k.times x h1
      have zz : ∀ z, New s s2 z → Within s2 z x → New s1 s2 z := by
        intro z hz hw
        rcases new_split hz h.mono with ⟨g1, g2⟩ | ⟨g1, g2⟩
        · obtain ⟨f1, f2, f3⟩ := old z g2
          have := h.times z g1
          unfold Within at hw; omega
        · exact g1
      rcases k.tree x h1 with ⟨h3, h4⟩ | ⟨c, c1, c2, c3, c4, c5⟩
      · exact .inl ⟨h3, fun z hz hw => h4 z (zz z hz hw) hw⟩
      · exact .inr ⟨c, up2 c c1, c2, c3, c4, fun z hz hw => c5 z (zz z hz hw) hw⟩

theorem bit_with {s i x : Nat} : (s ||| 2 ^ i).testBit x = true ↔ s.testBit x = true ∨ x = i := by
  rw [Nat.testBit_or, Nat.testBit_two_pow, Bool.or_eq_true, decide_eq_true_eq, @eq_comm _ i x]

theorem enter_ok {n i k : Nat} {s : DSt} {b : Int} (hn : n ≤ 8) (h : DOk n s k) (hi : i < n) (hu : s.seen.testBit i = false) : DOk n (s.enter i b) (k + 1) := by
  refine ⟨by simp [DSt.enter, h.lm], h.ll, by simp [DSt.enter, h.lf], ?_, ?_⟩
  · intro x hx
    rcases bit_with.1 hx with h1 | rfl
    · exact h.bits x h1
    · exact hi
  · have := h.time
    show s.now + 1 + (k + 1) = 2 * cnt (s.seen ||| 2 ^ i)
    rw [cnt_with (by omega) hu]; omega
theorem leave_ok {n i k : Nat} {s : DSt} (h : DOk n s (k + 1)) : DOk n (s.leave i) k :=
  ⟨h.lm, by simp [DSt.leave, h.ll], h.lf, h.bits, by have := h.time; show s.now + 1 + k = 2 * cnt s.seen; omega⟩

theorem DOk.room {n i k : Nat} {s : DSt} (hn : n ≤ 8) (h : DOk n s k) (hi : i < n) (hu : s.seen.testBit i = false) : cnt s.seen + 1 ≤ n := by
  have := (enter_ok (b := 0) hn h hi hu)
  have h2 := cnt_le hn this.bits
  have : cnt (s.enter i 0).seen = cnt s.seen + 1 := cnt_with (by omega) hu
  omega

theorem visit_eff {O : List Nat} {n : Nat} (hn : n ≤ 8) (hO : Bounded n O) (hs : Symm O) : ∀ (f i : Nat) (b : Int) (s : DSt) (k : Nat) (R : Nat → Int → Prop), DOk n s k → i < n → s.seen.testBit i = false → n ≤ cnt s.seen + f → R i b →
    DOk n (visit O f i b s) k ∧ Eff O R s (visit O f i b s) ∧ New s (visit O f i b s) i := by
  intro f
  induction f with
  | zero => intro i b s k R h hi hu hf _; have := h.room hn hi hu; omega
  | succ f ih =>
    intro i b s k R h hi hu hf hR
    have fold : ∀ (xs : List Nat), (∀ x ∈ xs, adjS O i x) → ∀ (s : DSt) (k : Nat), DOk n s k → n ≤ cnt s.seen + f →
        DOk n (xs.foldl (visitStep (visit O f) i) s) k ∧ Eff O (fun x b => b = (i : Int) ∧ adjS O i x) s (xs.foldl (visitStep (visit O f) i) s) ∧ ∀ x ∈ xs, (xs.foldl (visitStep (visit O f) i) s).seen.testBit x = true := by
      intro xs
      induction xs with
      | nil => intro _ s k h _; exact ⟨h, Eff.refl _ _ _, by simp⟩
      | cons x xs ihx =>
        intro hx s k h hf
        have hxn := (hO _ _ (hx x List.mem_cons_self)).2
        have step : DOk n (visitStep (visit O f) i s x) k ∧ Eff O (fun x b => b = (i : Int) ∧ adjS O i x) s (visitStep (visit O f) i s x) ∧ (visitStep (visit O f) i s x).seen.testBit x = true := by
          unfold visitStep
          cases hb : s.seen.testBit x with
          | true => rw [if_pos rfl]; exact ⟨h, Eff.refl _ _ _, hb⟩
          | false =>
            rw [if_neg (by simp)]
            obtain ⟨h1, h2, h3⟩ := ih x i s k (fun x b => b = (i : Int) ∧ adjS O i x) h hxn hb hf ⟨rfl, hx x List.mem_cons_self⟩
            exact ⟨h1, h2, h3.1⟩
        obtain ⟨h1, h2, h3⟩ := step
        have hc := cnt_mono h2.mono
        obtain ⟨g1, g2, g3⟩ := ihx (fun y hy => hx y (List.mem_cons_of_mem _ hy)) _ k h1 (by omega)
        rw [List.foldl_cons]
        refine ⟨g1, Eff.trans hs h2 g2, fun y hy => ?_⟩
        rcases List.mem_cons.1 hy with rfl | hy
        · exact g2.mono _ h3
        · exact g3 y hy
    have he := enter_ok (b := b) hn h hi hu
    have hc : cnt (s.enter i b).seen = cnt s.seen + 1 := cnt_with (by omega) hu
    have hmem : ∀ x, x ∈ (elems (O[i]?.getD 0)).map (·.val) → adjS O i x := by
      intro x hx
      obtain ⟨p, hp, rfl⟩ := List.mem_map.1 hx
      exact mem_elems.1 hp
    obtain ⟨h1, h2, h3⟩ := fold _ hmem (s.enter i b) (k + 1) he (by omega)
    show DOk n ((((elems (O[i]?.getD 0)).map (·.val)).foldl (visitStep (visit O f) i) (s.enter i b)).leave i) k ∧ Eff O R s ((((elems (O[i]?.getD 0)).map (·.val)).foldl (visitStep (visit O f) i) (s.enter i b)).leave i) ∧ New s ((((elems (O[i]?.getD 0)).map (·.val)).foldl (visitStep (visit O f) i) (s.enter i b)).leave i) i
    have hall : ∀ y, adjS O i y → (((elems (O[i]?.getD 0)).map (·.val)).foldl (visitStep (visit O f) i) (s.enter i b)).seen.testBit y = true := by
      intro y hy
      refine h3 y (List.mem_map.2 ⟨⟨y, by have := (hO _ _ hy).2; omega⟩, mem_elems.2 hy, rfl⟩)
    generalize ((elems (O[i]?.getD 0)).map (·.val)).foldl (visitStep (visit O f) i) (s.enter i b) = s1 at *
    clear fold ih h3 hmem
    have hie : (s.enter i b).seen.testBit i = true := bit_with.2 (.inr rfl)
    obtain ⟨i1, i2, i3⟩ := h2.same i (not_new hie)
    have hlm : i < s.met.length := by rw [h.lm]; exact hi
    have hlf : i < s.frm.length := by rw [h.lf]; exact hi
    have hll : i < s1.left.length := by rw [h1.ll]; exact hi
    have m1 : ∀ x, at1 (s.enter i b).met x = if x = i then (s.now : Int) else at1 s.met x := fun x => at1_set hlm
    have m2 : ∀ x, at1 (s.enter i b).frm x = if x = i then b else at1 s.frm x := fun x => at1_set hlf
    have m3 : ∀ x, at1 (s1.leave i).left x = if x = i then (s1.now : Int) else at1 s1.left x := fun x => at1_set hll
    have m4 : ∀ x, at1 (s1.leave i).met x = at1 s1.met x := fun _ => rfl
    have m5 : ∀ x, at1 (s1.leave i).frm x = at1 s1.frm x := fun _ => rfl
    have m6 : ∀ x, at1 (s.enter i b).left x = at1 s.left x := fun _ => rfl
    have ln : (s1.leave i).now = s1.now + 1 := rfl
    have en : (s.enter i b).now = s.now + 1 := rfl
    have hle := h2.later
    rw [en] at hle
    rw [m1, if_pos rfl] at i1
    rw [m2, if_pos rfl] at i3
    have a1 : at1 (s1.leave i).met i = s.now := by rw [m4]; exact i1
    have a2 : at1 (s1.leave i).left i = s1.now := by rw [m3, if_pos rfl]
    have a3 : at1 (s1.leave i).frm i = b := by rw [m5]; exact i3
    have hin : New s (s1.leave i) i := ⟨h2.mono i hie, hu⟩
    have split : ∀ x, New s (s1.leave i) x → x = i ∨ (x ≠ i ∧ New (s.enter i b) s1 x) := by
      rintro x ⟨hx1, hx2⟩
      by_cases e : x = i
      · exact .inl e
      · refine .inr ⟨e, hx1, ?_⟩
        cases hb : (s.enter i b).seen.testBit x with
        | false => rfl
        | true => rcases bit_with.1 hb with h4 | h4
                  · rw [h4] at hx2; cases hx2
                  · exact absurd h4 e
    have join : ∀ x, New (s.enter i b) s1 x → x ≠ i ∧ New s (s1.leave i) x := by
      rintro x ⟨hx1, hx2⟩
      have hb : ¬ (s.seen.testBit x = true ∨ x = i) := by intro hh; have := bit_with.2 hh; rw [show (s.enter i b).seen = s.seen ||| 2 ^ i from rfl, this] at hx2; cases hx2
      refine ⟨fun e => hb (.inr e), hx1, ?_⟩
      cases hh : s.seen.testBit x with
      | false => rfl
      | true => exact absurd (.inl hh) hb
    have wi : ∀ y, y ≠ i → New (s.enter i b) s1 y → Within (s1.leave i) i y := by
      intro y hy hny
      have := h2.times y hny
      rw [en] at this
      unfold Within
      rw [a1, a2, m4, m3, if_neg hy]
      omega
    refine ⟨leave_ok h1, ⟨?_, ?_, ?_, ?_, ?_, ?_, ?_, ?_⟩, hin⟩
    · intro x hx; exact h2.mono x (bit_with.2 (.inl hx))
    · intro x hx
      have hxi : x ≠ i := fun e => hx (e ▸ hin)
      have hxn : ¬ New (s.enter i b) s1 x := fun e => hx (join x e).2
      obtain ⟨e1, e2, e3⟩ := h2.same x hxn
      rw [m1, if_neg hxi] at e1
      rw [m2, if_neg hxi] at e3
      exact ⟨e1, by rw [m3, if_neg hxi]; exact e2, e3⟩
    · show s.now ≤ s1.now + 1; omega
    · intro x hx
      rcases split x hx with rfl | ⟨hxi, hxn⟩
      · rw [a1, a2, ln]; omega
      · have := h2.times x hxn
        rw [en] at this
        rw [m4, m3, if_neg hxi, ln]; omega
    · intro x y hx hy hne
      rcases split x hx with rfl | ⟨hxi, hxn⟩
      · rcases split y hy with rfl | ⟨hyi, hyn⟩
        · exact absurd rfl hne
        · exact .inr (.inl (wi y hyi hyn))
      · rcases split y hy with rfl | ⟨hyi, hyn⟩
        · exact .inr (.inr (wi x hxi hxn))
        · have := h2.nest x y hxn hyn hne
          unfold Apart Within at *
          rw [m4, m4, m3, m3, if_neg hxi, if_neg hyi]
          exact this
    · intro x hx y hxy
      rcases split x hx with rfl | ⟨hxi, hxn⟩
      · exact hall y hxy
      · exact h2.full x hxn y hxy
    · intro x y hx hy hxy hne
      rcases split x hx with rfl | ⟨hxi, hxn⟩
      · rcases split y hy with rfl | ⟨hyi, hyn⟩
        · exact absurd rfl hne
        · exact .inl (wi y hyi hyn)
      · rcases split y hy with rfl | ⟨hyi, hyn⟩
        · exact .inr (wi x hxi hxn)
        · have := h2.line x y hxn hyn hxy hne
          unfold Within at *
          rw [m4, m4, m3, m3, if_neg hxi, if_neg hyi]
          exact this
    · intro x hx
      rcases split x hx with rfl | ⟨hxi, hxn⟩
      · left; rw [a3]
        refine ⟨hR, fun z hz hw => ?_⟩
        rcases split z hz with rfl | ⟨hzi, hzn⟩
        · unfold Within at hw; omega
        · have := wi z hzi hzn
          unfold Within at this hw; omega
      · have low : ∀ z, z ≠ i → New (s.enter i b) s1 z → (Within (s1.leave i) z x ↔ Within s1 z x) := fun z hz _ => by
          unfold Within; rw [m4, m4, m3, m3, if_neg hz, if_neg hxi]
        right
        rcases h2.tree x hxn with ⟨⟨h4, h5⟩, h6⟩ | ⟨c, c1, c2, c3, c4, c5⟩
        · refine ⟨i, hin, h4, h5, wi x hxi hxn, fun z hz hw => ?_⟩
          rcases split z hz with rfl | ⟨hzi, hzn⟩
          · exact .inl rfl
          · exact absurd ((low z hzi hzn).1 hw) (h6 z hzn)
        · have hci := (join c c1).1
          refine ⟨c, (join c c1).2, c2, c3, ?_, fun z hz hw => ?_⟩
          · unfold Within at *
            rw [m4, m4, m3, m3, if_neg hxi, if_neg hci]
            exact c4
          · rcases split z hz with rfl | ⟨hzi, hzn⟩
            · exact .inr (wi c hci c1)
            · rcases c5 z hzn ((low z hzi hzn).1 hw) with h5 | h5
              · exact .inl h5
              · right
                unfold Within at *
                rw [m4, m4, m3, m3, if_neg hzi, if_neg hci]
                exact h5

/-- the points beside i, one behind the other -/
theorem fold_eff {O : List Nat} {n : Nat} (hn : n ≤ 8) (hO : Bounded n O) (hs : Symm O) (f i : Nat) : ∀ (xs : List Nat), (∀ x ∈ xs, adjS O i x) → ∀ (s : DSt) (k : Nat), DOk n s k → n ≤ cnt s.seen + f →
    DOk n (xs.foldl (visitStep (visit O f) i) s) k ∧ Eff O (fun x b => b = (i : Int) ∧ adjS O i x) s (xs.foldl (visitStep (visit O f) i) s) ∧ n ≤ cnt (xs.foldl (visitStep (visit O f) i) s).seen + f := by
  intro xs
  induction xs with
  | nil => intro _ s k h hf; exact ⟨h, Eff.refl _ _ _, hf⟩
  | cons x xs ihx =>
    intro hx s k h hf
    have hxn := (hO _ _ (hx x List.mem_cons_self)).2
    have step : DOk n (visitStep (visit O f) i s x) k ∧ Eff O (fun x b => b = (i : Int) ∧ adjS O i x) s (visitStep (visit O f) i s x) := by
      unfold visitStep
      cases hb : s.seen.testBit x with
      | true => rw [if_pos rfl]; exact ⟨h, Eff.refl _ _ _⟩
      | false =>
        rw [if_neg (by simp)]
        obtain ⟨h1, h2, h3⟩ := visit_eff hn hO hs f x i s k (fun x b => b = (i : Int) ∧ adjS O i x) h hxn hb hf ⟨rfl, hx x List.mem_cons_self⟩
        exact ⟨h1, h2⟩
    obtain ⟨h1, h2⟩ := step
    have hc := cnt_mono h2.mono
    obtain ⟨g1, g2, g3⟩ := ihx (fun y hy => hx y (List.mem_cons_of_mem _ hy)) _ k h1 (by omega)
    rw [List.foldl_cons]
    exact ⟨g1, Eff.trans hs h2 g2, g3⟩

theorem DOk.few {n k : Nat} {s : DSt} (hn : n ≤ 8) (h : DOk n s k) : s.now ≤ 16 ∧ s.seen < 256 := by
  have h1 := h.time
  have h2 := cnt_le hn h.bits
  refine ⟨by omega, ?_⟩
  have h3 : s.seen < 2 ^ 8 := Nat.lt_pow_two_of_testBit _ fun i hi => by
    cases hb : s.seen.testBit i with
    | false => rfl
    | true => have := h.bits i hb; omega
  exact h3

/-- two points hang together -/
def Conn (O : List Nat) (a b : Nat) : Prop := ∀ T : Nat → Prop, T a → (∀ u v, T u → adjS O u v → T v) → T b

theorem deepUp_eff {O : List Nat} {n : Nat} (hn : n ≤ 8) (hO : Bounded n O) (hs : Symm O) : ∀ k, k ≤ n → DOk n (deepUp O n k) 0 ∧ Eff O (fun x b => b = -1 ∧ ∀ y, Conn O x y → x ≤ y) (deep0 n) (deepUp O n k) ∧ ∀ x, x < k → (deepUp O n k).seen.testBit x = true := by
  intro k
  induction k with
  | zero => intro _; exact ⟨⟨by simp [deepUp, deep0], by simp [deepUp, deep0], by simp [deepUp, deep0], by simp [deepUp, deep0], show 0 + 0 = 2 * cnt 0 from by decide⟩, Eff.refl _ _ _, by simp⟩
  | succ k ih =>
    intro hk
    obtain ⟨h1, h2, h3⟩ := ih (by omega)
    have e : deepUp O n (k + 1) = rootStep O n (deepUp O n k) k := by unfold deepUp; rw [List.range_succ, List.foldl_append]; rfl
    rw [e]
    generalize deepUp O n k = s at *
    unfold rootStep
    cases hb : s.seen.testBit k with
    | true =>
      rw [if_pos rfl]
      refine ⟨h1, h2, fun x hx => ?_⟩
      by_cases hxk : x = k
      · subst hxk; exact hb
      · exact h3 x (by omega)
    | false =>
      rw [if_neg (by simp)]
      obtain ⟨g1, g2, g3⟩ := visit_eff hn hO hs n k (-1) s 0 (fun x b => b = -1 ∧ ∀ y, Conn O x y → x ≤ y) h1 (by omega) hb (by omega) ⟨rfl, fun y hy => by
        rcases Nat.lt_or_ge y k with hlt | hge
        · exfalso
          have hsy : s.seen.testBit y = false := hy (fun v => s.seen.testBit v = false) hb (fun u v hu huv => by
            cases hv : s.seen.testBit v with
            | false => rfl
            | true => have := h2.full v ⟨hv, by simp [deep0]⟩ u (hs _ _ huv); rw [hu] at this; cases this)
          rw [h3 y hlt] at hsy; cases hsy
        · exact hge⟩
      refine ⟨g1, Eff.trans hs h2 g2, fun x hx => ?_⟩
      by_cases hxk : x = k
      · subst hxk; exact g3.1
      · exact g2.mono x (h3 x (by omega))

/-- what a deep walk over all points says -/
structure IsDeep (O : List Nat) (n : Nat) (m l c : List Int) : Prop where
  lm : m.length = n
  ll : l.length = n
  lc : c.length = n
  times : ∀ x, x < n → 0 ≤ at1 m x ∧ at1 m x < at1 l x ∧ at1 l x < 2 * n
  nest : ∀ x y, x < n → y < n → x ≠ y → (at1 l x < at1 m y ∨ at1 l y < at1 m x) ∨ (at1 m x < at1 m y ∧ at1 l y < at1 l x) ∨ (at1 m y < at1 m x ∧ at1 l x < at1 l y)
  line : ∀ x y, adjS O x y → x ≠ y → (at1 m x < at1 m y ∧ at1 l y < at1 l x) ∨ (at1 m y < at1 m x ∧ at1 l x < at1 l y)
  tree : ∀ x, x < n → (at1 c x = -1 ∧ ∀ y, Conn O x y → x ≤ y) ∨ ∃ p : Nat, p < n ∧ at1 c x = (p : Int) ∧ adjS O p x ∧ at1 m p < at1 m x ∧ at1 l x < at1 l p
  near : ∀ x, x < n → (at1 c x = -1 → ∀ z, z < n → ¬ (at1 m z < at1 m x ∧ at1 l x < at1 l z)) ∧ (∀ p : Nat, at1 c x = (p : Int) → ∀ z, z < n → at1 m z < at1 m x ∧ at1 l x < at1 l z → z = p ∨ (at1 m z < at1 m p ∧ at1 l p < at1 l z))

theorem deepWalk_is {O : List Nat} {n : Nat} (hn : n ≤ 8) (hO : Bounded n O) (hs : Symm O) : IsDeep O n (deepWalk O n).met (deepWalk O n).left (deepWalk O n).frm := by
  obtain ⟨h1, h2, h3⟩ := deepUp_eff hn hO hs n (Nat.le_refl _)
  unfold deepWalk
  generalize deepUp O n n = s at *
  have hc := cnt_all hn h1.bits h3
  have ht := h1.time
  rw [hc] at ht
  have hnew : ∀ x, x < n → New (deep0 n) s x := fun x hx => ⟨h3 x hx, by simp [deep0]⟩
  refine ⟨h1.lm, h1.ll, h1.lf, fun x hx => ?_, fun x y hx hy hne => h2.nest x y (hnew x hx) (hnew y hy) hne, fun x y hxy hne => ?_, fun x hx => ?_, fun x hx => ?_⟩
  · have := h2.times x (hnew x hx)
    omega
  · obtain ⟨a, b⟩ := hO x y hxy
    exact h2.line x y (hnew x a) (hnew y b) hxy hne
  · rcases h2.tree x (hnew x hx) with ⟨h, _⟩ | ⟨p, p1, p2, p3, p4, _⟩
    · exact .inl h
    · exact .inr ⟨p, h1.bits p p1.1, p2, p3, p4.1, p4.2⟩
  · rcases h2.tree x (hnew x hx) with ⟨⟨h, _⟩, hz⟩ | ⟨p, p1, p2, p3, p4, p5⟩
    · exact ⟨fun _ z hzn hw => hz z (hnew z hzn) hw, fun p hp => by rw [h] at hp; omega⟩
    · refine ⟨fun hp => by rw [p2] at hp; omega, fun q hq z hzn hw => ?_⟩
      rw [p2] at hq
      have : q = p := by omega
      subst this
      exact p5 z (hnew z hzn) hw

end Go.Proofs.Ytjeafgnaoncphaa.Gr


namespace Go.Proofs.Ytjeafgnaoncphaa.Gr
open Classical

theorem Conn.refl (O : List Nat) (a : Nat) : Conn O a a := fun _ h _ => h
theorem Conn.trans {O : List Nat} {a b c : Nat} (h : Conn O a b) (k : Conn O b c) : Conn O a c := fun T h0 hT => k T (h T h0 hT) hT
theorem Conn.step {O : List Nat} {a b c : Nat} (h : Conn O a b) (k : adjS O b c) : Conn O a c := fun T h0 hT => hT b c (h T h0 hT) k
theorem Conn.symm {O : List Nat} {a b : Nat} (hs : Symm O) (h : Conn O a b) : Conn O b a :=
  h (fun x => Conn O x a) (Conn.refl O a) (fun u v hu huv T h0 hT => hu T (hT v u h0 (hs _ _ huv)) hT)
theorem Conn.mono {O O' : List Nat} {a b : Nat} (hm : ∀ u v, adjS O u v → adjS O' u v) (h : Conn O a b) : Conn O' a b := fun T h0 hT => h T h0 fun u v hu huv => hT u v hu (hm u v huv)
theorem Conn.in_ {O : List Nat} {n a b : Nat} (hO : Bounded n O) (h : Conn O a b) (ha : a < n) : b < n := h (fun x => x < n) ha (fun _ _ _ huv => (hO _ _ huv).2)

/-- one line more, between a and b -/
theorem conn_more {O O' : List Nat} {a b x y : Nat} (hm : ∀ u v, adjS O u v → adjS O' u v ∨ (u = a ∧ v = b) ∨ (u = b ∧ v = a)) (h : Conn O x y) :
    Conn O' x y ∨ (Conn O' x a ∧ Conn O' b y) ∨ (Conn O' x b ∧ Conn O' a y) := by
  refine h (fun y => Conn O' x y ∨ (Conn O' x a ∧ Conn O' b y) ∨ (Conn O' x b ∧ Conn O' a y)) (.inl (Conn.refl _ _)) ?_
  intro u v hu huv
  rcases hm u v huv with h1 | ⟨rfl, rfl⟩ | ⟨rfl, rfl⟩
  · rcases hu with h2 | ⟨h2, h3⟩ | ⟨h2, h3⟩
    · exact .inl (h2.step h1)
    · exact .inr (.inl ⟨h2, h3.step h1⟩)
    · exact .inr (.inr ⟨h2, h3.step h1⟩)
  · rcases hu with h2 | ⟨h2, h3⟩ | ⟨h2, h3⟩
    · exact .inr (.inl ⟨h2, Conn.refl _ _⟩)
    · exact .inr (.inl ⟨h2, Conn.refl _ _⟩)
    · exact .inl h2
  · rcases hu with h2 | ⟨h2, h3⟩ | ⟨h2, h3⟩
    · exact .inr (.inr ⟨h2, Conn.refl _ _⟩)
    · exact .inl h2
    · exact .inr (.inr ⟨h2, Conn.refl _ _⟩)

/-- the least of its part -/
def RootC (O : List Nat) (i : Nat) : Prop := ∀ y, Conn O i y → i ≤ y
/-- how many parts -/
noncomputable def partsN (O : List Nat) (n : Nat) : Nat := (List.range n).countP fun i => decide (RootC O i)

theorem countP_one {α : Type} {l : List α} (hn : l.Nodup) {p q : α → Bool} {r : α} (hr : r ∈ l) (h : ∀ x ∈ l, p x = true ↔ q x = true ∨ x = r) (hq : q r = false) : l.countP p = l.countP q + 1 := by
  induction l with
  | nil => cases hr
  | cons a l ih =>
    rw [List.nodup_cons] at hn
    rw [List.countP_cons, List.countP_cons]
    by_cases e : r = a
    · subst e
      have hpr : p r = true := (h r List.mem_cons_self).2 (.inr rfl)
      have hc : l.countP p = l.countP q := List.countP_congr fun x hx => by
        rw [h x (List.mem_cons_of_mem _ hx)]
        constructor
        · rintro (h1 | h1)
          · exact h1
          · subst h1; exact absurd hx hn.1
        · exact .inl
      rw [hpr, hq, hc]; simp
    · have hrl : r ∈ l := by
        rcases List.mem_cons.1 hr with h1 | h1
        · exact absurd h1 e
        · exact h1
      have hpa : p a = q a := by
        rw [Bool.eq_iff_iff, h a List.mem_cons_self]
        constructor
        · rintro (h1 | h1)
          · exact h1
          · exact absurd h1.symm e
        · exact .inl
      rw [ih hn.2 hrl (fun x hx => h x (List.mem_cons_of_mem _ hx)), hpa]
      omega

theorem exists_least {p : Nat → Prop} (h : ∃ x, p x) : ∃ x, p x ∧ ∀ y, p y → x ≤ y := by
  obtain ⟨k, hk⟩ := h
  induction k using Nat.strongRecOn with
  | _ k ih =>
    by_cases hl : ∃ j, j < k ∧ p j
    · obtain ⟨j, hj, hJ⟩ := hl; exact ih j hj hJ
    · refine ⟨k, hk, fun j hj => ?_⟩
      rcases Nat.lt_or_ge j k with h | h
      · exact absurd ⟨j, h, hj⟩ hl
      · exact h

/-- O is O' with a line between a and b more -/
structure Plus (n : Nat) (O O' : List Nat) (a b : Nat) : Prop where
  hO : Bounded n O
  hs : Symm O
  hs' : Symm O'
  sub : ∀ u v, adjS O' u v → adjS O u v
  split : ∀ u v, adjS O u v → adjS O' u v ∨ (u = a ∧ v = b) ∨ (u = b ∧ v = a)
  ab : adjS O a b
  no : ¬ adjS O' a b
  ne : a ≠ b

theorem Plus.flip {n : Nat} {O O' : List Nat} {a b : Nat} (h : Plus n O O' a b) : Plus n O O' b a :=
  ⟨h.hO, h.hs, h.hs', h.sub, fun u v huv => by
    rcases h.split u v huv with h1 | h1 | h1
    · exact .inl h1
    · exact .inr (.inr h1)
    · exact .inr (.inl h1), h.hs _ _ h.ab, fun k => h.no (h.hs' _ _ k), h.ne.symm⟩

theorem parts_same {n : Nat} {O O' : List Nat} {a b : Nat} (h : Plus n O O' a b) (hc : Conn O' a b) : partsN O' n = partsN O n := by
  have e : ∀ x y, Conn O x y ↔ Conn O' x y := fun x y => by
    constructor
    · intro k
      rcases conn_more h.split k with h1 | ⟨h1, h2⟩ | ⟨h1, h2⟩
      · exact h1
      · exact (h1.trans hc).trans h2
      · exact (h1.trans (hc.symm h.hs')).trans h2
    · exact Conn.mono h.sub
  unfold partsN RootC
  simp only [e]

theorem parts_more {n : Nat} {O O' : List Nat} {a b : Nat} (h : Plus n O O' a b) (hc : ¬ Conn O' a b) : partsN O' n = partsN O n + 1 := by
  obtain ⟨ra, ha1, ha2⟩ := exists_least ⟨a, Conn.refl O' a⟩
  obtain ⟨rb, hb1, hb2⟩ := exists_least ⟨b, Conn.refl O' b⟩
  have hne : ra ≠ rb := by rintro rfl; exact hc (ha1.trans (hb1.symm h.hs'))
  -- wlog ra < rb
  have key : ∀ (a b ra rb : Nat), Plus n O O' a b → ¬ Conn O' a b → Conn O' a ra → (∀ y, Conn O' a y → ra ≤ y) → Conn O' b rb → (∀ y, Conn O' b y → rb ≤ y) → ra < rb → partsN O' n = partsN O n + 1 := by
    intro a b ra rb h hc ha1 ha2 hb1 hb2 hlt
    have hab := h.hO a b h.ab
    have hrb : rb < n := hb1.in_ (fun u v k => h.hO u v (h.sub u v k)) hab.2
    have hroot : ∀ i, RootC O' i ↔ RootC O i ∨ i = rb := by
      intro i
      constructor
      · intro hi
        by_cases e : i = rb
        · exact .inr e
        · refine .inl fun y hy => ?_
          rcases conn_more h.split hy with h1 | ⟨h1, h2⟩ | ⟨h1, h2⟩
          · exact hi y h1
          · have := hi ra (h1.trans ha1)
            have := hb2 y h2
            omega
          · exfalso
            have h3 := hi rb (h1.trans hb1)
            have h4 := hb2 i (h1.symm h.hs')
            omega
      · rintro (hi | rfl)
        · exact fun y hy => hi y (Conn.mono h.sub hy)
        · exact fun y hy => hb2 y (hb1.trans hy)
    have hno : ¬ RootC O rb := fun hr => by
      have : Conn O rb ra := ((Conn.mono h.sub (hb1.symm h.hs')).step (h.hs _ _ h.ab)).trans (Conn.mono h.sub ha1)
      have := hr ra this
      omega
    exact countP_one List.nodup_range (List.mem_range.2 hrb) (fun x _ => by simp only [decide_eq_true_eq]; exact hroot x) (decide_eq_false hno)
  rcases Nat.lt_or_ge ra rb with h1 | h1
  · exact key a b ra rb h hc ha1 ha2 hb1 hb2 h1
  · exact key b a rb ra h.flip (fun k => hc (k.symm h.hs')) hb1 hb2 ha1 ha2 (by omega)

/-- all pairs, the greater one first -/
def pairsL (n : Nat) : List (Nat × Nat) := (List.range n).flatMap fun a => (List.range a).map fun b => (a, b)
def pairsN (O : List Nat) (n : Nat) : Nat := (pairsL n).countP fun p => (O[p.1]?.getD 0).testBit p.2
theorem mem_pairsL {n : Nat} {p : Nat × Nat} : p ∈ pairsL n ↔ p.2 < p.1 ∧ p.1 < n := by
  unfold pairsL
  simp only [List.mem_flatMap, List.mem_range, List.mem_map]
  constructor
  · rintro ⟨a, h1, b, h2, rfl⟩; exact ⟨h2, h1⟩
  · rintro ⟨h1, h2⟩; exact ⟨p.1, h2, p.2, h1, rfl⟩
theorem pairsL_succ (n : Nat) : pairsL (n + 1) = pairsL n ++ (List.range n).map fun b => (n, b) := by
  unfold pairsL; rw [List.range_succ, List.flatMap_append]; simp
theorem pairsL_nodup (n : Nat) : (pairsL n).Nodup := by
  induction n with
  | zero => exact List.nodup_nil
  | succ n ih =>
    rw [pairsL_succ, List.nodup_append]
    refine ⟨ih, ?_, ?_⟩
    · rw [List.nodup_iff_pairwise_ne, List.pairwise_map]
      exact List.nodup_range.imp (fun hab e => hab (Prod.mk.inj e).2)
    · rintro x hx y hy rfl
      have := mem_pairsL.1 hx
      simp only [List.mem_map, List.mem_range] at hy
      obtain ⟨b, _, rfl⟩ := hy
      simp at this
theorem pairs_more {n : Nat} {O O' : List Nat} {a b : Nat} (h : Plus n O O' a b) : pairsN O n = pairsN O' n + 1 := by
  have key : ∀ (a b : Nat), Plus n O O' a b → b < a → pairsN O n = pairsN O' n + 1 := by
    intro a b h hlt
    have hab := h.hO a b h.ab
    refine countP_one (pairsL_nodup n) (r := (a, b)) (mem_pairsL.2 ⟨hlt, hab.1⟩) (fun x hx => ?_) ?_
    · have hx' := mem_pairsL.1 hx
      show adjS O x.1 x.2 ↔ adjS O' x.1 x.2 ∨ x = (a, b)
      constructor
      · intro k
        rcases h.split _ _ k with h1 | ⟨h1, h2⟩ | ⟨h1, h2⟩
        · exact .inl h1
        · exact .inr (Prod.ext h1 h2)
        · omega
      · rintro (k | rfl)
        · exact h.sub _ _ k
        · exact h.ab
    · cases hb : (O'[a]?.getD 0).testBit b with
      | false => rfl
      | true => exact absurd hb h.no
  rcases Nat.lt_or_ge b a with h1 | h1
  · exact key a b h h1
  · exact key b a h.flip (by have := h.ne; omega)

theorem cut_plus {n a b : Nat} {O : List Nat} (hl : O.length = n) (hO : Bounded n O) (hs : Symm O) (hi : ∀ i, ¬ adjS O i i) (h : adjS O a b) : Plus n O (cutS O a b) a b := by
  have hab := hO a b h
  have hne : a ≠ b := by rintro rfl; exact hi _ h
  have k := cutS_adj (O := O) (a := a) (b := b) (by omega) (by omega) hne
  refine ⟨hO, hs, ?_, fun u v huv => ((k u v).1 huv).1, ?_, h, ?_, hne⟩
  · intro u v huv
    obtain ⟨h1, h2, h3⟩ := (k u v).1 huv
    exact (k v u).2 ⟨hs _ _ h1, fun e => h3 ⟨e.2, e.1⟩, fun e => h2 ⟨e.2, e.1⟩⟩
  · intro u v huv
    by_cases h1 : u = a ∧ v = b
    · exact .inr (.inl h1)
    · by_cases h2 : u = b ∧ v = a
      · exact .inr (.inr h2)
      · exact .inl ((k u v).2 ⟨huv, h1, h2⟩)
  · intro h1; exact ((k a b).1 h1).2.1 ⟨rfl, rfl⟩

theorem conn_flip {n a b c d : Nat} {O : List Nat} (hl : O.length = n) (hO : Bounded n O) (hi : ∀ i, ¬ adjS O i i) (h : adjS O a b) (hc : Conn (cutS O a b) c d) : Conn (cutS O b a) c d := by
  have hab := hO a b h
  have hne : a ≠ b := by rintro rfl; exact hi _ h
  refine hc.mono fun u v huv => ?_
  have k := (cutS_adj (O := O) (a := a) (b := b) (by omega) (by omega) hne u v).1 huv
  exact (cutS_adj (O := O) (a := b) (b := a) (by omega) (by omega) hne.symm u v).2 ⟨k.1, k.2.2, k.2.1⟩

theorem forest (n : Nat) : ∀ (N : Nat) (O : List Nat), O.length = n → Bounded n O → Symm O → (∀ i, ¬ adjS O i i) → pairsN O n = N → n ≤ N + partsN O n ∧ (n = N + partsN O n ↔ ∀ a b, adjS O a b → ¬ Conn (cutS O a b) a b) := by
  intro N
  induction N with
  | zero =>
    intro O hl hO hs hi hN
    have hno : ∀ a b, ¬ adjS O a b := by
      have k : ∀ a b, b < a → ¬ adjS O a b := by
        intro a b hlt hab
        have := List.countP_eq_zero.1 hN (a, b) (mem_pairsL.2 ⟨hlt, (hO a b hab).1⟩)
        exact this hab
      intro a b hab
      rcases Nat.lt_trichotomy a b with h | h | h
      · exact k b a h (hs _ _ hab)
      · subst h; exact hi _ hab
      · exact k a b h hab
    have hp : partsN O n = n := by
      unfold partsN
      have : ∀ i ∈ List.range n, decide (RootC O i) = true := fun i _ => decide_eq_true fun y hy => hy (fun y => i ≤ y) (Nat.le_refl _) (fun u v _ huv => absurd huv (hno u v))
      rw [List.countP_eq_length.2 this, List.length_range]
    rw [hp]
    exact ⟨by omega, fun _ a b hab => absurd hab (hno a b), fun _ => by omega⟩
  | succ N ih =>
    intro O hl hO hs hi hN
    have hex : ∃ p ∈ pairsL n, (O[p.1]?.getD 0).testBit p.2 = true := by
      have : 0 < (pairsL n).countP fun p => (O[p.1]?.getD 0).testBit p.2 := by unfold pairsN at hN; omega
      exact List.countP_pos_iff.1 this
    obtain ⟨⟨a, b⟩, _, hab⟩ := hex
    have hab : adjS O a b := hab
    have hP := cut_plus hl hO hs hi hab
    have habn := hO a b hab
    have hcl : (cutS O a b).length = n := by rw [cutS_length]; exact hl
    have hcO : Bounded n (cutS O a b) := fun u v h => hO u v (hP.sub u v h)
    have hcs := hP.hs'
    have hci : ∀ i, ¬ adjS (cutS O a b) i i := fun i h => hi i (hP.sub i i h)
    have hpn := pairs_more hP
    obtain ⟨i1, i2⟩ := ih (cutS O a b) hcl hcO hcs hci (by omega)
    have hadj := cutS_adj (O := O) (a := a) (b := b) (by omega) (by omega) hP.ne
    by_cases hc : Conn (cutS O a b) a b
    · have hps := parts_same hP hc
      refine ⟨by omega, fun e => by omega, fun h => absurd hc (h a b hab)⟩
    · have hps := parts_more hP hc
      refine ⟨by omega, ?_⟩
      have e1 : n = N + 1 + partsN O n ↔ n = N + partsN (cutS O a b) n := by rw [hps]; omega
      rw [e1, i2]
      constructor
      · -- all are bridges without it: all are bridges
        intro hall c d hcd hcon
        by_cases e : c = a ∧ d = b
        · obtain ⟨rfl, rfl⟩ := e; exact hc hcon
        · by_cases e' : c = b ∧ d = a
          · obtain ⟨rfl, rfl⟩ := e'
            exact hc ((conn_flip hl hO hi hcd hcon).symm hcs)
          · have hcd' : adjS (cutS O a b) c d := (hadj c d).2 ⟨hcd, e, e'⟩
            have hcdn := hO c d hcd
            have hne2 : c ≠ d := by rintro rfl; exact hi _ hcd
            have k1 := cutS_adj (O := O) (a := c) (b := d) (by omega) (by omega) hne2
            have k2 := cutS_adj (O := cutS O a b) (a := c) (b := d) (by omega) (by omega) hne2
            have hP2 := cut_plus hcl hcO hcs hci hcd'
            have hno := hall c d hcd'
            have hsplit : ∀ u v, adjS (cutS O c d) u v → adjS (cutS (cutS O a b) c d) u v ∨ (u = a ∧ v = b) ∨ (u = b ∧ v = a) := by
              intro u v huv
              have h1 := (k1 u v).1 huv
              by_cases g1 : u = a ∧ v = b
              · exact .inr (.inl g1)
              · by_cases g2 : u = b ∧ v = a
                · exact .inr (.inr g2)
                · exact .inl ((k2 u v).2 ⟨(hadj u v).2 ⟨h1.1, g1, g2⟩, h1.2⟩)
            rcases conn_more hsplit hcon with h1 | ⟨h1, h2⟩ | ⟨h1, h2⟩
            · exact hno h1
            · exact hc (((Conn.mono hP2.sub (h1.symm hP2.hs')).step hcd').trans (Conn.mono hP2.sub (h2.symm hP2.hs')))
            · exact hc ((((Conn.mono hP2.sub h2).step (hcs _ _ hcd')).trans (Conn.mono hP2.sub h1)))
      · intro hall c d hcd hcon
        have hcd0 := hP.sub _ _ hcd
        have hcdn := hO c d hcd0
        have hne2 : c ≠ d := by rintro rfl; exact hi _ hcd0
        refine hall c d hcd0 (hcon.mono fun u v huv => ?_)
        have h1 := (cutS_adj (O := cutS O a b) (a := c) (b := d) (by omega) (by omega) hne2 u v).1 huv
        exact (cutS_adj (O := O) (a := c) (b := d) (by omega) (by omega) hne2 u v).2 ⟨hP.sub _ _ h1.1, h1.2⟩

theorem dist_conn {O : List Nat} {n a v : Nat} {D : List Int} (h : IsDist O n a D) : Conn O a v ↔ 0 ≤ at1 D v := by
  constructor
  · intro hc
    exact hc (fun v => 0 ≤ at1 D v) (by rw [h.src]; omega) (fun u v hu huv => (h.edge u v huv hu).1)
  · have key : ∀ (k v : Nat), at1 D v = (k : Int) → Conn O a v := by
      intro k
      induction k with
      | zero => intro v hv; have := h.zero v hv; subst this; exact Conn.refl _ _
      | succ k ih =>
        intro v hv
        obtain ⟨u, h1, h2⟩ := h.pre v (by omega)
        exact (ih u (by omega)).step h1
    intro hv
    exact key (at1 D v).toNat v (by omega)

theorem ring_zero {O : List Nat} {n : Nat} {k : Int} (hn : n ≤ 8) (hl : O.length = n) (hO : Bounded n O) (hi : ∀ i, ¬ adjS O i i) (h : BestIs O n (adjS O) k) : k = 0 ↔ ∀ a b, adjS O a b → ¬ Conn (cutS O a b) a b := by
  constructor
  · rintro rfl a b hab hc
    have habn := hO a b hab
    have hne : a ≠ b := by rintro rfl; exact hi _ hab
    obtain ⟨D, hD⟩ := exists_dist hn (cutS_bounded hO (by omega) (by omega) hne) habn.1 (O := cutS O a b)
    have := (dist_conn hD).1 hc
    rcases h.least a b (at1 D b + 1) hab ⟨D, hD, rfl⟩ with h1 | ⟨h1, _⟩
    · omega
    · exact h1 rfl
  · intro hall
    by_cases e : k = 0
    · exact e
    · obtain ⟨a, b, hab, D, hD, hk⟩ := h.some e
      have h1 := hD.lo b
      exact absurd ((dist_conn hD).2 (by omega)) (hall a b hab)

theorem ring_three {O : List Nat} {n : Nat} {k : Int} (hl : O.length = n) (hO : Bounded n O) (hi : ∀ i, ¬ adjS O i i) (h : BestIs O n (adjS O) k) (hk : k ≠ 0) : 3 ≤ k ∧ k ≤ n := by
  obtain ⟨a, b, hab, D, hD, e⟩ := h.some hk
  have habn := hO a b hab
  have hne : a ≠ b := by rintro rfl; exact hi _ hab
  have h1 := hD.lo b
  refine ⟨?_, h.small⟩
  rcases (show at1 D b = 0 ∨ at1 D b = 1 ∨ 2 ≤ at1 D b from by omega) with h2 | h2 | h2
  · exact absurd (hD.zero b h2).symm hne
  · obtain ⟨j, hj, hj2⟩ := hD.pre b (by omega)
    have := hD.zero j (by omega)
    subst this
    exact absurd ⟨rfl, rfl⟩ ((cutS_adj (O := O) (by omega) (by omega) hne _ _).1 hj).2.1
  · omega

theorem parts_root {O : List Nat} {n : Nat} {p : List Int} (hO : Bounded n O) (hp : IsParts O n p) {i : Nat} (hi : i < n) : at1 p i = (i : Int) ↔ RootC O i := by
  obtain ⟨s, k, r1, r2, r3, r4⟩ := hp.least i hi
  have hconn : ∀ v, s.testBit v = true → Conn O i v := fun v hv T h0 hT => r1.least T h0 (fun u v hu huv _ => hT u v hu huv) v hv
  have hin : ∀ v, Conn O i v → s.testBit v = true := fun v hv => hv (fun v => s.testBit v = true) r1.src (fun u v hu huv => r1.shut u v hu huv ((below_bit n v).2 (hO u v huv).2))
  constructor
  · intro e y hy
    have := r4 y (hin y hy)
    omega
  · intro h
    have := h k (hconn k r3)
    have := r4 i r1.src
    omega

end Go.Proofs.Ytjeafgnaoncphaa.Gr


namespace Go.Proofs.Ytjeafgnaoncphaa.Gr

/-- y was met and left within x -/
def Wi (m l : List Int) (x y : Nat) : Prop := at1 m x < at1 m y ∧ at1 l y < at1 l x
def Sub (m l : List Int) (x y : Nat) : Prop := y = x ∨ Wi m l x y

theorem Wi.trans {m l : List Int} {x y z : Nat} (h : Wi m l x y) (k : Wi m l y z) : Wi m l x z := ⟨by have := h.1; have := k.1; omega, by have := h.2; have := k.2; omega⟩
theorem Wi.irr {m l : List Int} {x : Nat} (h : Wi m l x x) : False := by have := h.1; omega
theorem Wi.ne {m l : List Int} {x y : Nat} (h : Wi m l x y) : y ≠ x := by rintro rfl; exact h.irr
theorem Sub.up {m l : List Int} {x y z : Nat} (h : Wi m l x y) (k : Sub m l y z) : Wi m l x z := by
  rcases k with rfl | k
  · exact h
  · exact h.trans k

/-- the earliest time that comes back from i -/
structure IsLow (O : List Nat) (n : Nat) (m l c : List Int) (i : Nat) (v : Int) : Prop where
  own : v ≤ at1 m i
  all : ∀ j k, j < n → Sub m l i j → adjS O j k → at1 c j ≠ (k : Int) → v ≤ at1 m k
  some : v = at1 m i ∨ ∃ j k, j < n ∧ Sub m l i j ∧ adjS O j k ∧ at1 c j ≠ (k : Int) ∧ v = at1 m k

/-- hang together without i -/
def CW (O : List Nat) (i a b : Nat) : Prop := ∀ T : Nat → Prop, T a → (∀ u v, T u → adjS O u v → v ≠ i → T v) → T b
theorem CW.refl (O : List Nat) (i a : Nat) : CW O i a a := fun _ h _ => h
theorem CW.trans {O : List Nat} {i a b c : Nat} (h : CW O i a b) (k : CW O i b c) : CW O i a c := fun T h0 hT => k T (h T h0 hT) hT
theorem CW.first {O : List Nat} {i a b c : Nat} (h : adjS O a b) (hb : b ≠ i) (k : CW O i b c) : CW O i a c := fun T h0 hT => k T (hT a b h0 h hb) hT
theorem CW.symm {O : List Nat} {i a b : Nat} (hs : Symm O) (ha : a ≠ i) (h : CW O i a b) : CW O i b a :=
  (h (fun x => x ≠ i ∧ CW O i x a) ⟨ha, CW.refl _ _ _⟩ (fun _ _ hu huv hv => ⟨hv, CW.first (hs _ _ huv) hu.1 hu.2⟩)).2
def IsCut (O : List Nat) (i : Nat) : Prop := ∃ a b, adjS O i a ∧ adjS O i b ∧ ¬ CW O i a b

section
variable {O : List Nat} {n : Nat} {m l c : List Int}

theorem deep_parent (h : IsDeep O n m l c) {x y : Nat} (hx : x < n) (hy : y < n) (hw : Wi m l x y) : ∃ p, p < n ∧ at1 c y = (p : Int) ∧ adjS O p y ∧ Wi m l p y ∧ Sub m l x p := by
  rcases h.tree y hy with ⟨h1, _⟩ | ⟨p, p1, p2, p3, p4, p5⟩
  · exact absurd hw ((h.near y hy).1 h1 x hx)
  · refine ⟨p, p1, p2, p3, ⟨p4, p5⟩, ?_⟩
    rcases (h.near y hy).2 p p2 x hx hw with h1 | h1
    · exact .inl h1.symm
    · exact .inr h1

/-- up from y to x, above i -/
theorem chain_up (h : IsDeep O n m l c) (hs : Symm O) {i x : Nat} (hx : x < n) : ∀ (t y : Nat), y < n → (at1 m y).toNat ≤ t → Sub m l x y → Wi m l y i → CW O i y x := by
  intro t
  induction t with
  | zero =>
    intro y hy ht hxy hyi
    rcases hxy with rfl | hxy
    · exact CW.refl _ _ _
    · have := h.times x hx; have := hxy.1; omega
  | succ t ih =>
    intro y hy ht hxy hyi
    rcases hxy with rfl | hxy
    · exact CW.refl _ _ _
    · obtain ⟨p, p1, p2, p3, p4, p5⟩ := deep_parent h hx hy hxy
      have hpi := p4.trans hyi
      have := (h.times p p1).1
      have h4 := p4.1
      exact CW.first (hs _ _ p3) hpi.ne.symm (ih p p1 (by omega) p5 hpi)
/-- up from y to j, below i -/
theorem sub_conn (h : IsDeep O n m l c) (hs : Symm O) {i j : Nat} (hj : j < n) (hij : Wi m l i j) : ∀ (t y : Nat), y < n → (at1 m y).toNat ≤ t → Sub m l j y → CW O i y j := by
  intro t
  induction t with
  | zero =>
    intro y hy ht hjy
    rcases hjy with rfl | hjy
    · exact CW.refl _ _ _
    · have := h.times j hj; have := hjy.1; omega
  | succ t ih =>
    intro y hy ht hjy
    rcases hjy with rfl | hjy
    · exact CW.refl _ _ _
    · obtain ⟨p, p1, p2, p3, p4, p5⟩ := deep_parent h hj hy hjy
      have hip := Sub.up hij p5
      have := (h.times p p1).1
      have h4 := p4.1
      exact CW.first (hs _ _ p3) hip.ne (ih p p1 (by omega) p5)
/-- the child of i above y -/
theorem child_above (h : IsDeep O n m l c) {i : Nat} (hi : i < n) : ∀ (t y : Nat), y < n → (at1 m y).toNat ≤ t → Wi m l i y → ∃ j, j < n ∧ at1 c j = (i : Int) ∧ Wi m l i j ∧ Sub m l j y := by
  intro t
  induction t with
  | zero => intro y hy ht hw; have := h.times i hi; have := hw.1; omega
  | succ t ih =>
    intro y hy ht hw
    obtain ⟨p, p1, p2, p3, p4, p5⟩ := deep_parent h hi hy hw
    rcases p5 with rfl | p5
    · exact ⟨y, hy, p2, hw, .inl rfl⟩
    · have := (h.times p p1).1
      have h4 := p4.1
      obtain ⟨j, j1, j2, j3, j4⟩ := ih p p1 (by omega) p5
      refine ⟨j, j1, j2, j3, .inr ?_⟩
      rcases j4 with rfl | j4
      · exact p4
      · exact j4.trans p4
/-- a child lies within -/
theorem child_in (h : IsDeep O n m l c) {i j : Nat} (hj : j < n) (hc : at1 c j = (i : Int)) : i < n ∧ Wi m l i j ∧ adjS O i j := by
  rcases h.tree j hj with ⟨h1, _⟩ | ⟨p, p1, p2, p3, p4, p5⟩
  · rw [hc] at h1; omega
  · have : p = i := by omega
    subst this
    exact ⟨p1, ⟨p4, p5⟩, p3⟩
theorem nested (h : IsDeep O n m l c) {x y z : Nat} (hx : x < n) (hz : z < n) (h1 : Sub m l x y) (h2 : Sub m l z y) (hy : y < n) : x = z ∨ Wi m l x z ∨ Wi m l z x := by
  by_cases e : x = z
  · exact .inl e
  · have tx := h.times x hx
    have tz := h.times z hz
    have ty := h.times y hy
    rcases h.nest x z hx hz e with h3 | h3 | h3
    · exfalso
      rcases h1 with rfl | h1 <;> rcases h2 with rfl | h2
      · exact e rfl
      · have := h2.1; have := h2.2; omega
      · have := h1.1; have := h1.2; omega
      · have := h1.1; have := h1.2; have := h2.1; have := h2.2; omega
    · exact .inr (.inl h3)
    · exact .inr (.inr h3)

/-- no line leads out of what was met from j on, but to i -/
theorem sub_shut (h : IsDeep O n m l c) (hO : Bounded n O) (hi' : ∀ a, ¬ adjS O a a) {i j : Nat} (hj : j < n) (hc : at1 c j = (i : Int))
    (hout : ∀ y k, y < n → Sub m l j y → adjS O y k → at1 c y ≠ (k : Int) → ¬ Wi m l k i) {b : Nat} (hb : CW O i j b) : Sub m l j b ∧ b < n := by
  obtain ⟨hin, hij, _⟩ := child_in h hj hc
  refine hb (fun y => Sub m l j y ∧ y < n) ⟨.inl rfl, hj⟩ ?_
  rintro y k ⟨hy, hyn⟩ hyk hki
  have hkn := (hO y k hyk).2
  refine ⟨?_, hkn⟩
  have hne : y ≠ k := by rintro rfl; exact hi' _ hyk
  rcases h.line y k hyk hne with hw | hw
  · rcases hy with rfl | hy
    · exact .inr hw
    · exact .inr (hy.trans hw)
  · -- k is above y
    rcases nested h hj hkn hy (.inr hw) hyn with e | e | e
    · exact .inl e.symm
    · exact .inr e
    · exfalso
      -- k is above j: above i
      have hki2 : k = i ∨ Wi m l k i := (h.near j hj).2 i hc k hkn e
      rcases hki2 with h1 | h1
      · exact hki h1
      · refine hout y k hyn hy hyk ?_ h1
        intro hcy
        rcases hy with rfl | hy
        · rw [hc] at hcy
          have : k = i := by omega
          exact hki this
        · rcases (h.near y hyn).2 k hcy j hj hy with h2 | h2
          · subst h2; exact e.irr
          · exact (e.trans h2).irr

theorem cut_inner (h : IsDeep O n m l c) (hO : Bounded n O) (hs : Symm O) (hi' : ∀ a, ¬ adjS O a a) {i q : Nat} (hin : i < n) (hq : at1 c i = (q : Int)) {low : Nat → Int} (hl : ∀ j, j < n → IsLow O n m l c j (low j)) :
    IsCut O i ↔ ∃ j, j < n ∧ at1 c j = (i : Int) ∧ at1 m i ≤ low j := by
  obtain ⟨hqn, hqi, hqa⟩ := child_in h hin hq
  constructor
  · rintro ⟨a, b, ha, hb, hab⟩
    apply Classical.byContradiction
    intro hno
    have key : ∀ x, adjS O i x → CW O i x q := by
      intro x hx
      have hxn := (hO i x hx).2
      have hne : i ≠ x := by rintro rfl; exact hi' _ hx
      have anc : ∀ k, k < n → Wi m l k i → CW O i k q := by
        intro k hk hki
        -- k above i: q below or at k
        have : Sub m l k q := by
          rcases (h.near i hin).2 q hq k hk hki with e | e
          · exact .inl e.symm
          · exact .inr e
        exact (chain_up h hs hk _ q hqn (Nat.le_refl _) this hqi).symm hs hqi.ne.symm
      rcases h.line i x hx hne with hw | hw
      · obtain ⟨j, j1, j2, j3, j4⟩ := child_above h hin _ x hxn (Nat.le_refl _) hw
        have hlj := hl j j1
        have hlt : low j < at1 m i := by
          rcases Int.lt_or_le (low j) (at1 m i) with h1 | h1
          · exact h1
          · exact absurd ⟨j, j1, j2, h1⟩ hno
        rcases hlj.some with h1 | ⟨y, k, y1, y2, y3, y4, y5⟩
        · have := j3.1; omega
        · have hkn := (hO y k y3).2
          have hiy := Sub.up j3 y2
          have hki : k ≠ i := by rintro rfl; omega
          have hyk : y ≠ k := by rintro rfl; exact hi' _ y3
          have hwk : Wi m l k y := by
            rcases h.line y k y3 hyk with h2 | h2
            · have := h2.1; have := hiy.1; omega
            · exact h2
          have hki2 : Wi m l k i := by
            rcases nested h hkn hin (.inr hwk) (.inr hiy) y1 with e | e | e
            · exact absurd e hki
            · exact e
            · have := e.1; omega
          have c1 := sub_conn h hs j1 j3 _ x hxn (Nat.le_refl _) j4
          have c2 := (sub_conn h hs j1 j3 _ y y1 (Nat.le_refl _) y2).symm hs hiy.ne
          exact (c1.trans c2).trans (CW.first y3 hki (anc k hkn hki2))
      · exact anc x hxn hw
    have hbi : b ≠ i := by rintro rfl; exact hi' _ hb
    exact hab ((key a ha).trans ((key b hb).symm hs hbi))
  · rintro ⟨j, hj, hc, hlow⟩
    obtain ⟨_, hij, hia⟩ := child_in h hj hc
    refine ⟨j, q, hia, hs _ _ hqa, fun hcon => ?_⟩
    obtain ⟨h1, _⟩ := sub_shut h hO hi' hj hc (fun y k hy hjy hyk hck hki => by
      have := (hl j hj).all y k hy hjy hyk hck
      have := hki.1
      omega) hcon
    have := Sub.up hij h1
    exact (this.trans hqi).irr

theorem cut_root (h : IsDeep O n m l c) (hO : Bounded n O) (hs : Symm O) (hi' : ∀ a, ¬ adjS O a a) {i : Nat} (hin : i < n) (hr : at1 c i = -1) :
    IsCut O i ↔ ∃ j j', j < n ∧ j' < n ∧ j ≠ j' ∧ at1 c j = (i : Int) ∧ at1 c j' = (i : Int) := by
  have hroot := (h.near i hin).1 hr
  constructor
  · rintro ⟨a, b, ha, hb, hab⟩
    have key : ∀ x, adjS O i x → ∃ j, j < n ∧ at1 c j = (i : Int) ∧ Wi m l i j ∧ Sub m l j x ∧ x < n := by
      intro x hx
      have hxn := (hO i x hx).2
      have hne : i ≠ x := by rintro rfl; exact hi' _ hx
      rcases h.line i x hx hne with hw | hw
      · obtain ⟨j, j1, j2, j3, j4⟩ := child_above h hin _ x hxn (Nat.le_refl _) hw
        exact ⟨j, j1, j2, j3, j4, hxn⟩
      · exact absurd hw (hroot x hxn)
    obtain ⟨j, j1, j2, j3, j4, j5⟩ := key a ha
    obtain ⟨j', k1, k2, k3, k4, k5⟩ := key b hb
    refine ⟨j, j', j1, k1, ?_, j2, k2⟩
    rintro rfl
    have hbi : b ≠ i := (Sub.up j3 k4).ne
    exact hab ((sub_conn h hs j1 j3 _ a j5 (Nat.le_refl _) j4).trans ((sub_conn h hs j1 j3 _ b k5 (Nat.le_refl _) k4).symm hs hbi))
  · rintro ⟨j, j', hj, hj', hne, hc, hc'⟩
    obtain ⟨_, hij, hia⟩ := child_in h hj hc
    obtain ⟨_, hij', hia'⟩ := child_in h hj' hc'
    refine ⟨j, j', hia, hia', fun hcon => ?_⟩
    obtain ⟨h1, _⟩ := sub_shut h hO hi' hj hc (fun y k hy hjy hyk hck hki => hroot k (hO y k hyk).2 hki) hcon
    rcases h1 with h1 | h1
    · exact hne h1.symm
    · rcases (h.near j' hj').2 i hc' j hj h1 with h2 | h2
      · subst h2; exact hij.irr
      · exact (hij.trans h2).irr
end

end Go.Proofs.Ytjeafgnaoncphaa.Gr


namespace Go.Proofs.Ytjeafgnaoncphaa.Gr

/-- the points beside j -/
def nbs (O : List Nat) (j : Nat) : List Nat := (elems (O[j]?.getD 0)).map (·.val)
/-- one neighbor k of j -/
def lowOne (m c : List Int) (j : Nat) (acc : Int) (k : Nat) : Int := if at1 c j = (k : Int) then acc else min acc (at1 m k)
/-- the points beside j, if j is met under i -/
def lowStep (O : List Nat) (m l c : List Int) (i : Nat) (acc : Int) (j : Nat) : Int :=
  if at1 m j < at1 m i ∨ at1 l i < at1 l j then acc else (nbs O j).foldl (lowOne m c j) acc
def lowOf (O : List Nat) (n : Nat) (m l c : List Int) (i : Nat) : Int := (List.range n).foldl (lowStep O m l c i) (at1 m i)

theorem lowOne_fold (m c : List Int) (j : Nat) : ∀ (ks : List Nat) (acc : Int), ks.foldl (lowOne m c j) acc ≤ acc ∧ (∀ k : Nat, k ∈ ks → at1 c j ≠ (k : Int) → ks.foldl (lowOne m c j) acc ≤ at1 m k) ∧
    (ks.foldl (lowOne m c j) acc = acc ∨ ∃ k : Nat, k ∈ ks ∧ at1 c j ≠ (k : Int) ∧ ks.foldl (lowOne m c j) acc = at1 m k) := by
  intro ks
  induction ks with
  | nil => intro acc; exact ⟨Int.le_refl _, fun k hk => (List.not_mem_nil hk).elim, .inl rfl⟩
  | cons x r ih =>
    intro acc
    obtain ⟨h1, h2, h3⟩ := ih (lowOne m c j acc x)
    rw [List.foldl_cons]
    by_cases hx : at1 c j = (x : Int)
    · have e : lowOne m c j acc x = acc := by unfold lowOne; rw [if_pos hx]
      rw [e] at h1 h2 h3 ⊢
      refine ⟨h1, fun k hk hne => ?_, ?_⟩
      · rcases List.mem_cons.1 hk with rfl | hk
        · exact absurd hx hne
        · exact h2 k hk hne
      · rcases h3 with h3 | ⟨k, hk, a, b⟩
        · exact .inl h3
        · exact .inr ⟨k, List.mem_cons_of_mem _ hk, a, b⟩
    · have e : lowOne m c j acc x = min acc (at1 m x) := by unfold lowOne; rw [if_neg hx]
      rw [e] at h1 h2 h3 ⊢
      refine ⟨Int.le_trans h1 (Int.min_le_left _ _), fun k hk hne => ?_, ?_⟩
      · rcases List.mem_cons.1 hk with rfl | hk
        · exact Int.le_trans h1 (Int.min_le_right _ _)
        · exact h2 k hk hne
      · rcases h3 with h3 | ⟨k, hk, a, b⟩
        · rcases Int.le_total acc (at1 m x) with h4 | h4
          · exact .inl (h3.trans (Int.min_eq_left h4))
          · exact .inr ⟨x, List.mem_cons_self, hx, h3.trans (Int.min_eq_right h4)⟩
        · exact .inr ⟨k, List.mem_cons_of_mem _ hk, a, b⟩

theorem lowStep_fold (O : List Nat) (m l c : List Int) (i : Nat) : ∀ (js : List Nat) (acc : Int), js.foldl (lowStep O m l c i) acc ≤ acc ∧
    (∀ j ∈ js, ¬ (at1 m j < at1 m i ∨ at1 l i < at1 l j) → ∀ k : Nat, k ∈ nbs O j → at1 c j ≠ (k : Int) → js.foldl (lowStep O m l c i) acc ≤ at1 m k) ∧
    (js.foldl (lowStep O m l c i) acc = acc ∨ ∃ j ∈ js, ¬ (at1 m j < at1 m i ∨ at1 l i < at1 l j) ∧ ∃ k : Nat, k ∈ nbs O j ∧ at1 c j ≠ (k : Int) ∧ js.foldl (lowStep O m l c i) acc = at1 m k) := by
  intro js
  induction js with
  | nil => intro acc; exact ⟨Int.le_refl _, fun k hk => (List.not_mem_nil hk).elim, .inl rfl⟩
  | cons x r ih =>
    intro acc
    obtain ⟨h1, h2, h3⟩ := ih (lowStep O m l c i acc x)
    rw [List.foldl_cons]
    by_cases hx : at1 m x < at1 m i ∨ at1 l i < at1 l x
    · have e : lowStep O m l c i acc x = acc := by unfold lowStep; rw [if_pos hx]
      rw [e] at h1 h2 h3 ⊢
      refine ⟨h1, fun j hj hne => ?_, ?_⟩
      · rcases List.mem_cons.1 hj with rfl | hj
        · exact absurd hx hne
        · exact h2 j hj hne
      · rcases h3 with h3 | ⟨j, hj, a⟩
        · exact .inl h3
        · exact .inr ⟨j, List.mem_cons_of_mem _ hj, a⟩
    · have e : lowStep O m l c i acc x = (nbs O x).foldl (lowOne m c x) acc := by unfold lowStep; rw [if_neg hx]
      obtain ⟨g1, g2, g3⟩ := lowOne_fold m c x (nbs O x) acc
      rw [← e] at g1 g2 g3
      refine ⟨Int.le_trans h1 g1, fun j hj hne => ?_, ?_⟩
      · rcases List.mem_cons.1 hj with rfl | hj
        · intro k hk hck
          exact Int.le_trans h1 (g2 k hk hck)
        · exact h2 j hj hne
      · rcases h3 with h3 | ⟨j, hj, a⟩
        · rcases g3 with g3 | ⟨k, hk, a, b⟩
          · exact .inl (h3.trans g3)
          · exact .inr ⟨x, List.mem_cons_self, hx, k, hk, a, h3.trans b⟩
        · exact .inr ⟨j, List.mem_cons_of_mem _ hj, a⟩

theorem under_iff {O : List Nat} {n : Nat} {m l c : List Int} (h : IsDeep O n m l c) {i j : Nat} (hi : i < n) (hj : j < n) : ¬ (at1 m j < at1 m i ∨ at1 l i < at1 l j) ↔ Sub m l i j := by
  have ti := h.times i hi
  have tj := h.times j hj
  constructor
  · intro hn
    by_cases e : j = i
    · exact .inl e
    · rcases h.nest i j hi hj (fun e' => e e'.symm) with h1 | h1 | h1
      · exfalso; apply hn
        rcases h1 with h1 | h1
        · right; omega
        · left; omega
      · exact .inr h1
      · exact absurd (.inl h1.1) hn
  · rintro (rfl | hw) hn
    · omega
    · have := hw.1; have := hw.2; omega

theorem lowOf_is {O : List Nat} {n : Nat} {m l c : List Int} (h : IsDeep O n m l c) (hO : ∀ j k, adjS O j k ↔ k ∈ nbs O j) {i : Nat} (hi : i < n) : IsLow O n m l c i (lowOf O n m l c i) := by
  obtain ⟨h1, h2, h3⟩ := lowStep_fold O m l c i (List.range n) (at1 m i)
  refine ⟨h1, fun j k hj hs hjk hc => h2 j (List.mem_range.2 hj) ((under_iff h hi hj).2 hs) k ((hO j k).1 hjk) hc, ?_⟩
  rcases h3 with h3 | ⟨j, hj, a, k, hk, b, d⟩
  · exact .inl h3
  · have hjn := List.mem_range.1 hj
    exact .inr ⟨j, k, hjn, (under_iff h hi hjn).1 a, (hO j k).2 hk, b, d⟩

end Go.Proofs.Ytjeafgnaoncphaa.Gr


namespace Go.Proofs.Ytjeafgnaoncphaa.Gr

/-- hang together without the line between a and b -/
def CE (O : List Nat) (a b x y : Nat) : Prop := ∀ T : Nat → Prop, T x → (∀ u v, T u → adjS O u v → ¬ (u = a ∧ v = b) → ¬ (u = b ∧ v = a) → T v) → T y
theorem CE.refl (O : List Nat) (a b x : Nat) : CE O a b x x := fun _ h _ => h
theorem CE.trans {O : List Nat} {a b x y z : Nat} (h : CE O a b x y) (k : CE O a b y z) : CE O a b x z := fun T h0 hT => k T (h T h0 hT) hT
theorem CE.first {O : List Nat} {a b x y z : Nat} (h : adjS O x y) (h1 : ¬ (x = a ∧ y = b)) (h2 : ¬ (x = b ∧ y = a)) (k : CE O a b y z) : CE O a b x z := fun T h0 hT => k T (hT x y h0 h h1 h2) hT
theorem CE.symm {O : List Nat} {a b x y : Nat} (hs : Symm O) (h : CE O a b x y) : CE O a b y x :=
  h (fun z => CE O a b z x) (CE.refl _ _ _ _) (fun _ _ hu huv h1 h2 => CE.first (hs _ _ huv) (fun e => h2 ⟨e.2, e.1⟩) (fun e => h1 ⟨e.2, e.1⟩) hu)
theorem CE.swap {O : List Nat} {a b x y : Nat} (h : CE O a b x y) : CE O b a x y := fun T h0 hT => h T h0 (fun u v hu huv h1 h2 => hT u v hu huv h2 h1)
theorem CE.of_cw {O : List Nat} {a b x y : Nat} (hx : x ≠ a) (h : CW O a x y) : CE O a b x y := fun T h0 hT =>
  (h (fun v => v ≠ a ∧ T v) ⟨hx, h0⟩ (fun u v hu huv hv => ⟨hv, hT u v hu.2 huv (fun e => hu.1 e.1) (fun e => hv e.2)⟩)).2

section
variable {O : List Nat} {n : Nat} {m l c : List Int}

/-- a line to the point from which i was met, over which alone one comes back: without it i hangs no more -/
theorem bridge_cut (h : IsDeep O n m l c) (hO : Bounded n O) (hi' : ∀ a, ¬ adjS O a a) {i p : Nat} (hin : i < n) (hp : at1 c i = (p : Int)) {low : Int} (hl : IsLow O n m l c i low) (hlt : at1 m p < low) : ¬ CE O i p i p := by
  obtain ⟨hpn, hpi, hadj⟩ := child_in h hin hp
  intro hc
  have := hc (fun v => v < n ∧ Sub m l i v) ⟨hin, .inl rfl⟩ (fun u v hu huv h1 h2 => by
    obtain ⟨hun, hsu⟩ := hu
    have hvn := (hO u v huv).2
    refine ⟨hvn, ?_⟩
    have huv' : u ≠ v := by rintro rfl; exact hi' _ huv
    have hcv : at1 c u ≠ (v : Int) ∨ Sub m l i v := by
      rcases hsu with rfl | hw
      · left
        rw [hp]
        intro e
        exact h1 ⟨rfl, by omega⟩
      · obtain ⟨q, q1, q2, _, _, q5⟩ := deep_parent h hin hun hw
        by_cases e : q = v
        · right; rw [← e]; exact q5
        · left; rw [q2]; intro e2; exact e (by omega)
    rcases hcv with hcv | hcv
    · have hlo := hl.all u v hun hsu huv hcv
      rcases h.line u v huv huv' with hw | hw
      · right
        rcases hsu with rfl | hs
        · exact hw
        · exact hs.trans hw
      · rcases nested h hin hvn hsu (.inr hw) hun with e | e | e
        · exact .inl e.symm
        · exact .inr e
        · exfalso
          rcases (h.near i hin).2 p hp v hvn e with e2 | e2
          · subst e2; omega
          · have := e2.1; omega
    · exact hcv)
  rcases this.2 with e | e
  · subst e; exact hpi.irr
  · have h1 := e.1
    have h2 := hpi.1
    omega

/-- a line without which its ends don't hang together goes to the point from which the one was met, and one comes back over it alone -/
theorem bridge_back (h : IsDeep O n m l c) (hO : Bounded n O) (hs : Symm O) (hi' : ∀ a, ¬ adjS O a a) {a b : Nat} (hadj : adjS O a b) (hw : Wi m l a b) {low : Int} (hl : IsLow O n m l c b low) (hn : ¬ CE O a b b a) : at1 c b = (a : Int) ∧ at1 m a < low := by
  obtain ⟨han, hbn⟩ := hO a b hadj
  obtain ⟨p, p1, p2, p3, p4, p5⟩ := deep_parent h han hbn hw
  have hab : a ≠ b := by rintro rfl; exact hi' _ hadj
  have hpb : p ≠ b := p4.ne.symm
  have hpa : p = a := by
    refine Classical.byContradiction fun hne => hn ?_
    have k : CW O b p a := chain_up h hs han (at1 m p).toNat p p1 (Nat.le_refl _) p5 p4
    exact CE.first (hs _ _ p3) (fun e => hab e.1.symm) (fun e => hne e.2) (CE.of_cw hpb k).swap
  subst hpa
  refine ⟨p2, ?_⟩
  refine Classical.byContradiction fun hlo => hn ?_
  rcases hl.some with e | ⟨j, k, j1, j2, j3, j4, j5⟩
  · have := hw.1; omega
  · have hjk : j ≠ k := by rintro rfl; exact hi' _ j3
    have hkn := (hO j k j3).2
    have hmj : at1 m b ≤ at1 m j := by
      rcases j2 with rfl | j2
      · exact Int.le_refl _
      · have := j2.1; omega
    have hwb := hw.1
    have hkj : Wi m l k j := by
      rcases h.line j k j3 hjk with e | e
      · have := e.1; omega
      · exact e
    have hkb : Wi m l k b := by
      rcases nested h hkn hbn (.inr hkj) j2 j1 with e | e | e
      · subst e; omega
      · exact e
      · have := e.1; omega
    have hka : Sub m l k p := by
      rcases (h.near b hbn).2 p p2 k hkn hkb with e | e
      · exact .inl e.symm
      · exact .inr e
    have hjp : j ≠ p := by rintro rfl; have := hw.1; omega
    have c1 : CE O p b b j := CE.symm hs (CE.of_cw hjp (sub_conn h hs hbn hw (at1 m j).toNat j j1 (Nat.le_refl _) j2))
    have c2 : CE O p b k p := CE.symm hs (CE.of_cw (b := p) hpb (chain_up h hs hkn (at1 m p).toNat p han (Nat.le_refl _) hka hw)).swap
    exact CE.trans c1 (CE.first j3 (fun e => hjp e.1) (fun e => j4 (by rw [e.1, e.2]; exact p2)) c2)
end

/-- an end of a bridge with another one beside it holds its part together -/
theorem end_cut {O : List Nat} {a b d : Nat} (hs : Symm O) (hi' : ∀ a, ¬ adjS O a a) (hab : adjS O a b) (had : adjS O a d) (hdb : d ≠ b) (hn : ¬ CE O a b a b) : IsCut O a := by
  refine ⟨b, d, hab, had, fun hc => hn ?_⟩
  have hba : b ≠ a := by rintro rfl; exact hi' _ hab
  have hda : d ≠ a := by rintro rfl; exact hi' _ had
  have c1 : CE O a b b d := CE.of_cw hba hc
  exact CE.first had (fun e => hdb e.2) (fun e => hba e.1.symm) (CE.symm hs c1)
end Go.Proofs.Ytjeafgnaoncphaa.Gr


namespace Go.Proofs.Ytjeafgnaoncphaa.Gr

/-- b is so many steps from a -/
inductive Steps (O : List Nat) (a : Nat) : Nat → Nat → Prop
  | refl : Steps O a a 0
  | step {u v t : Nat} : Steps O a u t → adjS O u v → Steps O a v (t + 1)
theorem Steps.trans {O : List Nat} {a b c s t : Nat} (h : Steps O a b s) (k : Steps O b c t) : Steps O a c (s + t) := by
  induction k with
  | refl => exact h
  | step _ e ih => exact .step ih e

/-- a way from a to b whose inner points are below K -/
inductive Wk (O : List Nat) (K : Nat) : Nat → Nat → Nat → Prop
  | refl (a : Nat) : Wk O K a a 0
  | edge {a b : Nat} : adjS O a b → Wk O K a b 1
  | join {a c b s t : Nat} : Wk O K a c s → c < K → Wk O K c b t → Wk O K a b (s + t)

theorem wk_split {O : List Nat} {K a b L : Nat} (h : Wk O (K + 1) a b L) : (∃ l, l ≤ L ∧ Wk O K a b l) ∨ ∃ l1 l2, l1 + l2 ≤ L ∧ Wk O K a K l1 ∧ Wk O K K b l2 := by
  induction h with
  | refl a => exact .inl ⟨0, Nat.le_refl _, .refl a⟩
  | edge e => exact .inl ⟨1, Nat.le_refl _, .edge e⟩
  | @join a c b s t h1 hc h2 ih1 ih2 =>
    by_cases hck : c = K
    · subst hck
      right
      have g1 : ∃ l, l ≤ s ∧ Wk O c a c l := by
        rcases ih1 with ⟨l, hl, w⟩ | ⟨l1, l2, hl, w1, _⟩
        · exact ⟨l, hl, w⟩
        · exact ⟨l1, by omega, w1⟩
      have g2 : ∃ l, l ≤ t ∧ Wk O c c b l := by
        rcases ih2 with ⟨l, hl, w⟩ | ⟨l1, l2, hl, _, w2⟩
        · exact ⟨l, hl, w⟩
        · exact ⟨l2, by omega, w2⟩
      obtain ⟨x, hx, wx⟩ := g1
      obtain ⟨y, hy, wy⟩ := g2
      exact ⟨x, y, by omega, wx, wy⟩
    · have hcK : c < K := by omega
      rcases ih1 with ⟨l, hl, w⟩ | ⟨l1, l2, hl, w1, w2⟩ <;> rcases ih2 with ⟨r, hr, v⟩ | ⟨r1, r2, hr, v1, v2⟩
      · exact .inl ⟨l + r, by omega, .join w hcK v⟩
      · exact .inr ⟨l + r1, r2, by omega, .join w hcK v1, v2⟩
      · exact .inr ⟨l1, l2 + r, by omega, w1, .join w2 hcK v⟩
      · exact .inr ⟨l1, r2, by omega, w1, v2⟩

theorem steps_wk {O : List Nat} {n a b t : Nat} (hO : Bounded n O) (h : Steps O a b t) : Wk O n a b t := by
  induction h with
  | refl => exact .refl a
  | @step u v t _ e ih => exact .join ih (hO _ _ e).1 (.edge e)

def far0 (O : List Nat) (a b : Nat) : Int := if a = b then 0 else if (O[a]?.getD 0).testBit b = true then 1 else -1
def farF (O : List Nat) : Nat → Nat → Nat → Int
  | 0, a, b => far0 O a b
  | k + 1, a, b => if 0 ≤ farF O k a k ∧ 0 ≤ farF O k k b ∧ (farF O k a b < 0 ∨ farF O k a k + farF O k k b < farF O k a b) then farF O k a k + farF O k k b else farF O k a b

theorem far_diag (O : List Nat) : ∀ k a, farF O k a a = 0 := by
  intro k
  induction k with
  | zero => intro a; simp [farF, far0]
  | succ k ih =>
    intro a
    unfold farF
    rw [if_neg, ih]
    rw [ih]; omega
theorem far_col (O : List Nat) (k a : Nat) : farF O (k + 1) a k = farF O k a k := by
  rw [farF, if_neg]
  have := far_diag O k k
  omega
theorem far_row (O : List Nat) (k b : Nat) : farF O (k + 1) k b = farF O k k b := by
  rw [farF, if_neg]
  have := far_diag O k k
  omega
theorem far_bounds (O : List Nat) : ∀ k a b, -1 ≤ farF O k a b ∧ farF O k a b ≤ 2 ^ k := by
  intro k
  induction k with
  | zero =>
    intro a b
    unfold farF far0
    split
    · decide
    · split <;> decide
  | succ k ih =>
    intro a b
    have h1 := ih a k
    have h2 := ih k b
    have h3 := ih a b
    have : (2 : Int) ^ (k + 1) = 2 * 2 ^ k := by rw [Int.pow_succ]; omega
    have hp : (0 : Int) < 2 ^ k := by exact_mod_cast Nat.two_pow_pos k
    unfold farF
    split <;> omega
theorem far_small (O : List Nat) {k : Nat} (hk : k ≤ 8) (a b : Nat) : -1 ≤ farF O k a b ∧ farF O k a b ≤ 256 := by
  have h := far_bounds O k a b
  have : (2 : Int) ^ k ≤ 2 ^ 8 := by
    have := Nat.pow_le_pow_right (n := 2) (by omega) hk
    exact_mod_cast this
  omega
theorem far_sound {O : List Nat} : ∀ k a b, 0 ≤ farF O k a b → Steps O a b (farF O k a b).toNat := by
  intro k
  induction k with
  | zero =>
    intro a b h
    unfold farF far0 at h ⊢
    split
    · rename_i e; subst e; exact .refl
    · split
      · rename_i e; exact .step .refl e
      · rename_i e1 e2; rw [if_neg e1, if_neg e2] at h; omega
  | succ k ih =>
    intro a b h
    rw [farF] at h ⊢
    split
    · rename_i hc
      have h1 := ih a k hc.1
      have h2 := ih k b hc.2.1
      have := h1.trans h2
      have e : (farF O k a k + farF O k k b).toNat = (farF O k a k).toNat + (farF O k k b).toNat := by omega
      rw [e]; exact this
    · rename_i hc
      rw [if_neg hc] at h
      exact ih a b h
theorem far_full {O : List Nat} : ∀ k a b L, Wk O k a b L → 0 ≤ farF O k a b ∧ farF O k a b ≤ L := by
  intro k
  induction k with
  | zero =>
    intro a b L h
    have : ∀ {a b L}, Wk O 0 a b L → 0 ≤ farF O 0 a b ∧ farF O 0 a b ≤ L := by
      intro a b L h
      cases h with
      | refl a => unfold farF far0; rw [if_pos rfl]; omega
      | edge e =>
        unfold farF far0
        split
        · omega
        · rw [if_pos (show (O[a]?.getD 0).testBit b = true from e)]; omega
      | join _ hc _ => omega
    exact this h
  | succ k ih =>
    intro a b L h
    rw [farF]
    rcases wk_split h with ⟨l, hl, w⟩ | ⟨l1, l2, hl, w1, w2⟩
    · have := ih a b l w
      split <;> omega
    · have h1 := ih a k l1 w1
      have h2 := ih k b l2 w2
      split <;> omega

theorem dist_sound {O : List Nat} {n a : Nat} {D : List Int} (h : IsDist O n a D) : ∀ (t b : Nat), at1 D b = (t : Int) → Steps O a b t := by
  intro t
  induction t with
  | zero => intro b hb; rw [h.zero b hb]; exact .refl
  | succ t ih =>
    intro b hb
    obtain ⟨j, hj, hk⟩ := h.pre b (by omega)
    exact .step (ih j (by omega)) hj
theorem dist_full {O : List Nat} {n a : Nat} {D : List Int} (h : IsDist O n a D) {b t : Nat} (hs : Steps O a b t) : 0 ≤ at1 D b ∧ at1 D b ≤ t := by
  induction hs with
  | refl => rw [h.src]; omega
  | @step u v t _ e ih =>
    obtain ⟨h1, h2⟩ := ih
    have := h.edge u v e h1
    omega

/-- a row of all distances -/
def farRow (O : List Nat) (n k a : Nat) : List Int := (List.range n).map (farF O k a)
theorem farRow_at (O : List Nat) (n k a : Nat) {b : Nat} (hb : b < n) : at1 (farRow O n k a) b = farF O k a b := by simp [farRow, at1, hb]
theorem far_is {O : List Nat} {n a : Nat} {D : List Int} (hO : Bounded n O) (h : IsDist O n a D) : farRow O n n a = D := by
  refine List.ext_getElem? fun b => ?_
  by_cases hb : b < n
  · rw [at1_lt (d := D) (by rw [h.len]; exact hb)]
    have hlt : b < (farRow O n n a).length := by simp [farRow, hb]
    rw [at1_lt hlt, farRow_at _ _ _ _ hb]
    congr 1
    have hlo := h.lo b
    have hl := (far_bounds O n a b).1
    by_cases h1 : 0 ≤ farF O n a b
    · obtain ⟨g1, g2⟩ := dist_full h (far_sound n a b h1)
      obtain ⟨g3, g4⟩ := far_full n a b _ (steps_wk hO (dist_sound h (at1 D b).toNat b (by omega)))
      omega
    · by_cases h2 : 0 ≤ at1 D b
      · obtain ⟨g3, g4⟩ := far_full n a b _ (steps_wk hO (dist_sound h (at1 D b).toNat b (by omega)))
        omega
      · omega
  · rw [List.getElem?_eq_none (by simp [farRow]; omega), List.getElem?_eq_none (by rw [h.len]; omega)]

end Go.Proofs.Ytjeafgnaoncphaa.Gr
