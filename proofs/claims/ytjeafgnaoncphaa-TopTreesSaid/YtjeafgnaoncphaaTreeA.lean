/- TreeA: what several texts say, in one: TreeP, SpanP. Conditions: in each statement. -/
import Derived.Test.YtjeafgnaoncphaaButP
import Derived.Test.YtjeafgnaoncphaaTreeCheck

namespace Go.Proofs.Ytjeafgnaoncphaa
open Go.RowKit Gr

/-- every line is a bridge -/
def AllBr (n : Nat) (ls : List Ln) : Prop := ∀ l ∈ ls, near (bridgesL n ls) l.1 l.2 = true

theorem line_nat {n : Nat} {ls : List Ln} (hg : GoodG n ls) {l : Ln} (hl : l ∈ ls) : ∃ x y : Nat, l = ((x : Int), (y : Int)) ∧ x < n ∧ y < n ∧ x ≠ y := by
  have h := hg.2.2.2 l hl
  exact ⟨l.1.toNat, l.2.toNat, Prod.ext (by simp only; omega) (by simp only; omega), by omega, by omega, by omega⟩
theorem many_mem {ls : List Ln} {l : Ln} (hl : l ∈ ls) : 1 ≤ many ls l.1 l.2 := by
  have : near ls l.1 l.2 = true := near_iff.2 ⟨l, hl, .inl ⟨rfl, rfl⟩⟩
  have := (many_near ls _ _).1 this
  omega
open Classical in
/-- no fewer parts and lines than points -/
theorem parts_lines {n : Nat} : ∀ (k : Nat) (ls : List Ln), ls.length = k → GoodG n ls → n ≤ partsN (beside n ls) n + ls.length := by
  intro k
  induction k with
  | zero =>
    intro ls hk hg
    obtain rfl : ls = [] := List.length_eq_zero_iff.1 hk
    have hno : ∀ a b, ¬ adjS (beside n []) a b := fun a b h => by
      rw [adj_near hg, near_iff] at h
      obtain ⟨l, hl, _⟩ := h
      cases hl
    have : partsN (beside n []) n = n := by
      unfold partsN
      have : ∀ i ∈ List.range n, decide (RootC (beside n []) i) = true := fun i _ => decide_eq_true fun y hy => hy (fun y => i ≤ y) (Nat.le_refl _) (fun u v _ huv => absurd huv (hno u v))
      rw [List.countP_eq_length.2 this, List.length_range]
    omega
  | succ k ih =>
    intro ls hk hg
    have h0 : 0 < ls.length := by omega
    have hm := List.getElem_mem h0
    obtain ⟨x, y, hxy, _⟩ := line_nat hg hm
    have h1 := parts_but hg h0 hxy
    have hl : (ls.eraseIdx 0).length = k := by rw [List.length_eraseIdx_of_lt h0]; omega
    have h2 := ih _ hl (good_but hg 0)
    split at h1 <;> omega
/-- just so many: every line is a bridge -/
theorem lines_br {n : Nat} {ls : List Ln} (hg : GoodG n ls) (h : n = partsN (beside n ls) n + ls.length) : AllBr n ls := by
  intro l hl
  obtain ⟨k, hk, rfl⟩ := List.mem_iff_getElem.1 hl
  obtain ⟨x, y, hxy, _⟩ := line_nat hg hl
  have h1 := parts_but hg hk hxy
  have h2 := parts_lines _ _ rfl (good_but hg k)
  have hle : (ls.eraseIdx k).length + 1 = ls.length := by rw [List.length_eraseIdx_of_lt hk]; omega
  rw [hxy]
  by_cases e : near (bridgesL n ls) (x : Int) (y : Int) = true
  · exact e
  · rw [if_neg e] at h1; omega
theorem CE.mono' {O O' : List Nat} {a b x y : Nat} (hm : ∀ u v, adjS O u v → adjS O' u v) (h : CE O a b x y) : CE O' a b x y := fun T h0 hT => h T h0 fun u v hu huv h1 h2 => hT u v hu (hm u v huv) h1 h2
open Classical in
/-- all bridges: just so many -/
theorem br_lines {n : Nat} : ∀ (k : Nat) (ls : List Ln), ls.length = k → GoodG n ls → AllBr n ls → n = partsN (beside n ls) n + ls.length := by
  intro k
  induction k with
  | zero =>
    intro ls hk hg _
    obtain rfl : ls = [] := List.length_eq_zero_iff.1 hk
    have hno : ∀ a b, ¬ adjS (beside n []) a b := fun a b h => by
      rw [adj_near hg, near_iff] at h
      obtain ⟨l, hl, _⟩ := h
      cases hl
    have : partsN (beside n []) n = n := by
      unfold partsN
      have : ∀ i ∈ List.range n, decide (RootC (beside n []) i) = true := fun i _ => decide_eq_true fun y hy => hy (fun y => i ≤ y) (Nat.le_refl _) (fun u v _ huv => absurd huv (hno u v))
      rw [List.countP_eq_length.2 this, List.length_range]
    simp only [List.length_nil]
    omega
  | succ k ih =>
    intro ls hk hg hb
    have h0 : 0 < ls.length := by omega
    have hm := List.getElem_mem h0
    obtain ⟨x, y, hxy, _⟩ := line_nat hg hm
    have h1 := parts_but hg h0 hxy
    have hn := hb _ hm
    rw [hxy] at hn
    rw [if_pos hn] at h1
    have hl : (ls.eraseIdx 0).length = k := by rw [List.length_eraseIdx_of_lt h0]; omega
    have hg' := good_but hg 0
    have h2 := ih _ hl hg' fun l hl => by
      have hin := List.mem_of_mem_eraseIdx hl
      obtain ⟨u, v, rfl, _⟩ := line_nat hg hin
      obtain ⟨m1, m2⟩ := (near_bridges hg u v).1 (hb _ hin)
      have m3 := many_mem hl
      have m4 := many_but h0 (u : Int) (v : Int)
      refine (near_bridges hg' u v).2 ⟨?_, fun hc => m2 (CE.mono' (fun a b hab => ?_) hc)⟩
      · simp only at m3; split at m4 <;> omega
      · rw [adj_near hg', many_near] at hab
        rw [adj_near hg, many_near]
        have := many_but h0 (a : Int) (b : Int)
        split at this <;> omega
    omega
open Classical in
/-- all hang together: one part -/
theorem parts_one {n : Nat} {ls : List Ln} (hg : GoodG n ls) : partsN (beside n ls) n = 1 ↔ ∀ v, v < n → Conn (beside n ls) 0 v := by
  have hO := adj_bounded hg
  have hs : Symm (beside n ls) := fun _ _ h => adj_symm hg h
  have h0 : RootC (beside n ls) 0 := fun y _ => Nat.zero_le y
  have hn1 := hg.1
  have hc : ∀ p : Nat → Bool, (List.range n).countP p = (if p 0 then 1 else 0) + ((List.range (n - 1)).countP fun i => p (i + 1)) := fun p => by
    obtain ⟨m, rfl⟩ : ∃ m, n = m + 1 := ⟨n - 1, by omega⟩
    rw [List.range_succ_eq_map, List.countP_cons, List.countP_map, Nat.add_comm]
    rfl
  have key : partsN (beside n ls) n = 1 ↔ ∀ i, i < n → 0 < i → ¬ RootC (beside n ls) i := by
    unfold partsN
    rw [hc]
    simp only [h0, decide_true, if_true]
    constructor
    · intro h i hi hp hr
      have hz : (List.range (n - 1)).countP (fun i => decide (RootC (beside n ls) (i + 1))) = 0 := by omega
      have := List.countP_eq_zero.1 hz (i - 1) (List.mem_range.2 (by omega))
      rw [show i - 1 + 1 = i from by omega] at this
      exact this (by simpa using hr)
    · intro h
      have hz : (List.range (n - 1)).countP (fun i => decide (RootC (beside n ls) (i + 1))) = 0 := by
        rw [List.countP_eq_zero]
        intro i hi
        have := h (i + 1) (by have := List.mem_range.1 hi; omega) (by omega)
        simpa using this
      omega
  rw [key]
  constructor
  · intro h v hv
    obtain ⟨r, h1, h2⟩ := exists_least ⟨v, Conn.refl (beside n ls) v⟩
    have hr : RootC (beside n ls) r := fun y hy => h2 y (h1.trans hy)
    have hrn := h1.in_ hO hv
    rcases Nat.eq_zero_or_pos r with e | e
    · subst e; exact h1.symm hs
    · exact absurd hr (h r hrn e)
  · intro h i hi hp hr
    have := hr 0 ((h i hi).symm hs)
    omega
/-- a tree: so many lines that every one is a bridge -/
theorem tree_br {n : Nat} {ls : List Ln} (hg : GoodG n ls) (h : IsTreeG n ls) : AllBr n ls := by
  have := (parts_one hg).2 h.2
  exact lines_br hg (by have := h.1; omega)
theorem br_tree {n : Nat} {ls : List Ln} (hg : GoodG n ls) (hb : AllBr n ls) (h : ls.length + 1 = n) : IsTreeG n ls := by
  have := br_lines _ _ rfl hg hb
  exact ⟨h, (parts_one hg).1 (by omega)⟩
theorem br_conn {n : Nat} {ls : List Ln} (hg : GoodG n ls) (hb : AllBr n ls) (h : ∀ v, v < n → Conn (beside n ls) 0 v) : IsTreeG n ls := by
  have h1 := br_lines _ _ rfl hg hb
  have h2 := (parts_one hg).2 h
  exact ⟨by omega, h⟩
/-- every line is a bridge just where there is no ring and no two points have two lines -/
theorem br_ring {n : Nat} {ls : List Ln} (hg : GoodG n ls) {k : Int} (hk : BestIs (beside n ls) n (adjS (beside n ls)) k) : AllBr n ls ↔ k = 0 ∧ ∀ l ∈ ls, many ls l.1 l.2 = 1 := by
  have hO := adj_bounded hg
  have hl := beside_length n ls
  have hi : ∀ i, ¬ adjS (beside n ls) i i := fun a h => adj_ne hg h rfl
  rw [ring_zero hg.2.1 hl hO hi hk]
  have hcut : ∀ a b, adjS (beside n ls) a b → (Conn (cutS (beside n ls) a b) a b ↔ CE (beside n ls) a b a b) := fun a b hab => by
    have habn := hO a b hab
    have k := cutS_adj (O := beside n ls) (a := a) (b := b) (by omega) (by omega) (adj_ne hg hab)
    constructor
    · intro h T h0 hT
      exact h T h0 fun u v hu huv => by
        obtain ⟨h1, h2, h3⟩ := (k u v).1 huv
        exact hT u v hu h1 h2 h3
    · intro h T h0 hT
      exact h T h0 fun u v hu huv h1 h2 => hT u v hu ((k u v).2 ⟨huv, h1, h2⟩)
  constructor
  · intro hb
    refine ⟨fun a b hab hc => ?_, fun l hl => ?_⟩
    · obtain ⟨l, hl, h1⟩ := near_iff.1 ((adj_near hg a b).1 hab)
      have h2 := hb l hl
      have h3 : near (bridgesL n ls) (a : Int) (b : Int) = true := by
        rcases h1 with ⟨e1, e2⟩ | ⟨e1, e2⟩
        · rw [← e1, ← e2]; exact h2
        · rw [near_symm, ← e1, ← e2]; exact h2
      exact ((near_bridges hg a b).1 h3).2 ((hcut a b hab).1 hc)
    · obtain ⟨x, y, rfl, _⟩ := line_nat hg hl
      exact ((near_bridges hg x y).1 (hb _ hl)).1
  · rintro ⟨h1, h2⟩ l hl
    obtain ⟨x, y, rfl, _⟩ := line_nat hg hl
    have hadj : adjS (beside n ls) x y := (adj_near hg x y).2 (near_iff.2 ⟨_, hl, .inl ⟨rfl, rfl⟩⟩)
    exact (near_bridges hg x y).2 ⟨h2 _ hl, fun hc => h1 x y hadj ((hcut x y hadj).2 hc)⟩

/-- a line as the bridges are written -/
def norm (l : Ln) : Ln := (min l.1 l.2, max l.1 l.2)
theorem bridges_norm {n : Nat} {ls : List Ln} (hg : GoodG n ls) {q : Ln} (hq : q ∈ bridgesL n ls) : ∃ l ∈ ls, norm l = q := by
  obtain ⟨a, b, rfl, hab, _, hm, _⟩ := mem_brUp hg hq
  have : near ls (a : Int) (b : Int) = true := by rw [many_near]; omega
  obtain ⟨l, hl, h⟩ := near_iff.1 this
  refine ⟨l, hl, ?_⟩
  unfold norm
  rcases h with ⟨e1, e2⟩ | ⟨e1, e2⟩ <;> rw [e1, e2] <;> exact Prod.ext (by simp only; omega) (by simp only; omega)
theorem bridges_nodup {n : Nat} {ls : List Ln} (hg : GoodG n ls) : (bridgesL n ls).Nodup := by
  have hs : Symm (beside n ls) := fun _ _ h => adj_symm hg h
  have hD := deepWalk_is hg.2.1 (adj_bounded hg) hs
  unfold bridgesL
  refine (lsort_perm _).nodup_iff.2 ?_
  unfold brUp
  rw [List.nodup_iff_pairwise_ne, List.pairwise_map]
  have hr : ((List.range n).filter (brAt ls (deepWalk (beside n ls) n).met (deepWalk (beside n ls) n).frm (lows (beside n ls) n (deepWalk (beside n ls) n).met (deepWalk (beside n ls) n).left (deepWalk (beside n ls) n).frm))).Nodup := List.nodup_range.filter _
  refine List.Pairwise.imp_of_mem ?_ (List.nodup_iff_pairwise_ne.1 hr)
  intro i j hi hj hij e
  obtain ⟨hi1, hi2⟩ := List.mem_filter.1 hi
  obtain ⟨hj1, hj2⟩ := List.mem_filter.1 hj
  have hin := List.mem_range.1 hi1
  have hjn := List.mem_range.1 hj1
  have hpar : ∀ i, i < n → brAt ls (deepWalk (beside n ls) n).met (deepWalk (beside n ls) n).frm (lows (beside n ls) n (deepWalk (beside n ls) n).met (deepWalk (beside n ls) n).left (deepWalk (beside n ls) n).frm) i = true → ∃ p : Nat, p < n ∧ at1 (deepWalk (beside n ls) n).frm i = (p : Int) ∧ at1 (deepWalk (beside n ls) n).met p < at1 (deepWalk (beside n ls) n).met i := fun i hi hb => by
    rcases hD.tree i hi with ⟨h0, _⟩ | ⟨p, hpn, hp, hadj, hm, _⟩
    · unfold brAt at hb
      rw [h0] at hb
      simp at hb
    · obtain ⟨_, hw, _⟩ := child_in hD hi hp
      exact ⟨p, hpn, hp, hw.1⟩
  obtain ⟨p, _, hp, hpl⟩ := hpar i hin hi2
  obtain ⟨q, _, hq, hql⟩ := hpar j hjn hj2
  unfold brLn at e
  rw [hp, hq] at e
  have e1 := congrArg Prod.fst e
  have e2 := congrArg Prod.snd e
  simp only at e1 e2
  have h3 : (i = j ∧ p = q) ∨ (i = q ∧ p = j) := by omega
  rcases h3 with ⟨h3, _⟩ | ⟨rfl, rfl⟩
  · exact hij h3
  · omega
theorem norm_nodup : ∀ (ls : List Ln), (∀ l ∈ ls, many ls l.1 l.2 = 1) → (ls.map norm).Nodup := by
  intro ls
  induction ls with
  | nil => intro _; exact List.nodup_nil
  | cons l ls ih =>
    intro h
    have hc : ∀ a b, many (l :: ls) a b = many ls a b + (if joins a b l then 1 else 0) := fun a b => by
      unfold many
      by_cases e : joins a b l <;> simp [e]
    rw [List.map_cons, List.nodup_cons]
    refine ⟨fun hin => ?_, ih fun l' hl' => ?_⟩
    · obtain ⟨l', hl', e⟩ := List.mem_map.1 hin
      have h1 := h l List.mem_cons_self
      rw [hc, if_pos (by unfold joins; simp)] at h1
      have h2 : near ls l.1 l.2 = true := near_iff.2 ⟨l', hl', by
        unfold norm at e
        have e1 := congrArg Prod.fst e
        have e2 := congrArg Prod.snd e
        simp only at e1 e2
        omega⟩
      rw [many_near] at h2
      omega
    · have h1 := h l' (List.mem_cons_of_mem _ hl')
      rw [hc] at h1
      have := many_mem hl'
      omega
/-- as many bridges as lines -/
theorem br_count {n : Nat} {ls : List Ln} (hg : GoodG n ls) : AllBr n ls ↔ (bridgesL n ls).length = ls.length := by
  have hsub : ∀ (k : Nat) (_ : k < ls.length), ¬ near (bridgesL n ls) ls[k].1 ls[k].2 = true → ∀ q ∈ bridgesL n ls, q ∈ (ls.eraseIdx k).map norm := fun k hk hno q hq => by
    obtain ⟨l, hl, e⟩ := bridges_norm hg hq
    refine List.mem_map.2 ⟨l, ?_, e⟩
    rw [List.mem_eraseIdx_iff_getElem]
    obtain ⟨j, hj, rfl⟩ := List.mem_iff_getElem.1 hl
    refine ⟨j, hj, fun ejk => ?_, rfl⟩
    subst ejk
    apply hno
    rw [near_iff]
    refine ⟨q, hq, ?_⟩
    rw [← e]
    unfold norm
    simp only
    omega
  constructor
  · intro hb
    have h1 : ∀ l ∈ ls, many ls l.1 l.2 = 1 := fun l hl => by
      obtain ⟨x, y, rfl, _⟩ := line_nat hg hl
      exact ((near_bridges hg x y).1 (hb _ hl)).1
    have h2 : (bridgesL n ls).length ≤ (ls.map norm).length := (bridges_nodup hg).length_le_of_subset fun q hq => by
      obtain ⟨l, hl, e⟩ := bridges_norm hg hq
      exact List.mem_map.2 ⟨l, hl, e⟩
    have h3 : (ls.map norm).length ≤ (bridgesL n ls).length := (norm_nodup ls h1).length_le_of_subset fun q hq => by
      obtain ⟨l, hl, rfl⟩ := List.mem_map.1 hq
      obtain ⟨b, hb2, h⟩ := near_iff.1 (hb l hl)
      obtain ⟨x, y, rfl, hxy, _⟩ := mem_brUp hg hb2
      have : norm l = ((x : Int), (y : Int)) := by
        unfold norm
        simp only at h
        refine Prod.ext ?_ ?_
        · simp only; omega
        · simp only; omega
      rw [this]; exact hb2
    rw [List.length_map] at h2 h3
    omega
  · intro he l hl
    obtain ⟨k, hk, rfl⟩ := List.mem_iff_getElem.1 hl
    refine Classical.byContradiction fun hno => ?_
    have := (bridges_nodup hg).length_le_of_subset (hsub k hk hno)
    rw [List.length_map, List.length_eraseIdx_of_lt hk] at this
    omega
end Go.Proofs.Ytjeafgnaoncphaa


namespace Go.Proofs.Ytjeafgnaoncphaa
open Go.RowKit Gr

/-- S: of each point those that hang together with it -/
structure IsWith (n : Nat) (ls : List Ln) (S : List Nat) : Prop where
  len : S.length = n
  bit : ∀ i j, i < n → (adjS S i j ↔ Conn (beside n ls) i j)
  low : ∀ s ∈ S, s < 256

theorem good_take {n : Nat} {ls : List Ln} (hg : GoodG n ls) (k : Nat) : GoodG n (ls.take k) :=
  ⟨hg.1, hg.2.1, Nat.le_trans (by simp; omega) hg.2.2.1, fun l hl => hg.2.2.2 l (List.mem_of_mem_take hl)⟩
theorem adj_pow {n i j : Nat} (hi : i < n) : adjS ((List.range n).map fun i => 2 ^ i) i j ↔ i = j := by
  unfold adjS
  simp only [List.getElem?_map, List.getElem?_range hi, Option.map_some, Option.getD_some, Nat.testBit_two_pow, decide_eq_true_eq]
theorem with_start {n : Nat} (hn1 : 1 ≤ n) (hn : n ≤ 8) : IsWith n [] ((List.range n).map fun i => 2 ^ i) := by
  have hg : GoodG n [] := ⟨hn1, hn, by simp, fun l hl => by cases hl⟩
  refine ⟨by simp, fun i j hi => ?_, fun s hs => ?_⟩
  · rw [adj_pow hi]
    constructor
    · rintro rfl; exact Conn.refl _ _
    · intro h
      refine h (fun j => i = j) rfl (fun u v hu huv => ?_)
      rw [adj_near hg, near_iff] at huv
      obtain ⟨l, hl, _⟩ := huv
      cases hl
  · obtain ⟨i, hi, rfl⟩ := List.mem_map.1 hs
    have := List.mem_range.1 hi
    exact Nat.lt_of_lt_of_le (Nat.pow_lt_pow_right (by omega) (show i < 8 by omega)) (by decide)
theorem adj_snoc {n x y : Nat} {ls : List Ln} (hg : GoodG n ls) (hg' : GoodG n (ls ++ [((x : Int), (y : Int))])) (u v : Nat) :
    adjS (beside n (ls ++ [((x : Int), (y : Int))])) u v ↔ adjS (beside n ls) u v ∨ (u = x ∧ v = y) ∨ (u = y ∧ v = x) := by
  rw [adj_near hg', adj_near hg, near_iff, near_iff]
  constructor
  · rintro ⟨l, hl, h⟩
    rcases List.mem_append.1 hl with hl | hl
    · exact .inl ⟨l, hl, h⟩
    · rw [List.mem_singleton] at hl
      subst hl
      right
      simp only at h
      omega
  · rintro (⟨l, hl, h⟩ | h)
    · exact ⟨l, List.mem_append_left _ hl, h⟩
    · exact ⟨_, List.mem_append_right _ (List.mem_singleton.2 rfl), by simp only; omega⟩
/-- the ends hang together already -/
theorem with_skip {n x y : Nat} {ls : List Ln} {S : List Nat} (hg : GoodG n ls) (hg' : GoodG n (ls ++ [((x : Int), (y : Int))])) (h : IsWith n ls S) (hc : Conn (beside n ls) x y) : IsWith n (ls ++ [((x : Int), (y : Int))]) S := by
  have hs : Symm (beside n ls) := fun _ _ h => adj_symm hg h
  refine ⟨h.len, fun i j hi => ?_, h.low⟩
  rw [h.bit i j hi]
  constructor
  · exact Conn.mono fun u v huv => (adj_snoc hg hg' u v).2 (.inl huv)
  · intro k
    rcases conn_more (fun u v huv => (adj_snoc hg hg' u v).1 huv) k with h1 | ⟨h1, h2⟩ | ⟨h1, h2⟩
    · exact h1
    · exact (h1.trans hc).trans h2
    · exact (h1.trans (hc.symm hs)).trans h2
/-- b laid at all places of xs -/
def setAll (S : List Nat) (b : Nat) (xs : List Nat) : List Nat := xs.foldl (fun S x => S.set x b) S
theorem setAll_length (b : Nat) : ∀ (xs : List Nat) (S : List Nat), (setAll S b xs).length = S.length := by
  intro xs
  induction xs with
  | nil => intro S; rfl
  | cons x xs ih => intro S; show (setAll (S.set x b) b xs).length = _; rw [ih]; simp
theorem setAll_snoc (S : List Nat) (b : Nat) (xs : List Nat) (x : Nat) : setAll S b (xs ++ [x]) = (setAll S b xs).set x b := by
  unfold setAll; rw [List.foldl_append]; rfl
theorem setAll_get (b : Nat) : ∀ (xs : List Nat) (S : List Nat) (i : Nat), i < S.length → (setAll S b xs)[i]? = if i ∈ xs then some b else S[i]? := by
  intro xs
  induction xs with
  | nil => intro S i _; simp [setAll]
  | cons x xs ih =>
    intro S i hi
    show (setAll (S.set x b) b xs)[i]? = _
    rw [ih _ _ (by simpa using hi)]
    by_cases h1 : i ∈ xs
    · rw [if_pos h1, if_pos (List.mem_cons_of_mem _ h1)]
    · rw [if_neg h1, List.getElem?_set]
      by_cases h2 : x = i
      · subst h2
        rw [if_pos rfl, if_pos hi, if_pos List.mem_cons_self]
      · rw [if_neg h2, if_neg]
        rintro h3
        rcases List.mem_cons.1 h3 with h3 | h3
        · exact h2 h3.symm
        · exact h1 h3
theorem setAll_low {b : Nat} (hb : b < 256) : ∀ (xs : List Nat) (S : List Nat), (∀ s ∈ S, s < 256) → ∀ s ∈ setAll S b xs, s < 256 := by
  intro xs
  induction xs with
  | nil => intro S h; exact h
  | cons x xs ih =>
    intro S h
    refine ih _ fun s hs => ?_
    rcases List.mem_or_eq_of_mem_set hs with h1 | h1
    · exact h s h1
    · rw [h1]; exact hb
/-- the ends and all that hang with them -/
theorem with_join {n x y : Nat} {ls : List Ln} {S : List Nat} (hg : GoodG n ls) (hg' : GoodG n (ls ++ [((x : Int), (y : Int))])) (hx : x < n) (hy : y < n) (h : IsWith n ls S) {b : Nat} (hb : b = (S[x]?.getD 0) ||| (S[y]?.getD 0)) :
    IsWith n (ls ++ [((x : Int), (y : Int))]) (setAll S b ((elems b).map (·.val))) := by
  have hs : Symm (beside n ls) := fun _ _ h => adj_symm hg h
  have hs' : Symm (beside n (ls ++ [((x : Int), (y : Int))])) := fun _ _ h => adj_symm hg' h
  have hO := adj_bounded hg
  have hl := h.len
  have hb256 : b < 256 := by
    rw [hb, List.getElem?_eq_getElem (by omega), List.getElem?_eq_getElem (by omega)]
    exact Nat.or_lt_two_pow (n := 8) (h.low _ (List.getElem_mem _)) (h.low _ (List.getElem_mem _))
  have hbit : ∀ j, b.testBit j = true ↔ Conn (beside n ls) x j ∨ Conn (beside n ls) y j := fun j => by
    rw [hb, Nat.testBit_or, Bool.or_eq_true]
    exact or_congr (h.bit x j hx) (h.bit y j hy)
  have hin : ∀ i, i ∈ (elems b).map (·.val) ↔ Conn (beside n ls) x i ∨ Conn (beside n ls) y i := fun i => by
    rw [← hbit, List.mem_map]
    constructor
    · rintro ⟨p, hp, rfl⟩; exact mem_elems.1 hp
    · intro hi
      have hi8 : i < 8 := by
        rcases Nat.lt_or_ge i 8 with h1 | h1
        · exact h1
        · rw [Nat.testBit_lt_two_pow (Nat.lt_of_lt_of_le (show b < 2 ^ 8 from hb256) (Nat.pow_le_pow_right (by omega) h1))] at hi
          cases hi
      exact ⟨⟨i, hi8⟩, mem_elems.2 hi, rfl⟩
  have hup : ∀ {u v}, Conn (beside n ls) u v → Conn (beside n (ls ++ [((x : Int), (y : Int))])) u v := fun hc => Conn.mono (fun u v huv => (adj_snoc hg hg' u v).2 (.inl huv)) hc
  have hxy : Conn (beside n (ls ++ [((x : Int), (y : Int))])) x y := (Conn.refl _ _).step ((adj_snoc hg hg' x y).2 (.inr (.inl ⟨rfl, rfl⟩)))
  refine ⟨by rw [setAll_length]; exact hl, fun i j hi => ?_, setAll_low hb256 _ _ h.low⟩
  show ((setAll S b ((elems b).map (·.val)))[i]?.getD 0).testBit j = true ↔ _
  rw [setAll_get _ _ _ _ (by omega)]
  by_cases hi2 : i ∈ (elems b).map (·.val)
  · rw [if_pos hi2, Option.getD_some, hbit]
    have hi3 := (hin i).1 hi2
    have hix : Conn (beside n (ls ++ [((x : Int), (y : Int))])) i x := by
      rcases hi3 with h1 | h1
      · exact (hup h1).symm hs'
      · exact ((hup h1).symm hs').trans (hxy.symm hs')
    constructor
    · rintro (h1 | h1)
      · exact hix.trans (hup h1)
      · exact (hix.trans hxy).trans (hup h1)
    · intro k
      rcases conn_more (fun u v huv => (adj_snoc hg hg' u v).1 huv) k with h1 | ⟨_, h2⟩ | ⟨_, h2⟩
      · rcases hi3 with h3 | h3
        · exact .inl (h3.trans h1)
        · exact .inr (h3.trans h1)
      · exact .inr h2
      · exact .inl h2
  · rw [if_neg hi2]
    have hno : ¬ (Conn (beside n ls) x i ∨ Conn (beside n ls) y i) := fun k => hi2 ((hin i).2 k)
    refine (h.bit i j hi).trans ⟨hup, fun k => ?_⟩
    rcases conn_more (fun u v huv => (adj_snoc hg hg' u v).1 huv) k with h1 | ⟨h1, _⟩ | ⟨h1, _⟩
    · exact h1
    · exact absurd (.inl (h1.symm hs)) hno
    · exact absurd (.inr (h1.symm hs)) hno
/-- at the end: all hang together -/
theorem with_full {n : Nat} {ls : List Ln} {S : List Nat} (hg : GoodG n ls) (h : IsWith n ls S) : S[0]?.getD 0 = 2 ^ n - 1 ↔ ∀ v, v < n → Conn (beside n ls) 0 v := by
  have hn := hg.1
  constructor
  · intro e v hv
    refine (h.bit 0 v (by omega)).1 ?_
    show (S[0]?.getD 0).testBit v = true
    rw [e, Nat.testBit_two_pow_sub_one]
    simpa using hv
  · intro hc
    refine Nat.eq_of_testBit_eq fun v => ?_
    rw [Nat.testBit_two_pow_sub_one, Bool.eq_iff_iff, decide_eq_true_eq]
    exact (h.bit 0 v (by omega)).trans ⟨fun k => Conn.in_ (adj_bounded hg) k (by omega), hc v⟩
/-- a bridge is always used -/
theorem br_used {n k x y : Nat} {ls : List Ln} (hg : GoodG n ls) (hb : AllBr n ls) (hk : k < ls.length) (hxy : ls[k] = ((x : Int), (y : Int))) : ¬ Conn (beside n (ls.take k)) x y := by
  intro hc
  have hgt := good_take hg k
  have hgs : GoodG n (ls.take k ++ [((x : Int), (y : Int))]) := by
    have := good_take hg (k + 1)
    rwa [List.take_succ_eq_append_getElem hk, hxy] at this
  have hn := hb _ (List.getElem_mem hk)
  rw [hxy] at hn
  obtain ⟨m1, m2⟩ := (near_bridges hg x y).1 hn
  have m3 : many (ls.take k) (x : Int) (y : Int) = 0 := by
    have h1 : many (ls.take (k + 1)) (x : Int) (y : Int) ≤ many ls x y := by
      unfold many
      exact ((List.take_sublist _ _).filter _).length_le
    rw [List.take_succ_eq_append_getElem hk, many_snoc, hxy, if_pos (by unfold joins; simp)] at h1
    omega
  refine m2 fun T h0 hT => hc T h0 fun u v hu huv => ?_
  rw [adj_near hgt, many_near] at huv
  have huv2 : adjS (beside n ls) u v := by
    rw [adj_near hg, many_near]
    have : many (ls.take k) (u : Int) (v : Int) ≤ many ls u v := by
      unfold many
      exact ((List.take_sublist _ _).filter _).length_le
    omega
  refine hT u v hu huv2 ?_ ?_
  · rintro ⟨rfl, rfl⟩; omega
  · rintro ⟨rfl, rfl⟩; rw [many_swap] at m3; omega
end Go.Proofs.Ytjeafgnaoncphaa
