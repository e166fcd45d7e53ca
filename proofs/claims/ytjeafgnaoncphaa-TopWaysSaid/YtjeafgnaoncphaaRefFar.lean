/- What the document's distances of all points return: the walk. Conditions: in each statement. -/
import Derived.Test.YtjeafgnaoncphaaFrom
import Derived.Test.YtjeafgnaoncphaaBesideR
import Derived.Test.YtjeafgnaoncphaaPlainA
import Derived.Test.YtjeafgnaoncphaaGraph
namespace Go.Proofs.Ytjeafgnaoncphaa
open Go.RowKit Go.Shelf Gr

/-- a table of rows, each in a block of its own -/
structure FarM (n B : Nat) (w W : World) (vo : Value) (G : List Nat) (E : Nat → Nat → Int) : Prop where
  out : W.ownsRow B 28 1 vo G.length (G.map fun g => .slice (some ⟨g, 0, none⟩) n n)
  rows : ∀ i (h : i < G.length), W.ownsRow B 3 1 (.slice (some ⟨G[i], 0, none⟩) n n) n (ints ((List.range n).map (E i)))
  nd : G.Nodup
  apart : ∀ g ∈ G, vo.ownBlock ≠ some g
  below : Below B w W

theorem range_set {n b : Nat} (f : Nat → Int) (x : Int) : ((List.range n).map f).set b x = (List.range n).map (fun j => if j = b then x else f j) := by
  refine List.ext_getElem? fun i => ?_
  rw [List.getElem?_set]
  by_cases hi : i < n
  · by_cases h : b = i
    · subst h; simp [hi]
    · rw [if_neg h]
      simp [hi]
      intro e; exact absurd e.symm h
  · rw [List.getElem?_eq_none (l := (List.range n).map f) (by simp; omega), List.getElem?_eq_none (by simp; omega)]
    split
    · split
      · simp at *; omega
      · rfl
    · rfl

theorem FarM.of_eq {n B : Nat} {w W : World} {vo : Value} {G : List Nat} {E E' : Nat → Nat → Int} (h : FarM n B w W vo G E) (e : ∀ a b, E a b = E' a b) : FarM n B w W vo G E' := by
  have : E = E' := funext fun a => funext fun b => e a b
  rwa [← this]
theorem FarM.later {n B : Nat} {w W W' : World} {vo : Value} {G : List Nat} {E : Nat → Nat → Int} (h : FarM n B w W vo G E) (hb : Below W.heap.size W W') (hB : B ≤ W.heap.size) : FarM n B w W' vo G E :=
  ⟨owns_later h.out hb, fun i hi => owns_later (h.rows i hi) hb, h.nd, h.apart, h.below.trans (hb.mono hB)⟩
theorem nodup_inj {l : List Nat} (h : l.Nodup) {i j : Nat} (hi : i < l.length) (hj : j < l.length) : l[i] = l[j] ↔ i = j := by
  constructor
  · intro e
    have h' := List.pairwise_iff_getElem.1 h
    rcases Nat.lt_trichotomy i j with hl | hl | hl
    · exact absurd e (h' i j hi hj hl)
    · exact hl
    · exact absurd e.symm (h' j i hj hi hl)
  · rintro rfl; rfl
theorem FarM.set {n B : Nat} {w W : World} {vo : Value} {G : List Nat} {E : Nat → Nat → Int} (h : FarM n B w W vo G E) {i : Nat} (hi : i < G.length) (j : Nat) (x : Int) :
    FarM n B w (W.setCell ⟨G[i], j, none⟩ (.int .i64 x)) vo G (fun a b => if a = i ∧ b = j then x else E a b) := by
  have hg := grownBy_setCell_at W G[i] j (.int .i64 x)
  refine ⟨World.ownsRow.kept h.out hg (.inr (h.apart _ (List.getElem_mem hi))), fun a ha => ?_, h.nd, h.apart, h.below.setCell (p := ⟨G[i], j, none⟩) ((h.rows i hi).lt _ rfl).1 _⟩
  by_cases e : a = i
  · subst e
    have := ((h.rows a ha).stored j (.int .i64 x)).1
    rw [ints_set, range_set] at this
    simpa using this
  · have := World.ownsRow.kept (h.rows a ha) hg (.inr (by
      simp only [Value.ownBlock]
      intro e2
      exact e ((nodup_inj h.nd ha hi).1 (Option.some.inj e2))))
    simpa [e] using this

/-- one row more -/
theorem FarM.push {n B g : Nat} {w W W' : World} {vo v' : Value} {G : List Nat} {E : Nat → Nat → Int} {base : Nat} (h : FarM n B w W vo G E) (hr : W.ownsRow base 3 1 (.slice (some ⟨g, 0, none⟩) n n) n (ints ((List.range n).map (E G.length)))) (hb : B ≤ base) (hBW : B ≤ W.heap.size)
    (hG : ∀ x ∈ G, x ≠ g) (ho : vo.ownBlock ≠ some g) (hA : AppTo W B 28 1 vo W' v' (G.length + 1) ((G.map fun g => .slice (some ⟨g, 0, none⟩) n n) ++ [.slice (some ⟨g, 0, none⟩) n n])) : FarM n B w W' v' (G ++ [g]) E := by
  have kp : ∀ {x : Nat} {l : List Value} {b : Nat}, W.ownsRow b 3 1 (.slice (some ⟨x, 0, none⟩) n n) n l → vo.ownBlock ≠ some x → W'.ownsRow b 3 1 (.slice (some ⟨x, 0, none⟩) n n) n l := fun hx hne =>
    World.ownsRow.kept hx hA.grown (.inr (fun e => hne (by rw [← e]; rfl)))
  refine ⟨?_, fun i hi => ?_, ?_, fun x hx e => ?_, h.below.grown hA.grown hBW (fun k hk => (h.out.lt k hk).1)⟩
  · have := hA.own
    rw [List.length_append, List.map_append]
    exact this
  · by_cases e : i < G.length
    · rw [List.getElem_append_left e]
      exact kp (h.rows i e) (h.apart _ (List.getElem_mem e))
    · have e2 : i = G.length := by rw [List.length_append, List.length_singleton] at hi; omega
      subst e2
      rw [List.getElem_append_right (Nat.le_refl _)]
      simp only [Nat.sub_self, List.getElem_cons_zero]
      exact kp (owns_mono hr hb) ho
  · rw [List.nodup_append]
    refine ⟨h.nd, by simp, fun a ha b hb e => ?_⟩
    obtain rfl := List.mem_singleton.1 hb
    exact hG a ha e
  · have hxl : ∃ b l, W.ownsRow b 3 1 (.slice (some ⟨x, 0, none⟩) n n) n l ∧ vo.ownBlock ≠ some x := by
      rcases List.mem_append.1 hx with h1 | h1
      · obtain ⟨i, hi, rfl⟩ := List.mem_iff_getElem.1 h1
        exact ⟨_, _, h.rows i hi, h.apart _ h1⟩
      · obtain rfl := List.mem_singleton.1 h1
        exact ⟨_, _, hr, ho⟩
    obtain ⟨b, l, h1, h2⟩ := hxl
    rcases hA.at_ with e1 | e1
    · exact h2 (e1 ▸ e)
    · have := e1 x e
      have := (h1.lt x rfl).2
      omega

theorem owns_some' {w : World} {base : Nat} {e : TypeId} {size : Nat} {v : Value} {n : Nat} {xs : List Value} (h : w.ownsRow base e size v n xs) (hn : 0 < n) : ∃ g cap, v = .slice (some ⟨g, 0, none⟩) n cap := by
  rcases h.2 with ⟨rfl, rfl, _⟩ | ⟨g, cap, cur, rfl, _⟩
  · omega
  · exact ⟨g, cap, rfl⟩
theorem FarM.nil {n B : Nat} {w W : World} {E : Nat → Nat → Int} (hb : Below B w W) : FarM n B w W (.slice none 0 0) [] E :=
  ⟨World.ownsRow_nil _ _ _ _, fun i h => absurd h (by simp), List.nodup_nil, fun g h => absurd h (by simp), hb⟩

/-- row a after its first b numbers -/
def farPart (O : List Nat) (a b j : Nat) : Int := if j < b then far0 O a j else 0
theorem farPart_step (O : List Nat) (n a b : Nat) (x y : Int) (hy : y = far0 O a b) : (((List.range n).map (farPart O a b)).set b x).set b y = (List.range n).map (farPart O a (b + 1)) := by
  rw [List.set_set, range_set]
  refine List.map_congr_left fun j _ => ?_
  unfold farPart
  split
  · rename_i e; subst e; rw [if_pos (by omega), hy]
  · split
    · rw [if_pos (by omega)]
    · rw [if_neg (by omega)]
theorem farPart_one (O : List Nat) (n a b : Nat) (y : Int) (hy : y = far0 O a b) : ((List.range n).map (farPart O a b)).set b y = (List.range n).map (farPart O a (b + 1)) := by
  have := farPart_step O n a b y y hy
  rwa [List.set_set] at this

end Go.Proofs.Ytjeafgnaoncphaa
