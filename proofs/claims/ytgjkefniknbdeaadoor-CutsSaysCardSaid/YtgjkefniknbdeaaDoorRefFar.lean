/- What the document's distances of all points return: the walk. Conditions: in each statement. -/
import Derived.Test.YtgjkefniknbdeaaDoorFrom
import Derived.Test.YtgjkefniknbdeaaDoorBesideR
import Derived.Test.YtgjkefniknbdeaaDoorPlainA
import Derived.Test.YtgjkefniknbdeaaDoorGraph
namespace Go.Proofs.YtgjkefniknbdeaaDoor
open Go.RowKit Go.Shelf Gr

/-- a table of rows, each in a block of its own -/
structure FarM (n B : Nat) (w W : World) (vo : Value) (G : List Nat) (E : Nat → Nat → Int) : Prop where
  out : W.ownsRow B 22 1 vo G.length (G.map fun g => .slice (some ⟨g, 0, none⟩) n n)
  rows : ∀ i (h : i < G.length), W.ownsRow B 3 1 (.slice (some ⟨G[i], 0, none⟩) n n) n (ints ((List.range n).map (E i)))
  nd : G.Nodup
  apart : ∀ g ∈ G, vo.ownBlock ≠ some g
  below : Below B w W

theorem range_set {n b : Nat} (f : Nat → Int) (x : Int) : ((List.range n).map f).set b x = (List.range n).map (fun j => if j = b then x else f j) := by
  refine List.ext_getElem? fun i => ?_
  rw [List.getElem?_set]
  by_cases hi : i < n
  · by_cases h : b = i
    · subst h; simp [hi]
    · rw [if_neg h]
      simp [hi]
      intro e; exact absurd e.symm h
  · rw [List.getElem?_eq_none (l := (List.range n).map f) (by simp; omega), List.getElem?_eq_none (by simp; omega)]
    split
    · split
      · simp at *; omega
      · rfl
    · rfl

theorem FarM.of_eq {n B : Nat} {w W : World} {vo : Value} {G : List Nat} {E E' : Nat → Nat → Int} (h : FarM n B w W vo G E) (e : ∀ a b, E a b = E' a b) : FarM n B w W vo G E' := by
  have : E = E' := funext fun a => funext fun b => e a b
  rwa [← this]
theorem FarM.later {n B : Nat} {w W W' : World} {vo : Value} {G : List Nat} {E : Nat → Nat → Int} (h : FarM n B w W vo G E) (hb : Below W.heap.size W W') (hB : B ≤ W.heap.size) : FarM n B w W' vo G E :=
  ⟨owns_later h.out hb, fun i hi => owns_later (h.rows i hi) hb, h.nd, h.apart, h.below.trans (hb.mono hB)⟩
theorem nodup_inj {l : List Nat} (h : l.Nodup) {i j : Nat} (hi : i < l.length) (hj : j < l.length) : l[i] = l[j] ↔ i = j := by
  constructor
  · intro e
    have h' := List.pairwise_iff_getElem.1 h
    rcases Nat.lt_trichotomy i j with hl | hl | hl
    · exact absurd e (h' i j hi hj hl)
    · exact hl
    · exact absurd e.symm (h' j i hj hi hl)
  · rintro rfl; rfl
theorem FarM.set {n B : Nat} {w W : World} {vo : Value} {G : List Nat} {E : Nat → Nat → Int} (h : FarM n B w W vo G E) {i : Nat} (hi : i < G.length) (j : Nat) (x : Int) :
    FarM n B w (W.setCell ⟨G[i], j, none⟩ (.int .i64 x)) vo G (fun a b => if a = i ∧ b = j then x else E a b) := by
  have hg := grownBy_setCell_at W G[i] j (.int .i64 x)
  refine ⟨World.ownsRow.kept h.out hg (.inr (h.apart _ (List.getElem_mem hi))), fun a ha => ?_, h.nd, h.apart, h.below.setCell (p := ⟨G[i], j, none⟩) ((h.rows i hi).lt _ rfl).1 _⟩
  by_cases e : a = i
  · subst e
    have := ((h.rows a ha).stored j (.int .i64 x)).1
    rw [ints_set, range_set] at this
    simpa using this
  · have := World.ownsRow.kept (h.rows a ha) hg (.inr (by
      simp only [Value.ownBlock]
      intro e2
      exact e ((nodup_inj h.nd ha hi).1 (Option.some.inj e2))))
    simpa [e] using this

/-- one row more -/
theorem FarM.push {n B g : Nat} {w W W' : World} {vo v' : Value} {G : List Nat} {E : Nat → Nat → Int} {base : Nat} (h : FarM n B w W vo G E) (hr : W.ownsRow base 3 1 (.slice (some ⟨g, 0, none⟩) n n) n (ints ((List.range n).map (E G.length)))) (hb : B ≤ base) (hBW : B ≤ W.heap.size)
    (hG : ∀ x ∈ G, x ≠ g) (ho : vo.ownBlock ≠ some g) (hA : AppTo W B 22 1 vo W' v' (G.length + 1) ((G.map fun g => .slice (some ⟨g, 0, none⟩) n n) ++ [.slice (some ⟨g, 0, none⟩) n n])) : FarM n B w W' v' (G ++ [g]) E := by
  have kp : ∀ {x : Nat} {l : List Value} {b : Nat}, W.ownsRow b 3 1 (.slice (some ⟨x, 0, none⟩) n n) n l → vo.ownBlock ≠ some x → W'.ownsRow b 3 1 (.slice (some ⟨x, 0, none⟩) n n) n l := fun hx hne =>
    World.ownsRow.kept hx hA.grown (.inr (fun e => hne (by rw [← e]; rfl)))
  refine ⟨?_, fun i hi => ?_, ?_, fun x hx e => ?_, h.below.grown hA.grown hBW (fun k hk => (h.out.lt k hk).1)⟩
  · have := hA.own
    rw [List.length_append, List.map_append]
    exact this
  · by_cases e : i < G.length
    · rw [List.getElem_append_left e]
      exact kp (h.rows i e) (h.apart _ (List.getElem_mem e))
    · have e2 : i = G.length := by rw [List.length_append, List.length_singleton] at hi; omega
      subst e2
      rw [List.getElem_append_right (Nat.le_refl _)]
      simp only [Nat.sub_self, List.getElem_cons_zero]
      exact kp (owns_mono hr hb) ho
  · rw [List.nodup_append]
    refine ⟨h.nd, by simp, fun a ha b hb e => ?_⟩
    obtain rfl := List.mem_singleton.1 hb
    exact hG a ha e
  · have hxl : ∃ b l, W.ownsRow b 3 1 (.slice (some ⟨x, 0, none⟩) n n) n l ∧ vo.ownBlock ≠ some x := by
      rcases List.mem_append.1 hx with h1 | h1
      · obtain ⟨i, hi, rfl⟩ := List.mem_iff_getElem.1 h1
        exact ⟨_, _, h.rows i hi, h.apart _ h1⟩
      · obtain rfl := List.mem_singleton.1 h1
        exact ⟨_, _, hr, ho⟩
    obtain ⟨b, l, h1, h2⟩ := hxl
    rcases hA.at_ with e1 | e1
    · exact h2 (e1 ▸ e)
    · have := e1 x e
      have := (h1.lt x rfl).2
      omega

theorem owns_some' {w : World} {base : Nat} {e : TypeId} {size : Nat} {v : Value} {n : Nat} {xs : List Value} (h : w.ownsRow base e size v n xs) (hn : 0 < n) : ∃ g cap, v = .slice (some ⟨g, 0, none⟩) n cap := by
  rcases h.2 with ⟨rfl, rfl, _⟩ | ⟨g, cap, cur, rfl, _⟩
  · omega
  · exact ⟨g, cap, rfl⟩
theorem FarM.nil {n B : Nat} {w W : World} {E : Nat → Nat → Int} (hb : Below B w W) : FarM n B w W (.slice none 0 0) [] E :=
  ⟨World.ownsRow_nil _ _ _ _, fun i h => absurd h (by simp), List.nodup_nil, fun g h => absurd h (by simp), hb⟩

/-- row a after its first b numbers -/
def farPart (O : List Nat) (a b j : Nat) : Int := if j < b then far0 O a j else 0
theorem farPart_step (O : List Nat) (n a b : Nat) (x y : Int) (hy : y = far0 O a b) : (((List.range n).map (farPart O a b)).set b x).set b y = (List.range n).map (farPart O a (b + 1)) := by
  rw [List.set_set, range_set]
  refine List.map_congr_left fun j _ => ?_
  unfold farPart
  split
  · rename_i e; subst e; rw [if_pos (by omega), hy]
  · split
    · rw [if_pos (by omega)]
    · rw [if_neg (by omega)]
theorem farPart_one (O : List Nat) (n a b : Nat) (y : Int) (hy : y = far0 O a b) : ((List.range n).map (farPart O a b)).set b y = (List.range n).map (farPart O a (b + 1)) := by
  have := farPart_step O n a b y y hy
  rwa [List.set_set] at this

set_option maxRecDepth 100000 in
set_option maxHeartbeats 4000000 in
theorem refFar_ok (n : Nat) (v : Value) (ls : List Ln) (w : World) (hr : LinesRd w v ls) (hg : GoodG n ls) :
    Calls Tryd.prog 20 #[.int .i64 (n : Int), v, .bool true, .int .i64 (-1)] w fun e w' => ∃ (vo : Value) (G : List Nat), e = .returned vo ∧ G.length = n ∧ FarM n w.heap.size w w' vo G (farF (beside n ls) n) := by
  obtain ⟨i0, hi, hz0, hz1, hz2⟩ := info_parts info_int
  obtain ⟨i1, hi1, hy0, hy1, hy2⟩ := info_parts info_ints
  have hn1 := hg.1
  have hn8 := hg.2.1
  have HG := Lib.hid hg
  clear hg
  go_enter Tryd.func20, Tryd.ntmps20
  go_wp2_with fail
  go_loopw [9, 10] (fun vo aa wr => ∃ (a : Nat) (G : List Nat), a ≤ n ∧ aa = .int .i64 a ∧ G.length = a ∧ FarM n w.heap.size w wr vo G (far0 (beside n ls))) (fun _ aa _ => n - (intOf aa).toNat)
  case atStart => exact ⟨0, [], by omega, rfl, rfl, FarM.nil (Below.refl _ _)⟩
  case round =>
    obtain ⟨a, G, ha, rfl, hGl, hM⟩ := hrel
    obtain ⟨wa, hwa⟩ : ∃ wa, wa = wr := ⟨wr, rfl⟩
    subst hwa
    obtain ⟨ao, co, rfl⟩ := owns_slice hM.out
    have hws := hM.below.size
    have HGl := Lib.hid hGl
    have hGb : G.length ≤ 8 := by omega
    clear hGl
    by_cases hlt : a < n
    · have hai : (a : Int) < (n : Int) := by omega
      go_wp2_with (at_make; go_must (refine wpList_make_full _ rfl _ _ _ rfl wa.heap.size 3 i0 (.int .i64 0) 1 Tryd.underlying22 hi hz0 hz1 .i64 .i64 _ _ n rfl rfl rfl rfl (by rw [hz2]; omega) (by unfold maxLen; omega) (Nat.le_refl _) ?_); intro w1 hown hgr)
      have ez : (madeCells (Value.int .i64 0).cells (n * 1)).toList = ints ((List.range n).map (farPart (beside n ls) a 0)) := by
        rw [Nat.mul_one]; show (madeCells #[Value.int .i64 0] n).toList = _
        rw [toList_madeCells_one]
        refine List.ext_getElem? fun i => ?_
        by_cases hi : i < n
        · simp [hi, farPart]
        · rw [List.getElem?_eq_none (by simp; omega), List.getElem?_eq_none (by simp; omega)]
      rw [ez] at hown
      have hB1 := below_iff_grown.2 hgr
      clear ez hgr
      go_loopw [12] (fun bb wx => ∃ b : Nat, b ≤ n ∧ bb = .int .i64 b ∧ wx.ownsRow wa.heap.size 3 1 (.slice (some ⟨wa.heap.size, 0, none⟩) n n) n (ints ((List.range n).map (farPart (beside n ls) a b))) ∧ Below wa.heap.size wa wx) (fun bb _ => n - (intOf bb).toNat)
      case atStart => exact ⟨0, by omega, rfl, hown, hB1⟩
      case round =>
        clear hown hB1
        obtain ⟨b, hb, rfl, hor, hB⟩ := hrel
        have hrl := hr.later (hM.below.trans (hB.mono hws))
        by_cases hlb : b < n
        · have hbi : (b : Int) < (n : Int) := by omega
          have hck := owns_at hor (k := b) (u := .int .i64 (farPart (beside n ls) a b b)) (by simp [hlb])
          have hfk := hor.frozenAt b
          have own1 := (hor.stored b (.int .i64 (-1))).1
          have hck1 := owns_at own1 (k := b) (u := .int .i64 (-1)) (by simp [hlb])
          have hfk1 := own1.frozenAt b
          have hB1 := hB.setCell (p := ⟨wa.heap.size, b, none⟩) (Nat.le_refl _) (.int .i64 (-1))
          have HF := Lib.hid (farPart_step (beside n ls) n a b)
          have HAN : Hid (((beside n ls)[a]?.getD 0).testBit b = true ↔ near ls (a : Int) (b : Int) = true) := adj_near HG.out a b
          by_cases hab : a = b
          · subst hab
            have own2 := (own1.stored a (.int .i64 0)).1
            rw [ints_set, ints_set, HF.out (-1) 0 (by simp [far0])] at own2
            have hB2 := hB1.setCell (p := ⟨wa.heap.size, a, none⟩) (Nat.le_refl _) (.int .i64 0)
            clear own1 hor
            go_wp2
            go_roundw
            case rel => exact ⟨a + 1, by omega, by go_num, own2, hB2⟩
            case measure => simp [intOf]; omega
          · have hne : ((a : Int) == (b : Int)) = false := by rw [beq_eq_false_iff_ne]; omega
            have hn1' : ((a : Int) != -1) = true := by simp
            have hn2' : ((b : Int) != -1) = true := by simp
            have KG := fun w hw => goes_any v ls (a : Int) (b : Int) w hw
            have KH := fun w hw => goes_any v ls (b : Int) (a : Int) w hw
            have own2 := (own1.stored b (.int .i64 1)).1
            rw [ints_set, ints_set] at own2
            rw [ints_set] at own1
            have hB2 := hB1.setCell (p := ⟨wa.heap.size, b, none⟩) (Nat.le_refl _) (.int .i64 1)
            have hrl1 := hr.later (hM.below.trans (hB1.mono hws))
            have HAB := Lib.hid hab
            cases hg1 : goes ls (a : Int) (b : Int) with
            | true =>
              rw [hg1] at KG
              have HADJ : far0 (beside n ls) a b = 1 := by
                unfold far0
                rw [if_neg hab, if_pos (HAN.out.2 (by unfold near; rw [hg1]; rfl))]
              rw [HF.out (-1) 1 HADJ.symm] at own2
              clear own1 hor hab
              go_wp2_with fail
              refine (KG _ hrl1).mono ?_
              rintro e w' ⟨rfl, rfl⟩
              go_wp2
              go_roundw
              case rel => exact ⟨b + 1, by omega, by go_num, own2, hB2⟩
              case measure => simp [intOf]; omega
            | false =>
              rw [hg1] at KG
              cases hg2 : goes ls (b : Int) (a : Int) with
              | true =>
                rw [hg2] at KH
                have HADJ : far0 (beside n ls) a b = 1 := by
                  unfold far0
                  rw [if_neg hab, if_pos (HAN.out.2 (by unfold near; rw [hg1, hg2]; rfl))]
                rw [HF.out (-1) 1 HADJ.symm] at own2
                clear own1 hor hab
                go_wp2_with fail
                refine (KG _ hrl1).mono ?_
                rintro e w' ⟨rfl, rfl⟩
                go_wp2_with fail
                refine (KH _ hrl1).mono ?_
                rintro e w' ⟨rfl, rfl⟩
                go_wp2
                go_roundw
                case rel => exact ⟨b + 1, by omega, by go_num, own2, hB2⟩
                case measure => simp [intOf]; omega
              | false =>
                rw [hg2] at KH
                have HADJ : far0 (beside n ls) a b = -1 := by
                  unfold far0
                  rw [if_neg hab, if_neg (fun h => by have := HAN.out.1 h; unfold near at this; rw [hg1, hg2] at this; cases this)]
                rw [farPart_one (beside n ls) n a b (-1) HADJ.symm] at own1
                clear own2 hor hab hB2
                go_wp2_with fail
                refine (KG _ hrl1).mono ?_
                rintro e w' ⟨rfl, rfl⟩
                go_wp2_with fail
                refine (KH _ hrl1).mono ?_
                rintro e w' ⟨rfl, rfl⟩
                go_wp2
                go_roundw
                case rel => exact ⟨b + 1, by omega, by go_num, own1, hB1⟩
                case measure => simp [intOf]; omega
        · obtain rfl : n = b := by omega
          have er : (List.range n).map (farPart (beside n ls) a n) = (List.range n).map (far0 (beside n ls) G.length) := by
            refine List.map_congr_left fun j hj => ?_
            unfold farPart
            rw [if_pos (List.mem_range.1 hj), HGl.out]
          rw [er] at hor
          have hM2 := hM.later hB hws
          have hws2 := hM2.below.size
          have hGn : ∀ x ∈ G, x ≠ wa.heap.size := fun x hx e => by
            obtain ⟨i, hi, rfl⟩ := List.mem_iff_getElem.1 hx
            have := ((hM.rows i hi).lt G[i] rfl).2
            omega
          have hon : (Value.slice ao G.length co).ownBlock ≠ some wa.heap.size := fun e => by
            have := (hM.out.lt _ e).2
            omega
          have hB2 := hB.size
          clear er hM
          go_wp2_with (at_builtin; go_must (refine wpl_app _ _ _ (AppTo.refl hM2.out) rfl rfl Tryd.underlying45 hi1 hy0 hy1 hy2 rfl (by decide) rfl rfl rfl (by simp [Value.oneCell']) (by decide) (by omega) hws2 ?_); intro v1 w1 hA1 hne1 hst1)
          have hP := hM2.push hor (by omega) hws2 hGn hon hA1
          go_roundw
          case rel => exact ⟨a + 1, G ++ [wa.heap.size], by omega, by go_num, by simp [HGl.out], hP⟩
          case measure => simp [intOf]; omega
    · obtain rfl : n = a := by omega
      have hM2 : FarM n w.heap.size w wa (.slice ao G.length co) G (farF (beside n ls) 0) := hM.of_eq fun _ _ => rfl
      clear hM hlt ha
      have hGp : 0 < G.length := by rw [HGl.out]; omega
      obtain ⟨go, co', e⟩ := owns_some' hM2.out hGp
      cases e
      go_wp2_with fail
      go_loopw [13] (fun kk wr => ∃ k : Nat, k ≤ n ∧ kk = .int .i64 k ∧ FarM n w.heap.size w wr (.slice (some ⟨go, 0, none⟩) G.length co) G (farF (beside n ls) k)) (fun kk _ => n - (intOf kk).toNat)
      case atStart => exact ⟨0, by omega, rfl, hM2⟩
      case round =>
        clear hM2
        obtain ⟨k, hk, rfl, hM⟩ := hrel
        by_cases hlk : k < n
        · have hki : (k : Int) < (n : Int) := by omega
          have hkG : k < G.length := by rw [HGl.out]; exact hlk
          have hkGi : (k : Int) < (G.length : Int) := by omega
          go_wp2_with fail
          go_loopw [14] (fun aa wr => ∃ a : Nat, a ≤ n ∧ aa = .int .i64 a ∧ FarM n w.heap.size w wr (.slice (some ⟨go, 0, none⟩) G.length co) G (fun x y => if x < a then farF (beside n ls) (k + 1) x y else farF (beside n ls) k x y)) (fun aa _ => n - (intOf aa).toNat)
          case atStart => exact ⟨0, by omega, rfl, hM.of_eq fun x y => by rw [if_neg (by omega)]⟩
          case round =>
            clear hM
            obtain ⟨a, ha, rfl, hM⟩ := hrel
            by_cases hla : a < n
            · have hai : (a : Int) < (n : Int) := by omega
              have haG : a < G.length := by rw [HGl.out]; exact hla
              have haGi : (a : Int) < (G.length : Int) := by omega
              go_wp2_with fail
              go_loopw [15] (fun bb wr => ∃ b : Nat, b ≤ n ∧ bb = .int .i64 b ∧ FarM n w.heap.size w wr (.slice (some ⟨go, 0, none⟩) G.length co) G (fun x y => if x < a ∨ (x = a ∧ y < b) then farF (beside n ls) (k + 1) x y else farF (beside n ls) k x y)) (fun bb _ => n - (intOf bb).toNat)
              case atStart =>
                refine ⟨0, by omega, rfl, hM.of_eq fun x y => ?_⟩
                by_cases e : x < a
                · rw [if_pos e, if_pos (.inl e)]
                · rw [if_neg e, if_neg (by omega)]
              case round =>
                clear hM
                obtain ⟨b, hb, rfl, hM⟩ := hrel
                have hws := hM.below.size
                by_cases hlb : b < n
                · have hbi : (b : Int) < (n : Int) := by omega
                  have o1 := owns_at hM.out (k := a) (u := .slice (some ⟨G[a], 0, none⟩) n n) (by simp [haG])
                  have o2 := owns_at hM.out (k := k) (u := .slice (some ⟨G[k], 0, none⟩) n n) (by simp [hkG])
                  have r1 := owns_at (hM.rows a haG) (k := k) (u := .int .i64 (farF (beside n ls) k a k)) (by
                    simp only [List.getElem?_map, List.getElem?_range hlk, Option.map_some]
                    split
                    · rw [far_col]
                    · rfl)
                  have r2 := owns_at (hM.rows k hkG) (k := b) (u := .int .i64 (farF (beside n ls) k k b)) (by
                    simp only [List.getElem?_map, List.getElem?_range hlb, Option.map_some]
                    split
                    · rw [far_row]
                    · rfl)
                  have r3 := owns_at (hM.rows a haG) (k := b) (u := .int .i64 (farF (beside n ls) k a b)) (by
                    simp only [List.getElem?_map, List.getElem?_range hlb, Option.map_some]
                    rw [if_neg (by omega)])
                  have fz := (hM.rows a haG).frozenAt b
                  have s1 := far_small (beside n ls) (show k ≤ 8 by omega) a k
                  have s2 := far_small (beside n ls) (show k ≤ 8 by omega) k b
                  have HDEF : Hid (farF (beside n ls) (k + 1) a b = if 0 ≤ farF (beside n ls) k a k ∧ 0 ≤ farF (beside n ls) k k b ∧ (farF (beside n ls) k a b < 0 ∨ farF (beside n ls) k a k + farF (beside n ls) k k b < farF (beside n ls) k a b) then farF (beside n ls) k a k + farF (beside n ls) k k b else farF (beside n ls) k a b) := rfl
                  have HR : Hid (farF (beside n ls) k a b = farF (beside n ls) k a b) := rfl
                  generalize hp : farF (beside n ls) k a k = p at *
                  generalize hq : farF (beside n ls) k k b = q at *
                  generalize hr' : farF (beside n ls) k a b = r at *
                  have HRR := Lib.hid hr'
                  clear hp hq hr' HR
                  have wpq : IntKind.i64.wrap (p + q) = p + q := IntWalk.i64_in _ (by omega)
                  have HKEEP : Hid (¬ (0 ≤ p ∧ 0 ≤ q ∧ (r < 0 ∨ p + q < r)) → ∀ W', Below _ _ W' → FarM n w.heap.size w W' (.slice (some ⟨go, 0, none⟩) G.length co) G (fun x y => if x < a ∨ (x = a ∧ y < b + 1) then farF (beside n ls) (k + 1) x y else farF (beside n ls) k x y)) := fun hno W' hB => by
                    refine (hM.later hB hws).of_eq fun x y => ?_
                    by_cases e : x = a ∧ y = b
                    · obtain ⟨rfl, rfl⟩ := e
                      rw [if_neg (by omega), if_pos (by omega), HDEF.out, if_neg hno, HRR.out]
                    · by_cases e2 : x < a ∨ (x = a ∧ y < b)
                      · rw [if_pos e2, if_pos (by omega)]
                      · rw [if_neg e2, if_neg (by omega)]
                  by_cases hp : 0 ≤ p
                  · have dp : decide (p ≥ 0) = true := by simp; exact hp
                    by_cases hq : 0 ≤ q
                    · have dq : decide (q ≥ 0) = true := by simp; exact hq
                      by_cases hyes : r < 0 ∨ p + q < r
                      · have HV : Hid (∀ V, Below wr.heap.size wr V → V.cell? ⟨go, a, none⟩ = some (.slice (some ⟨G[a], 0, none⟩) n n) ∧ V.cell? ⟨go, k, none⟩ = some (.slice (some ⟨G[k], 0, none⟩) n n) ∧
                            V.cell? ⟨G[a], k, none⟩ = some (.int .i64 p) ∧ V.cell? ⟨G[k], b, none⟩ = some (.int .i64 q) ∧ V.cell? ⟨G[a], b, none⟩ = some (.int .i64 r) ∧ V.frozen? ⟨G[a], b, none⟩ = false ∧
                            FarM n w.heap.size w (V.setCell ⟨G[a], b, none⟩ (.int .i64 (p + q))).drew (.slice (some ⟨go, 0, none⟩) G.length co) G (fun x y => if x < a ∨ (x = a ∧ y < b + 1) then farF (beside n ls) (k + 1) x y else farF (beside n ls) k x y)) := by
                          show ∀ V, _ → _
                          intro V hVB
                          have hMV := hM.later hVB hws
                          have hlo := hM.out.lt go rfl
                          have hla' := (hM.rows a haG).lt G[a] rfl
                          have hlk' := (hM.rows k hkG).lt G[k] rfl
                          refine ⟨(hVB.cell (p := ⟨go, a, none⟩) hlo.2).trans o1, (hVB.cell (p := ⟨go, k, none⟩) hlo.2).trans o2, (hVB.cell (p := ⟨G[a], k, none⟩) hla'.2).trans r1, (hVB.cell (p := ⟨G[k], b, none⟩) hlk'.2).trans r2, (hVB.cell (p := ⟨G[a], b, none⟩) hla'.2).trans r3, (hMV.rows a haG).frozenAt b, ?_⟩
                          have hS := (hMV.set haG b (p + q)).of_eq (E' := fun x y => if x < a ∨ (x = a ∧ y < b + 1) then farF (beside n ls) (k + 1) x y else farF (beside n ls) k x y) (fun x y => by
                            by_cases e : x = a ∧ y = b
                            · obtain ⟨rfl, rfl⟩ := e
                              rw [if_pos ⟨rfl, rfl⟩, if_pos (by omega), HDEF.out, if_pos ⟨hp, hq, hyes⟩]
                            · rw [if_neg e]
                              by_cases e2 : x < a ∨ (x = a ∧ y < b)
                              · rw [if_pos e2, if_pos (by omega)]
                              · rw [if_neg e2, if_neg (by omega)])
                          exact hS.later (Below.refl _ _).drew (by have := hVB.size; simp [World.setCell]; omega)
                        clear HKEEP
                        generalize G[a] = ga at *
                        generalize G[k] = gk at *
                        by_cases hr0 : r < 0
                        · have dr : decide (r < 0) = true := by simp; exact hr0
                          clear hyes
                          go_wp2_with fail
                          go_quiet (fail)
                          obtain ⟨v1, v2, v3, v4, v5, v6, hFin⟩ := HV.out _ (below_drewN' _ nq)
                          have HFin := Lib.hid hFin
                          clear hFin
                          generalize World.drewN _ nq = V at *
                          clear o1 o2 r1 r2 r3 fz
                          go_wp2_with fail
                          refine wp_region_still_tail 21 (by kernel_rfl) (by kernel_rfl) ?_
                          simp only [List.take_succ_cons, List.take_zero, List.drop_succ_cons, List.drop_zero]
                          change wpStill _ _ (World.drew _) _ _ _
                          repeat still_step
                          refine wpStill_nil ?_
                          change wpList _ _ _ _ _ (World.drew _)
                          go_wp2
                          go_roundw
                          case rel => exact ⟨b + 1, by omega, by go_num, HFin.out⟩
                          case measure => simp [intOf]; omega
                        · have dr : decide (r < 0) = false := by simp; omega
                          have ds : decide (p + q < r) = true := by simp; omega
                          clear hyes
                          go_wp2_with fail
                          go_quiet (fail)
                          obtain ⟨v1, v2, v3, v4, v5, v6, hFin⟩ := HV.out _ (below_drewN' _ nq)
                          have HFin := Lib.hid hFin
                          clear hFin
                          generalize World.drewN _ nq = V at *
                          clear o1 o2 r1 r2 r3 fz
                          go_wp2_with fail
                          refine wp_region_still_tail 21 (by kernel_rfl) (by kernel_rfl) ?_
                          simp only [List.take_succ_cons, List.take_zero, List.drop_succ_cons, List.drop_zero]
                          change wpStill _ _ (World.drew _) _ _ _
                          repeat still_step
                          refine wpStill_nil ?_
                          change wpList _ _ _ _ _ (World.drew _)
                          go_wp2
                          go_roundw
                          case rel => exact ⟨b + 1, by omega, by go_num, HFin.out⟩
                          case measure => simp [intOf]; omega
                      · have hr0 : ¬ r < 0 := fun h => hyes (.inl h)
                        have hpr : ¬ p + q < r := fun h => hyes (.inr h)
                        have HNO := Lib.hid (HKEEP.out (by omega))
                        have dr : decide (r < 0) = false := by simp; omega
                        have ds : decide (p + q < r) = false := by simp; omega
                        clear hyes
                        generalize G[a] = ga at *
                        generalize G[k] = gk at *
                        go_wp2_with fail
                        go_quiet (fail)
                        go_wp2
                        go_roundw
                        case rel => exact ⟨b + 1, by omega, by go_num, HNO.out _ (below_drewN' _ _)⟩
                        case measure => simp [intOf]; omega
                    · have HNO := Lib.hid (HKEEP.out (by omega))
                      have dq : decide (q ≥ 0) = false := by simp; omega
                      generalize G[a] = ga at *
                      generalize G[k] = gk at *
                      go_wp2_with fail
                      go_quiet (fail)
                      go_wp2
                      go_roundw
                      case rel => exact ⟨b + 1, by omega, by go_num, HNO.out _ (below_drewN' _ _)⟩
                      case measure => simp [intOf]; omega
                  · have HNO := Lib.hid (HKEEP.out (by omega))
                    have dp : decide (p ≥ 0) = false := by simp; omega
                    generalize G[a] = ga at *
                    generalize G[k] = gk at *
                    go_wp2_with fail
                    go_quiet (fail)
                    go_wp2
                    go_roundw
                    case rel => exact ⟨b + 1, by omega, by go_num, HNO.out _ (below_drewN' _ _)⟩
                    case measure => simp [intOf]; omega
                · obtain rfl : n = b := by omega
                  have hM3 : FarM n w.heap.size w wr (.slice (some ⟨go, 0, none⟩) G.length co) G (fun x y => if x < a + 1 then farF (beside n ls) (k + 1) x y else farF (beside n ls) k x y) := by
                    refine ⟨hM.out, fun i h => ?_, hM.nd, hM.apart, hM.below⟩
                    have := hM.rows i h
                    have e : (List.range n).map (fun y => if i < a ∨ (i = a ∧ y < n) then farF (beside n ls) (k + 1) i y else farF (beside n ls) k i y) = (List.range n).map (fun y => if i < a + 1 then farF (beside n ls) (k + 1) i y else farF (beside n ls) k i y) := by
                      refine List.map_congr_left fun y hy => ?_
                      have := List.mem_range.1 hy
                      by_cases e2 : i < a + 1
                      · rw [if_pos (by omega), if_pos e2]
                      · rw [if_neg (by omega), if_neg e2]
                    rwa [e] at this
                  clear hM
                  go_wp2
                  go_roundw
                  case rel => exact ⟨a + 1, by omega, by go_num, hM3⟩
                  case measure => simp [intOf]; omega
            · obtain rfl : n = a := by omega
              have hM3 : FarM n w.heap.size w wr (.slice (some ⟨go, 0, none⟩) G.length co) G (farF (beside n ls) (k + 1)) := by
                refine ⟨hM.out, fun i h => ?_, hM.nd, hM.apart, hM.below⟩
                have := hM.rows i h
                have e : i < n := by rw [← HGl.out]; exact h
                simpa [e] using this
              clear hM
              go_wp2
              go_roundw
              case rel => exact ⟨k + 1, by omega, by go_num, hM3⟩
              case measure => simp [intOf]; omega
        · obtain rfl : n = k := by omega
          go_wp2
          go_ret
          exact ⟨_, G, rfl, HGl.out, hM⟩

end Go.Proofs.YtgjkefniknbdeaaDoor
