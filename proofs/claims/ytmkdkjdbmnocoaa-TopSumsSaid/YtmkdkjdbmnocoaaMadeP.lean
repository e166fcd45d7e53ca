/- The lines that are made for so many each: plain. What is made has just so many beside each, and what has so many can be made. Conditions: in each statement. -/
import Derived.Test.YtmkdkjdbmnocoaaGalP
import Derived.Test.YtmkdkjdbmnocoaaDegW
namespace Go.Proofs.Ytmkdkjdbmnocoaa.Gr

/-- what the lines are that are made of N -/
structure Made (N : List Nat) (L : List Ln) : Prop where
  ends : ∀ l ∈ L, ∃ a b : Nat, a < b ∧ b < N.length ∧ 1 ≤ val N a ∧ 1 ≤ val N b ∧ l = ((a : Int), (b : Int))
  once : L.Nodup
  sum : 2 * L.length = N.sum
  deg : ∀ i, i < N.length → dg (rN L) N.length i = val N i

theorem pair_of {a i : Nat} (h : i ≠ a) : ∃ x y : Nat, x < y ∧ ((x = a ∧ y = i) ∨ (x = i ∧ y = a)) ∧ pairL a i = ((x : Int), (y : Int)) := by
  unfold pairL
  rcases Nat.lt_or_ge a i with h1 | h1
  · exact ⟨a, i, h1, .inl ⟨rfl, rfl⟩, by rw [Int.min_eq_left (by omega), Int.max_eq_right (by omega)]⟩
  · exact ⟨i, a, by omega, .inr ⟨rfl, rfl⟩, by rw [Int.min_eq_right (by omega), Int.max_eq_left (by omega)]⟩
theorem pair_inj {a i j : Nat} (h : pairL a i = pairL a j) : i = j := by
  unfold pairL at h
  have h1 := congrArg Prod.fst h
  have h2 := congrArg Prod.snd h
  simp only at h1 h2
  omega
theorem near_app (K L : List Ln) (a b : Int) : near (K ++ L) a b = (near K a b || near L a b) := by
  rw [Bool.eq_iff_iff, Bool.or_eq_true, near_iff, near_iff, near_iff]
  constructor
  · rintro ⟨l, hl, h⟩
    rcases List.mem_append.1 hl with hl | hl
    · exact .inl ⟨l, hl, h⟩
    · exact .inr ⟨l, hl, h⟩
  · rintro (⟨l, hl, h⟩ | ⟨l, hl, h⟩)
    · exact ⟨l, List.mem_append_left _ hl, h⟩
    · exact ⟨l, List.mem_append_right _ hl, h⟩
theorem near_pairs (T : List Nat) (a x y : Nat) : near (T.map (pairL a)) (x : Int) (y : Int) = true ↔ (x = a ∧ y ∈ T) ∨ (y = a ∧ x ∈ T) := by
  rw [near_iff]
  constructor
  · rintro ⟨l, hl, h⟩
    obtain ⟨i, hi, rfl⟩ := List.mem_map.1 hl
    unfold pairL at h
    simp only at h
    by_cases hx : x = a
    · left
      refine ⟨hx, ?_⟩
      have : y = i := by omega
      rw [this]; exact hi
    · right
      have h1 : y = a := by omega
      have h2 : x = i := by omega
      exact ⟨h1, by rw [h2]; exact hi⟩
  · rintro (⟨rfl, h⟩ | ⟨rfl, h⟩)
    · refine ⟨_, List.mem_map_of_mem h, ?_⟩
      unfold pairL
      simp only
      omega
    · refine ⟨_, List.mem_map_of_mem h, ?_⟩
      unfold pairL
      simp only
      omega
theorem count_in {T : List Nat} (hn : T.Nodup) {n : Nat} (h : ∀ i ∈ T, i < n) : ((List.range n).filter fun b => decide (b ∈ T)).length = T.length := by
  refine List.Perm.length_eq ((List.perm_ext_iff_of_nodup (List.Pairwise.filter _ List.nodup_range) hn).2 fun b => ?_)
  rw [List.mem_filter, List.mem_range, decide_eq_true_eq]
  exact ⟨fun h => h.2, fun hb => ⟨h b hb, hb⟩⟩

/-- one round more -/
theorem made_step {N : List Nat} {L : List Ln} (h0 : 0 < N.length) (hp : ¬ (ordN N (atUp N N.length)).length < val N (atUp N N.length)) (hp0 : val N (atUp N N.length) ≠ 0) (hz : ∀ i ∈ takeN N, 1 ≤ val N i) (h : Made (nextN N) L) : Made N ((takeN N).map (pairL (atUp N N.length)) ++ L) := by
  have ha := (atUp_ok N N.length h0).1
  have hnv := nextN_val (N := N) h0
  have hnl := nextN_length N
  have hns := nextN_sum h0 hp hz
  have htl := takeN_length hp
  have htm := fun i => takeN_mem (N := N) (i := i)
  have htn := takeN_nodup N
  generalize atUp N N.length = a at *
  generalize takeN N = T at *
  have hva : val (nextN N) a = 0 := by rw [hnv, if_pos rfl]
  have hle : ∀ i, val (nextN N) i ≤ val N i := fun i => by
    rw [hnv]
    split
    · omega
    · split <;> omega
  have hna : ∀ b : Nat, near L (a : Int) (b : Int) = false := fun b => by
    rw [Bool.eq_false_iff]
    intro h1
    obtain ⟨l, hl, h2⟩ := near_iff.1 h1
    obtain ⟨x, y, _, _, g1, g2, rfl⟩ := h.ends l hl
    simp only at h2
    have : x = a ∨ y = a := by omega
    rcases this with e | e
    · rw [e, hva] at g1; omega
    · rw [e, hva] at g2; omega
  refine ⟨fun l hl => ?_, ?_, ?_, fun i hi => ?_⟩
  · rcases List.mem_append.1 hl with hl | hl
    · obtain ⟨i, hi, rfl⟩ := List.mem_map.1 hl
      obtain ⟨g1, g2⟩ := htm i hi
      obtain ⟨x, y, k1, k2, k3⟩ := pair_of g2
      have := hz i hi
      refine ⟨x, y, k1, ?_, ?_, ?_, k3⟩
      · rcases k2 with ⟨rfl, rfl⟩ | ⟨rfl, rfl⟩
        · exact g1
        · exact ha
      · rcases k2 with ⟨rfl, rfl⟩ | ⟨rfl, rfl⟩ <;> omega
      · rcases k2 with ⟨rfl, rfl⟩ | ⟨rfl, rfl⟩ <;> omega
    · obtain ⟨x, y, g0, g1, g2, g3, e⟩ := h.ends l hl
      exact ⟨x, y, g0, by rw [← hnl]; exact g1, Nat.le_trans g2 (hle x), Nat.le_trans g3 (hle y), e⟩
  · refine List.nodup_append.2 ⟨?_, h.once, ?_⟩
    · exact List.pairwise_map.2 (htn.imp fun hxy e => hxy (pair_inj e))
    · intro l hl l' hl' e
      subst e
      obtain ⟨i, hi, rfl⟩ := List.mem_map.1 hl
      have := near_iff.2 ⟨_, hl', show ((pairL a i).1 = (a : Int) ∧ (pairL a i).2 = (i : Int)) ∨ ((pairL a i).1 = (i : Int) ∧ (pairL a i).2 = (a : Int)) by unfold pairL; simp only; omega⟩
      rw [hna] at this
      cases this
  · rw [List.length_append, List.length_map, htl]
    have := h.sum
    omega
  · have hR : ∀ x y : Nat, rN (T.map (pairL a) ++ L) x y = (near (T.map (pairL a)) (x : Int) (y : Int) || rN L x y) := fun x y => near_app _ _ _ _
    have hd := h.deg i (by rw [hnl]; exact hi)
    rw [hnl] at hd
    unfold dg at hd ⊢
    by_cases e : i = a
    · subst e
      have : ((List.range N.length).filter fun b => rN (T.map (pairL i) ++ L) i b) = (List.range N.length).filter fun b => decide (b ∈ T) := List.filter_congr fun b _ => by
        rw [hR, Bool.eq_iff_iff, Bool.or_eq_true, near_pairs, decide_eq_true_eq]
        constructor
        · rintro ((⟨_, h⟩ | ⟨_, h⟩) | h)
          · exact h
          · exact absurd rfl (htm i h).2
          · rw [show rN L i b = near L (i : Int) (b : Int) from rfl, hna] at h; cases h
        · intro h; exact .inl (.inl ⟨rfl, h⟩)
      rw [this, count_in htn (fun j hj => (htm j hj).1), htl]
    · have hia : rN L i a = false := by rw [rN_symm]; exact hna i
      by_cases hT : i ∈ T
      · have hvi : val (nextN N) i = val N i - 1 := by rw [hnv, if_neg e, if_pos hT]
        have h1 := hz i hT
        have e1 : ∀ b, rN (T.map (pairL a) ++ L) i b = (decide (b = a) || rN L i b) := fun b => by
          rw [hR]
          congr 1
          rw [Bool.eq_iff_iff, near_pairs, decide_eq_true_eq]
          constructor
          · rintro (⟨h, _⟩ | ⟨h, _⟩)
            · exact absurd h e
            · exact h
          · intro h; exact .inr ⟨h, hT⟩
        have hP : (((List.range N.length).filter fun b => rN (T.map (pairL a) ++ L) i b)).Perm (a :: (List.range N.length).filter fun b => rN L i b) := by
          refine (List.perm_ext_iff_of_nodup (List.Pairwise.filter _ List.nodup_range) (List.nodup_cons.2 ⟨fun h => ?_, List.Pairwise.filter _ List.nodup_range⟩)).2 fun b => ?_
          · have := (List.mem_filter.1 h).2
            rw [hia] at this; cases this
          · rw [List.mem_filter, List.mem_cons, List.mem_filter, e1, Bool.or_eq_true, decide_eq_true_eq, List.mem_range]
            constructor
            · rintro ⟨h1, (h2 | h2)⟩
              · exact .inl h2
              · exact .inr ⟨h1, h2⟩
            · rintro (h | ⟨h1, h2⟩)
              · exact ⟨h ▸ ha, .inl h⟩
              · exact ⟨h1, .inr h2⟩
        rw [hP.length_eq, List.length_cons, hd, hvi]
        omega
      · have hvi : val (nextN N) i = val N i := by rw [hnv, if_neg e, if_neg hT]
        rw [← hvi, ← hd]
        congr 1
        refine List.filter_congr fun b _ => ?_
        rw [hR, Bool.eq_iff_iff, Bool.or_eq_true, near_pairs]
        constructor
        · rintro ((⟨h, _⟩ | ⟨_, h⟩) | h)
          · exact absurd h e
          · exact absurd h hT
          · exact h
        · intro h; exact .inr h
theorem hav_made : ∀ (f : Nat) (N : List Nat) (L : List Ln), 0 < N.length → hav f N = some L → Made N L := by
  intro f
  induction f with
  | zero => intro N L _ h; cases h
  | succ f ih =>
    intro N L h0 h
    rw [hav] at h
    by_cases hp : val N (atUp N N.length) = 0
    · rw [if_pos hp] at h
      cases h
      have hz : ∀ j, j < N.length → val N j = 0 := fun j hj => by
        have := (atUp_ok N N.length h0).2.1 j hj
        omega
      refine ⟨fun l hl => (by cases hl), List.nodup_nil, ?_, fun i hi => ?_⟩
      · have : N.sum = 0 := by
          have e : N = List.replicate N.length 0 := List.eq_replicate_iff.2 ⟨rfl, fun x hx => by
            obtain ⟨j, hj, rfl⟩ := List.mem_iff_getElem.1 hx
            rw [← val_lt hj]; exact hz j hj⟩
          rw [e]; simp
        simp [this]
      · rw [hz i hi]
        unfold dg
        rw [List.length_eq_zero_iff, List.filter_eq_nil_iff]
        intro b _ hb
        obtain ⟨l, hl, _⟩ := near_iff.1 hb
        cases hl
    · rw [if_neg hp] at h
      by_cases h1 : (ordN N (atUp N N.length)).length < val N (atUp N N.length)
      · rw [if_pos h1] at h; cases h
      · rw [if_neg h1] at h
        by_cases h2 : ((takeN N).any fun i => val N i == 0) = true
        · rw [if_pos h2] at h; cases h
        · rw [if_neg h2] at h
          cases hn : hav f (nextN N) with
          | none => rw [hn] at h; cases h
          | some L' =>
            rw [hn] at h
            cases h
            refine made_step h0 h1 hp (fun i hi => ?_) (ih _ _ (by rw [nextN_length]; exact h0) hn)
            refine Nat.one_le_iff_ne_zero.2 fun e => h2 (List.any_eq_true.2 ⟨i, hi, by simp [e]⟩)
theorem made_good {N : List Nat} {L : List Ln} (h0 : 0 < N.length) (h8 : N.length ≤ 8) (h : Made N L) (hl : L.length ≤ 24) : GoodG N.length L := by
  refine ⟨h0, h8, hl, fun l hl => ?_⟩
  obtain ⟨a, b, h1, h2, _, _, rfl⟩ := h.ends l hl
  simp only
  omega
theorem made_irr {N : List Nat} {L : List Ln} (h : Made N L) (a : Nat) : rN L a a = false := by
  rw [Bool.eq_false_iff]
  intro hn
  obtain ⟨l, hl, h2⟩ := near_iff.1 hn
  obtain ⟨x, y, h1, _, _, _, rfl⟩ := h.ends l hl
  simp only at h2
  omega
/-- what is made can be -/
theorem made_can {N : List Nat} {L : List Ln} (h : Made N L) : ∀ s : List Nat, s.Perm N → canN s = true := by
  intro s hs
  refine canN_graph (rN_symm L) (made_irr h) (n := N.length) (hs.trans ?_)
  have : (List.range N.length).map (dg (rN L) N.length) = (List.range N.length).map (val N) := List.map_congr_left fun i hi => h.deg i (List.mem_range.1 hi)
  rw [this, map_val]
/-- WHAT CAN BE IS MADE -/
theorem hav_iff {N : List Nat} (h0 : 0 < N.length) (h8 : N.length ≤ 8) (h7 : ∀ x ∈ N, x ≤ 7) {f : Nat} (hf : N.sum < f) {s : List Nat} (hs : s.Perm N) (hfall : s.Pairwise fun x y => y ≤ x) : (hav f N).isSome = canN s := by
  cases hh : hav f N with
  | none =>
    cases hc : canN s with
    | false => rfl
    | true =>
      obtain ⟨L, hL⟩ := can_hav f N h0 h8 h7 ⟨s, hs, hfall, hc⟩ hf
      rw [hh] at hL; cases hL
  | some L => rw [made_can (hav_made f N L h0 hh) s hs]; rfl
end Go.Proofs.Ytmkdkjdbmnocoaa.Gr
