/- Who can have so many lines each is made: plain. What Erdos and Gallai ask holds again when the one that needs most is served (of lists of up to eight numbers up to seven). Conditions: in each statement. -/
import Derived.Test.YtmkdkjdbmnocoaaHavelP
import Derived.Test.YtmkdkjdbmnocoaaErdosP
namespace Go.Proofs.Ytmkdkjdbmnocoaa.Gr

def insD (x : Nat) : List Nat → List Nat
  | [] => [x]
  | y :: l => bif Nat.ble y x then x :: y :: l else y :: insD x l
def sortD : List Nat → List Nat
  | [] => []
  | x :: l => insD x (sortD l)
def minS (k : Nat) : List Nat → Nat
  | [] => 0
  | x :: l => Nat.add (bif Nat.ble x k then x else k) (minS k l)
def egB (left k : Nat) : List Nat → Bool
  | [] => true
  | x :: l => bif Nat.ble (Nat.add left x) (Nat.add (Nat.mul k (Nat.succ k)) (minS (Nat.succ k) l)) then egB (Nat.add left x) (Nat.succ k) l else false
def sumB : List Nat → Nat
  | [] => 0
  | x :: l => Nat.add x (sumB l)
def canB (s : List Nat) : Bool := bif Nat.beq (Nat.mod (sumB s) 2) 0 then egB 0 0 s else false
/-- the first k one less; none if one of them is 0 or there are too few -/
def lessB : Nat → List Nat → Option (List Nat)
  | 0, l => some l
  | _ + 1, [] => none
  | k + 1, y :: l => match y with
    | 0 => none
    | y + 1 => (lessB k l).map (y :: ·)
def goodB : List Nat → Bool
  | [] => true
  | x :: l => match x with
    | 0 => true
    | x + 1 => match lessB (x + 1) l with
      | none => false
      | some t => canB (sortD (t ++ [0]))
def loopB (f : Nat → Bool) : Nat → Bool
  | 0 => true
  | k + 1 => bif f k then loopB f k else false
/-- all lists of n numbers up to m that fall -/
def allB : Nat → Nat → (List Nat → Bool) → Bool
  | 0, _, P => P []
  | n + 1, m, P => loopB (fun x => allB n x fun l => P (x :: l)) (m + 1)
def stepB (l : List Nat) : Bool := bif canB l then goodB l else true
theorem all0 : allB 0 7 stepB = true := by decide +kernel
theorem all1 : allB 1 7 stepB = true := by decide +kernel
theorem all2 : allB 2 7 stepB = true := by decide +kernel
theorem all3 : allB 3 7 stepB = true := by decide +kernel
theorem all4 : allB 4 7 stepB = true := by decide +kernel
theorem all5 : allB 5 7 stepB = true := by decide +kernel
theorem all6 : allB 6 7 stepB = true := by decide +kernel
theorem all7 : allB 7 7 stepB = true := by decide +kernel
theorem all8 : allB 8 7 stepB = true := by decide +kernel
theorem all_le {n : Nat} (h : n ≤ 8) : allB n 7 stepB = true := by
  match n, h with
  | 0, _ => exact all0
  | 1, _ => exact all1
  | 2, _ => exact all2
  | 3, _ => exact all3
  | 4, _ => exact all4
  | 5, _ => exact all5
  | 6, _ => exact all6
  | 7, _ => exact all7
  | 8, _ => exact all8

theorem loopB_at {f : Nat → Bool} : ∀ {k : Nat}, loopB f k = true → ∀ x, x < k → f x = true := by
  intro k
  induction k with
  | zero => intro _ x hx; omega
  | succ k ih =>
    intro h x hx
    unfold loopB at h
    cases hf : f k with
    | false => rw [hf] at h; cases h
    | true =>
      rw [hf] at h
      by_cases e : x = k
      · rw [e]; exact hf
      · exact ih h x (by omega)
theorem allB_at : ∀ {n m : Nat} {P : List Nat → Bool}, allB n m P = true → ∀ l : List Nat, l.length = n → (∀ x ∈ l, x ≤ m) → l.Pairwise (fun x y => y ≤ x) → P l = true := by
  intro n
  induction n with
  | zero =>
    intro m P h l hl _ _
    cases l with
    | nil => exact h
    | cons _ _ => cases hl
  | succ n ih =>
    intro m P h l hl hm hp
    cases l with
    | nil => cases hl
    | cons x l =>
      have h1 := loopB_at h x (by have := hm x List.mem_cons_self; omega)
      have h2 := List.pairwise_cons.1 hp
      exact ih h1 l (by simpa using hl) h2.1 h2.2
theorem step_all {l : List Nat} (hl : l.length ≤ 8) (h7 : ∀ x ∈ l, x ≤ 7) (hp : l.Pairwise fun x y => y ≤ x) (hc : canB l = true) : goodB l = true := by
  have := allB_at (all_le hl) l rfl h7 hp
  unfold stepB at this
  rw [hc] at this
  exact this

theorem sumB_is (l : List Nat) : sumB l = l.sum := by
  induction l with
  | nil => rfl
  | cons x l ih => rw [List.sum_cons, ← ih]; rfl
theorem minS_is (k : Nat) (l : List Nat) : minS k l = (l.map fun b => min b k).sum := by
  induction l with
  | nil => rfl
  | cons x l ih =>
    rw [List.map_cons, List.sum_cons, ← ih]
    show (bif Nat.ble x k then x else k) + minS k l = _
    congr 1
    cases h : Nat.ble x k with
    | true => have := Nat.le_of_ble_eq_true h; simp; omega
    | false => have : ¬ x ≤ k := fun h' => by rw [Nat.ble_eq_true_of_le h'] at h; cases h
               simp; omega
theorem egB_is : ∀ (l : List Nat) (left k : Nat), egB left k l = true ↔ ∀ j, j < l.length → left + (l.take (j + 1)).sum ≤ (k + j) * (k + j + 1) + ((l.drop (j + 1)).map fun b => min b (k + j + 1)).sum := by
  intro l
  induction l with
  | nil => intro left k; simp [egB]
  | cons x l ih =>
    intro left k
    have e : egB left k (x :: l) = (bif Nat.ble (left + x) (k * (k + 1) + minS (k + 1) l) then egB (left + x) (k + 1) l else false) := rfl
    rw [e]
    constructor
    · intro h j hj
      cases hb : Nat.ble (left + x) (k * (k + 1) + minS (k + 1) l) with
      | false => rw [hb] at h; cases h
      | true =>
        rw [hb] at h
        have hb' := Nat.le_of_ble_eq_true hb
        rw [minS_is] at hb'
        cases j with
        | zero => simpa using hb'
        | succ j =>
          have := (ih (left + x) (k + 1)).1 h j (by simpa using hj)
          rw [List.take_succ_cons, List.sum_cons, List.drop_succ_cons]
          rw [show k + (j + 1) = k + 1 + j from by omega]
          omega
    · intro h
      have h0 := h 0 (by simp)
      have hb : Nat.ble (left + x) (k * (k + 1) + minS (k + 1) l) = true := Nat.ble_eq_true_of_le (by rw [minS_is]; simpa using h0)
      rw [hb]
      refine (ih (left + x) (k + 1)).2 fun j hj => ?_
      have := h (j + 1) (by simpa using hj)
      rw [List.take_succ_cons, List.sum_cons, List.drop_succ_cons] at this
      rw [show k + (j + 1) = k + 1 + j from by omega] at this
      omega
theorem canB_is (s : List Nat) : canB s = canN s := by
  have e1 : canB s = (bif Nat.beq (s.sum % 2) 0 then egB 0 0 s else false) := by rw [← sumB_is]; rfl
  rw [e1]
  unfold canN
  rw [Bool.eq_iff_iff]
  by_cases h : s.sum % 2 = 0
  · rw [h]
    show egB 0 0 s = true ↔ _
    rw [egB_is]
    simp
  · have : Nat.beq (s.sum % 2) 0 = false := by
      cases hb : Nat.beq (s.sum % 2) 0 with
      | false => rfl
      | true => exact absurd (Nat.eq_of_beq_eq_true hb) h
    rw [this]
    simp [h]

theorem insD_perm (x : Nat) (l : List Nat) : (insD x l).Perm (x :: l) := by
  induction l with
  | nil => exact List.Perm.refl _
  | cons y l ih =>
    unfold insD
    cases Nat.ble y x with
    | true => exact List.Perm.refl _
    | false => exact (ih.cons y).trans (List.Perm.swap x y l)
theorem sortD_perm (l : List Nat) : (sortD l).Perm l := by
  induction l with
  | nil => exact List.Perm.refl _
  | cons x l ih => exact (insD_perm x _).trans (ih.cons x)
theorem insD_falls {x : Nat} {l : List Nat} (h : l.Pairwise fun x y => y ≤ x) : (insD x l).Pairwise fun x y => y ≤ x := by
  induction l with
  | nil => simp [insD]
  | cons y l ih =>
    have hp := List.pairwise_cons.1 h
    unfold insD
    cases hb : Nat.ble y x with
    | true =>
      have hb' := Nat.le_of_ble_eq_true hb
      show (x :: y :: l).Pairwise _
      refine List.pairwise_cons.2 ⟨fun z hz => ?_, h⟩
      rcases List.mem_cons.1 hz with rfl | hz
      · exact hb'
      · exact Nat.le_trans (hp.1 z hz) hb'
    | false =>
      have hb' : x < y := by
        rcases Nat.lt_or_ge x y with h | h
        · exact h
        · rw [Nat.ble_eq_true_of_le h] at hb; cases hb
      show (y :: insD x l).Pairwise _
      refine List.pairwise_cons.2 ⟨fun z hz => ?_, ih hp.2⟩
      rcases List.mem_cons.1 ((insD_perm x l).mem_iff.1 hz) with rfl | hz
      · omega
      · exact hp.1 z hz
theorem sortD_falls (l : List Nat) : (sortD l).Pairwise fun x y => y ≤ x := by
  induction l with
  | nil => exact List.Pairwise.nil
  | cons x l ih => exact insD_falls ih

theorem lessB_some : ∀ {k : Nat} {l t : List Nat}, lessB k l = some t → k ≤ l.length ∧ (∀ x ∈ l.take k, 1 ≤ x) ∧ t = (l.take k).map (· - 1) ++ l.drop k := by
  intro k
  induction k with
  | zero => intro l t h; cases h; exact ⟨Nat.zero_le _, fun x hx => by simp at hx, by simp⟩
  | succ k ih =>
    intro l t h
    match l, h with
    | (0 :: l), h => cases h
    | ((y + 1) :: l), h =>
      have h' : (lessB k l).map (y :: ·) = some t := h
      cases hs : lessB k l with
      | none => rw [hs] at h'; cases h'
      | some u =>
        rw [hs] at h'
        cases h'
        obtain ⟨h1, h2, h3⟩ := ih hs
        refine ⟨by simpa using h1, fun x hx => ?_, ?_⟩
        · rw [List.take_succ_cons] at hx
          rcases List.mem_cons.1 hx with rfl | hx
          · omega
          · exact h2 x hx
        · rw [List.take_succ_cons, List.drop_succ_cons, List.map_cons, h3]; rfl
theorem falls_eq {a b : List Nat} (ha : a.Pairwise fun x y => y ≤ x) (hb : b.Pairwise fun x y => y ≤ x) (h : a.Perm b) : a = b :=
  h.eq_of_pairwise (fun _ _ _ _ h1 h2 => Nat.le_antisymm h2 h1) ha hb

/-- what is asked of a list, however it stands -/
def CanP (N : List Nat) : Prop := ∃ s, s.Perm N ∧ s.Pairwise (fun x y => y ≤ x) ∧ canN s = true
theorem map_val (N : List Nat) : (List.range N.length).map (val N) = N := by
  refine List.ext_getElem (by simp) fun i h1 h2 => ?_
  simp [val, h2]
theorem ord_perm {N : List Nat} {a : Nat} (h : a < N.length) : (a :: ordN N a).Perm (List.range N.length) := by
  refine (List.perm_ext_iff_of_nodup (List.nodup_cons.2 ⟨fun h => (ordN_mem.1 h).2 rfl, ordN_nodup N a⟩) List.nodup_range).2 fun i => ?_
  rw [List.mem_cons, ordN_mem, List.mem_range]
  omega
/-- the list as it falls -/
theorem ord_falls {N : List Nat} (h0 : 0 < N.length) : ((atUp N N.length :: ordN N (atUp N N.length)).map (val N)).Pairwise fun x y => y ≤ x := by
  obtain ⟨g1, g2, _⟩ := atUp_ok N N.length h0
  rw [List.map_cons]
  refine List.pairwise_cons.2 ⟨fun x hx => ?_, ?_⟩
  · obtain ⟨i, hi, rfl⟩ := List.mem_map.1 hx
    exact g2 i (ordN_mem.1 hi).1
  · rw [List.pairwise_map]
    exact (ordN_sorted N _).imp fun h => by unfold leN at h; omega
theorem can_step {N : List Nat} (h0 : 0 < N.length) (h8 : N.length ≤ 8) (h7 : ∀ x ∈ N, x ≤ 7) (hc : CanP N) (hp : val N (atUp N N.length) ≠ 0) :
    val N (atUp N N.length) ≤ (ordN N (atUp N N.length)).length ∧ (∀ i ∈ takeN N, 1 ≤ val N i) ∧ CanP (nextN N) := by
  obtain ⟨s, hs1, hs2, hs3⟩ := hc
  obtain ⟨g1, _, _⟩ := atUp_ok N N.length h0
  have hO := ord_perm g1
  have hperm : ((atUp N N.length :: ordN N (atUp N N.length)).map (val N)).Perm N := by
    have := hO.map (val N)
    rwa [map_val] at this
  have e := falls_eq hs2 (ord_falls h0) (hs1.trans hperm.symm)
  have hg := step_all (l := s) (by rw [hs1.length_eq]; exact h8) (fun x hx => h7 x (hs1.mem_iff.1 hx)) hs2 (by rw [canB_is]; exact hs3)
  have hN := nextN_val (N := N) h0
  have hnl := nextN_length N
  have htk : takeN N = (ordN N (atUp N N.length)).take (val N (atUp N N.length)) := rfl
  have hom := fun i => (ordN_mem (N := N) (a := atUp N N.length) (i := i))
  have hnd := ordN_nodup N (atUp N N.length)
  generalize atUp N N.length = a at *
  generalize ordN N a = O at *
  rw [e, List.map_cons] at hg
  obtain ⟨p, hpe⟩ : ∃ p, val N a = p + 1 := ⟨val N a - 1, by omega⟩
  rw [hpe] at hg htk ⊢
  have hg' : (match lessB (p + 1) (O.map (val N)) with | none => false | some t => canB (sortD (t ++ [0]))) = true := hg
  cases hl : lessB (p + 1) (O.map (val N)) with
  | none => rw [hl] at hg'; cases hg'
  | some t =>
    rw [hl] at hg'
    obtain ⟨k1, k2, k3⟩ := lessB_some hl
    rw [List.length_map] at k1
    refine ⟨k1, fun i hi => ?_, sortD (t ++ [0]), ?_, sortD_falls _, by rw [← canB_is]; exact hg'⟩
    · refine k2 _ ?_
      rw [← List.map_take, ← htk]
      exact List.mem_map_of_mem hi
    · refine (sortD_perm _).trans ?_
      have h1 : ((List.range N.length).map (val (nextN N))).Perm ((a :: O).map (val (nextN N))) := (hO.map _).symm
      rw [← hnl, map_val] at h1
      refine List.Perm.trans ?_ h1.symm
      rw [List.map_cons, hN a, if_pos rfl]
      refine (List.perm_append_comm).trans ?_
      show ((0 : Nat) :: t).Perm _
      refine List.Perm.cons 0 ?_
      rw [k3, ← List.map_take, ← List.map_drop, ← htk, List.map_map]
      have e1 : (takeN N).map ((fun x => x - 1) ∘ val N) = (takeN N).map (val (nextN N)) := List.map_congr_left fun i hi => by
        have hio : i ∈ O := by rw [htk] at hi; exact List.mem_of_mem_take hi
        rw [hN i, if_neg ((hom i).1 hio).2, if_pos hi]; rfl
      have e2 : (O.drop (p + 1)).map (val N) = (O.drop (p + 1)).map (val (nextN N)) := List.map_congr_left fun i hi => by
        have hio : i ∈ O := List.mem_of_mem_drop hi
        have hnt : i ∉ takeN N := by
          rw [htk]
          intro h
          obtain ⟨x, hx, ex⟩ := List.mem_iff_getElem.1 h
          obtain ⟨y, hy, ey⟩ := List.mem_iff_getElem.1 hi
          rw [List.getElem_take] at ex
          rw [List.getElem_drop] at ey
          simp only [List.length_take] at hx
          simp only [List.length_drop] at hy
          exact List.pairwise_iff_getElem.1 hnd x (p + 1 + y) (by omega) (by omega) (by omega) (ex.trans ey.symm)
        rw [hN i, if_neg ((hom i).1 hio).2, if_neg hnt]
      rw [e1, e2, ← List.map_append]
      have e3 : takeN N ++ O.drop (p + 1) = O := by rw [htk, List.take_append_drop]
      rw [e3]
/-- what can be is made -/
theorem can_hav : ∀ (f : Nat) (N : List Nat), 0 < N.length → N.length ≤ 8 → (∀ x ∈ N, x ≤ 7) → CanP N → N.sum < f → ∃ L, hav f N = some L := by
  intro f
  induction f with
  | zero => intro N _ _ _ _ h; omega
  | succ f ih =>
    intro N h0 h8 h7 hc hf
    by_cases hp : val N (atUp N N.length) = 0
    · exact ⟨[], by rw [hav, if_pos hp]⟩
    · obtain ⟨h1, h2, h3⟩ := can_step h0 h8 h7 hc hp
      have hs := nextN_sum h0 (by omega) h2
      have h7' : ∀ x ∈ nextN N, x ≤ 7 := fun x hx => by
        obtain ⟨j, hj, e⟩ := List.mem_iff_getElem.1 hx
        have h1 := nextN_val (N := N) h0 j
        rw [val_lt hj, e] at h1
        have hjN : j < N.length := by rw [← nextN_length N]; exact hj
        have h2 : val N j ≤ 7 := by rw [val_lt hjN]; exact h7 _ (List.getElem_mem _)
        rw [h1]
        split
        · omega
        · split <;> omega
      obtain ⟨L, hL⟩ := ih (nextN N) (by rw [nextN_length]; exact h0) (by rw [nextN_length]; exact h8) h7' h3 (by omega)
      refine ⟨(takeN N).map (pairL (atUp N N.length)) ++ L, ?_⟩
      rw [hav, if_neg hp, if_neg (by omega), if_neg ?_, hL]
      · rfl
      · rw [List.any_eq_true]
        rintro ⟨i, hi, e⟩
        have := h2 i hi
        simp at e
        omega
end Go.Proofs.Ytmkdkjdbmnocoaa.Gr
