/- What R.Havel returns: the walk. Conditions: in each statement. -/
import Derived.Test.YtgjkefniknbdeaaDoorRefDeg
import Derived.Test.YtgjkefniknbdeaaDoorHavelMake
namespace Go.Proofs.YtgjkefniknbdeaaDoor
open Go.RowKit Gr

theorem rd_keptH {w w' : World} {v : Value} {n : Nat} {cs : List Value} {row : Option Nat} (h : Rd w v n cs) (hg : w.grownBy w' row) (hr : ∀ g, row = some g → v.ownBlock ≠ some g) : Rd w' v n cs := by
  obtain ⟨a, c, rfl, h2, h3, h4, h5⟩ := h
  refine ⟨a, c, rfl, h2, h3, h4, fun hn => ?_⟩
  obtain ⟨b, off, rfl, hb, hc⟩ := h5 hn
  refine ⟨b, off, rfl, Nat.lt_of_lt_of_le hb hg.size, fun j u hu => ?_⟩
  rw [← hc j u hu]
  have := hg.block b hb (fun e => hr b e.symm rfl)
  simp [World.cell?, this]
theorem rd_block {w : World} {v : Value} {n : Nat} {cs : List Value} (h : Rd w v n cs) (hn : 0 < n) : ∀ g, v.ownBlock = some g → g < w.heap.size := by
  obtain ⟨a, c, rfl, h2, h3, h4, h5⟩ := h
  obtain ⟨b, off, rfl, hb, hc⟩ := h5 hn
  intro g hg
  simp [Value.ownBlock] at hg
  omega
theorem rd_nat {w : World} {an : Option Addr} {n cn : Nat} {N : List Nat} (h : Rd w (.slice an n cn) n (nats N)) (hN : N.length = n) (h0 : 0 < n) :
    ∃ b off, an = some ⟨b, off, none⟩ ∧ b < w.heap.size ∧ n ≤ cn ∧ cn ≤ maxLen ∧ ∀ i, i < n → w.cell? ⟨b, off + i, none⟩ = some (.int .i64 ((val N i : Nat) : Int)) := by
  obtain ⟨a, c, e, h2, h3, h4, h5⟩ := h
  cases e
  obtain ⟨b, off, rfl, hb, hc⟩ := h5 h0
  refine ⟨b, off, rfl, hb, h2, h3, fun i hi => hc i _ ?_⟩
  rw [val_lt (by omega)]
  have hi' : i < N.length := by omega
  simp [nats, hi']
theorem nats_intsH (N : List Nat) : nats N = ints (N.map fun (i : Nat) => (i : Int)) := by simp [nats, ints, List.map_map]
theorem refSetN (v : Value) (n : Nat) (N : List Nat) (i x : Nat) (w : World) (hr : Rd w v n (nats N)) (hN : N.length = n) (hi : i < n) (hn : n ≤ 100) :
    Calls Tryd.prog 28 #[v, .int .i64 (i : Int), .int .i64 (x : Int)] w fun e w' => ∃ g c, e = .returned (.slice (some ⟨g, 0, none⟩) n c) ∧ w'.ownsRow w.heap.size 3 1 (.slice (some ⟨g, 0, none⟩) n c) n (nats (N.set i x)) ∧ Below w.heap.size w w' := by
  have hl : (N.map fun (i : Nat) => (i : Int)).length = n := by simp [hN]
  have K := refSet_any v (N.map fun (i : Nat) => (i : Int)) i (x : Int) w (by rw [← nats_intsH, hl]; exact hr) (by rw [hl]; exact hi) (by rw [hl]; omega)
  refine K.mono ?_
  rintro e w' ⟨a, c, rfl, ho, hB⟩
  have e1 : (N.map fun (i : Nat) => (i : Int)).set i (x : Int) = (N.set i x).map fun (i : Nat) => (i : Int) := by rw [List.map_set]
  rw [e1] at ho ⊢
  rw [← nats_intsH] at ho
  have hl2 : ((N.set i x).map fun (i : Nat) => (i : Int)).length = n := by simp [hN]
  rw [hl2] at ho ⊢
  obtain ⟨g, cap, e2⟩ := owns_pos ho (by omega)
  cases e2
  exact ⟨g, c, rfl, ho, hB⟩
theorem refHasN (v : Value) (n : Nat) (D : List Nat) (i : Nat) (w : World) (hr : Rd w v n (nats D)) (hD : D.length = n) :
    Calls Tryd.prog 29 #[v, .int .i64 (i : Int)] w fun e w' => e = .returned (.bool (decide (i ∈ D))) ∧ w = w' := by
  have hl : (D.map fun (i : Nat) => (i : Int)).length = n := by simp [hD]
  have K := refHas_any v (D.map fun (i : Nat) => (i : Int)) (i : Int) w (by rw [← nats_intsH, hl]; exact hr)
  refine K.mono ?_
  rintro e w' ⟨rfl, rfl⟩
  refine ⟨ret_bool ?_, rfl⟩
  rw [decide_eq_decide, List.mem_map]
  constructor
  · rintro ⟨x, hx, e⟩
    have : x = i := by omega
    rw [← this]; exact hx
  · intro h; exact ⟨i, h, rfl⟩

/-- the answer: no lines, or new ones -/
def MadeB (r : Option (List Ln)) (b0 : Nat) (w : World) (e : Ending) (w' : World) : Prop :=
  (r = none ∧ e = .returned (.tuple #[.slice none 0 0, .bool false]) ∧ Below b0 w w') ∨
  ∃ L a c, r = some L ∧ e = .returned (.tuple #[.slice a L.length c, .bool true]) ∧ w'.ownsRow b0 50 2 (.slice a L.length c) L.length (cellsOf L) ∧ Below b0 w w'

/-- between two rounds over those that a has a line with -/
structure HavIn (b0 : Nat) (w : World) (bs n : Nat) (N S : List Nat) (a k : Nat) (out : List Ln) (nn : Value) (wx : World) (oo xx dd : Value) : Prop where
  rn : Rd wx nn n (nats N)
  own : wx.ownsRow b0 50 2 oo (out ++ (S.take k).map (pairL a)).length (cellsOf (out ++ (S.take k).map (pairL a)))
  dn : wx.ownsRow bs 3 1 dd (k + 1) (nats (a :: S.take k))
  rx : Rd wx xx n (nats (decr (N.set a 0) (S.take k)))
  s1 : ∀ g, oo.ownBlock = some g → nn.ownBlock ≠ some g ∧ xx.ownBlock ≠ some g ∧ dd.ownBlock ≠ some g
  s2 : ∀ g, dd.ownBlock = some g → nn.ownBlock ≠ some g ∧ xx.ownBlock ≠ some g
  below : Below b0 w wx
  size : b0 ≤ bs ∧ bs ≤ wx.heap.size

section
variable {b0 : Nat} {w : World} {bs n : Nat} {N S : List Nat} {a k : Nat} {out : List Ln} {nn : Value} {wx : World} {oo xx dd : Value}
theorem HavIn.later (h : HavIn b0 w bs n N S a k out nn wx oo xx dd) {wy : World} (hb : Below wx.heap.size wx wy) : HavIn b0 w bs n N S a k out nn wy oo xx dd :=
  ⟨h.rn.later hb, owns_later h.own hb, owns_later h.dn hb, h.rx.later hb, h.s1, h.s2, h.below.trans (hb.mono (Nat.le_trans h.size.1 h.size.2)), h.size.1, Nat.le_trans h.size.2 hb.size⟩
/-- what is done grew -/
theorem HavIn.grew (h : HavIn b0 w bs n N S a k out nn wx oo xx dd) {w8 : World} {dd' : Value} {m : Nat} {ys : List Value} (hA : AppTo wx bs 3 1 dd w8 dd' m ys) :
    Rd w8 nn n (nats N) ∧ Rd w8 xx n (nats (decr (N.set a 0) (S.take k))) ∧ w8.ownsRow b0 50 2 oo (out ++ (S.take k).map (pairL a)).length (cellsOf (out ++ (S.take k).map (pairL a))) := by
  refine ⟨rd_keptH h.rn hA.grown (fun g hg => (h.s2 g hg).1), rd_keptH h.rx hA.grown (fun g hg => (h.s2 g hg).2), h.own.kept hA.grown ?_⟩
  cases hob : oo.ownBlock with
  | none => exact .inl rfl
  | some r => exact .inr (fun e => (h.s1 r hob).2.2 e.symm)
theorem HavIn.step (h : HavIn b0 w bs n N S a k out nn wx oo xx dd) (hn : 0 < n) (hk : k < S.length) {w8 w9 w10 : World} {dd' xx' oo' : Value}
    (hA : AppTo wx bs 3 1 dd w8 dd' (k + 1 + 1) (nats (a :: S.take k) ++ [.int .i64 ((S[k] : Nat) : Int)]))
    (hX : w9.ownsRow w8.heap.size 3 1 xx' n (nats (decr (N.set a 0) (S.take (k + 1))))) (hB : Below w8.heap.size w8 w9)
    (hO : AppTo w9 b0 50 2 oo w10 oo' ((out ++ (S.take k).map (pairL a)).length + 1) (cellsOf (out ++ (S.take k).map (pairL a)) ++ cellsOf [pairL a S[k]])) :
    HavIn b0 w bs n N S a (k + 1) out nn w10 oo' xx' dd' := by
  obtain ⟨g1, g2, g3⟩ := h.grew hA
  have g1' := g1.later hB
  have g3' := owns_later g3 hB
  have gd := owns_later hA.own hB
  have hs8 : wx.heap.size ≤ w8.heap.size := hA.grown.size
  have hnb := rd_block h.rn hn
  have hxb := rd_block (rd_of_owns hX) hn
  -- blocks
  have hood : ∀ g, oo.ownBlock = some g → nn.ownBlock ≠ some g ∧ xx'.ownBlock ≠ some g ∧ dd'.ownBlock ≠ some g := fun g hg => by
    have hgw := (h.own.lt g hg).2
    refine ⟨(h.s1 g hg).1, fun e => ?_, fun e => ?_⟩
    · have := (hX.lt g e).1; omega
    · rcases hA.at_ with e2 | e2
      · rw [e2] at e; exact (h.s1 g hg).2.2 e
      · have := e2 g e; omega
  have e1 : S.take (k + 1) = S.take k ++ [S[k]] := List.take_succ_eq_append_getElem hk
  have e2 : out ++ (S.take (k + 1)).map (pairL a) = (out ++ (S.take k).map (pairL a)) ++ [pairL a S[k]] := by rw [e1, List.map_append, List.append_assoc]; rfl
  refine ⟨rd_keptH g1' hO.grown (fun g hg => (hood g hg).1), ?_, ?_, rd_keptH (rd_of_owns hX) hO.grown (fun g hg => (hood g hg).2.1), fun g hg => ?_, fun g hg => ?_, ?_, ?_⟩
  · rw [e2, List.length_append, List.length_singleton, cellsOf_append]
    exact hO.own
  · have : nats (a :: S.take (k + 1)) = nats (a :: S.take k) ++ [.int .i64 ((S[k] : Nat) : Int)] := by
      rw [e1]
      show nats ((a :: S.take k) ++ [S[k]]) = _
      unfold nats
      rw [List.map_append]; rfl
    rw [this]
    refine gd.kept hO.grown ?_
    cases hod : dd'.ownBlock with
    | none => exact .inl rfl
    | some r => exact .inr (fun e => (hood r e.symm).2.2 hod)
  · rcases hO.at_ with e | e
    · rw [e] at hg; exact hood g hg
    · have hgb := e g hg
      refine ⟨fun e => ?_, fun e => ?_, fun e => ?_⟩
      · have := hnb g e
        have := hB.size
        omega
      · have := hxb g e; omega
      · have := (gd.lt g e).2; omega
  · rcases hA.at_ with e | e
    · rw [e] at hg
      have hgw := (h.dn.lt g hg).2
      exact ⟨(h.s2 g hg).1, fun e => by have := (hX.lt g e).1; omega⟩
    · have hgb := e g hg
      have hgu := (hA.own.lt g hg).2
      refine ⟨fun e => ?_, fun e => ?_⟩
      · have := hnb g e; omega
      · have := (hX.lt g e).1; omega
  · have hs0 := h.size
    have b8 : Below b0 w w8 := h.below.grown hA.grown (Nat.le_trans hs0.1 hs0.2) (fun g hg => Nat.le_trans hs0.1 (h.dn.lt g hg).1)
    have b9 : Below b0 w w9 := b8.trans (hB.mono (by omega))
    exact b9.grown hO.grown (by have := hB.size; omega) (fun g hg => (h.own.lt g hg).1)
  · have := hO.grown.size
    have := hB.size
    have := h.size
    omega
end
theorem ord_val {N : List Nat} {a j : Nat} (hal : a < N.length) (hj : j < (ordN N a).length) : val (decr (N.set a 0) ((ordN N a).take j)) (ordN N a)[j] = val N (ordN N a)[j] := by
  have hm := ordN_mem.1 (List.getElem_mem hj)
  have hnd := ordN_nodup N a
  rw [decr_val _ _ (hnd.sublist (List.take_sublist _ _)) (fun i hi => by simp; exact (ordN_mem.1 (List.mem_of_mem_take hi)).1), if_neg ?_, val_set hal, if_neg hm.2]
  intro h
  obtain ⟨q, hq, e⟩ := List.mem_iff_getElem.1 h
  rw [List.getElem_take] at e
  have hqj : q < j := by simp at hq; omega
  exact List.pairwise_iff_getElem.1 hnd q j (by omega) hj hqj e
theorem sum7 : ∀ l : List Nat, (∀ x ∈ l, x ≤ 7) → l.sum ≤ 7 * l.length := by
  intro l
  induction l with
  | nil => intro _; simp
  | cons x l ih =>
    intro h
    have := ih fun y hy => h y (List.mem_cons_of_mem _ hy)
    have := h x List.mem_cons_self
    simp only [List.sum_cons, List.length_cons]
    omega
theorem atUp_lt (N : List Nat) {n : Nat} (i : Nat) (hi : i < n) : atUp N i < n := by
  rcases Nat.eq_zero_or_pos i with h | h
  · subst h; exact hi
  · have := (atUp_ok N i h).1; omega
theorem bestUp_lt (N D : List Nat) (i : Nat) : bestUp N D i = -1 ∨ ∃ b : Nat, b < i ∧ bestUp N D i = (b : Int) := by
  rcases bestUp_ok N D i with ⟨h, _⟩ | ⟨b, h1, h2, _⟩
  · exact .inl h
  · exact .inr ⟨b, h1, h2⟩

-- the round's end: what is done, what is needed next, the line

set_option maxRecDepth 100000 in
set_option maxHeartbeats 8000000 in
theorem refHavel_ok (v : Value) (m : Nat) (N0 : List Nat) (w : World) (hr : Rd w v (m + 1) (nats N0)) (hN0 : N0.length = m + 1) (hm : m ≤ 7) (hv0 : ∀ x ∈ N0, x ≤ 7) :
    Calls Tryd.prog 9 #[v] w (MadeB (hav (N0.sum + 1) N0) w.heap.size w) := by
  obtain ⟨i0, hi, hz0, hz1, hz2⟩ := info_parts info_int
  obtain ⟨j0, hj, hy0, hy1, hy2⟩ := info_parts info_line
  have hS0 : N0.sum ≤ 56 := by
    have := sum7 N0 hv0
    omega
  have hlt0 : N0.sum < N0.sum + 1 := by omega
  generalize hF : N0.sum + 1 = F at *
  generalize hR : hav F N0 = R
  have HR0 : Hid (R = (hav F N0).map fun l => ([] : List Ln) ++ l) := by
    show _ = _
    rw [hR]
    cases R <;> simp
  have hsum0 : 2 * ([] : List Ln).length + N0.sum = N0.sum := by simp
  generalize hS : N0.sum = S0 at hS0 hsum0
  rw [hS] at hlt0
  clear hR hF
  obtain ⟨av, cv, rfl, _⟩ := id hr
  go_enter Tryd.func9, Tryd.ntmps9
  go_wp2_with fail
  go_loopw [4, 5] (fun nn oo wr => ∃ (N : List Nat) (out : List Ln) (f : Nat), Rd wr nn (m + 1) (nats N) ∧ wr.ownsRow w.heap.size 50 2 oo out.length (cellsOf out) ∧ Below w.heap.size w wr ∧ (∀ g, oo.ownBlock = some g → nn.ownBlock ≠ some g) ∧ N.length = m + 1 ∧ (∀ x ∈ N, x ≤ 7) ∧ N.sum < f ∧ 2 * out.length + N.sum = S0 ∧ Hid (R = (hav f N).map fun l => out ++ l)) (fun _ oo _ => S0 - lenOf oo)
  case atStart => exact ⟨N0, [], F, hr, World.ownsRow_nil _ _ _ _, Below.refl _ _, fun g e => (by cases e), hN0, hv0, by omega, by omega, HR0⟩
  case round =>
    clear HR0 hN0 hv0 hsum0 hlt0 hS hr
    obtain ⟨N, out, f, hrN, hoO, hBl, hsep, hN, hv, hf, hsum, HR⟩ := hrel
    obtain ⟨wa, hwa⟩ : ∃ wa, wa = wr := ⟨wr, rfl⟩
    subst hwa
    obtain ⟨ao, co, rfl⟩ := owns_slice hoO
    have ho28 : out.length ≤ 28 := by omega
    obtain ⟨an, cn, rfl, _⟩ := id hrN
    obtain ⟨bn, fn, rfl, hbn, hnc, hncm, hcN⟩ := rd_nat hrN hN (by omega)
    have HCN := Lib.hid hcN
    clear hcN
    go_wp2_with fail
    go_loopw [6, 7] (fun tt ii wx => ∃ i : Nat, i ≤ m + 1 ∧ ii = .int .i64 i ∧ tt = .int .i64 ((atUp N i : Nat) : Int) ∧ ∃ q, wx = wa.drewN q) (fun _ ii _ => m + 1 - (intOf ii).toNat)
    case atStart => exact ⟨0, by omega, rfl, rfl, 0, rfl⟩
    case round =>
      obtain ⟨i, hi', rfl, rfl, q, rfl⟩ := hrel
      by_cases hlt : i < m + 1
      · have hii : (i : Int) < ((m + 1 : Nat) : Int) := by omega
        have hat := atUp_lt N i hlt
        have hai : (atUp N i : Int) < ((m + 1 : Nat) : Int) := by omega
        have c1 := HCN.out i hlt
        have c2 := HCN.out _ hat
        have HST : Hid (atUp N (i + 1) = if val N (atUp N i) < val N i then i else atUp N i) := rfl
        generalize atUp N i = t at *
        by_cases hc : val N t < val N i
        · have hd : decide (((val N i : Nat) : Int) > ((val N t : Nat) : Int)) = true := by simp; omega
          have hd' : ((val N t : Nat) : Int) < ((val N i : Nat) : Int) := by omega
          have HS2 : Hid (atUp N (i + 1) = i) := by show _ = _; rw [HST.out, if_pos hc]
          clear hc HST
          generalize val N t = x at *
          generalize val N i = y at *
          go_wp2
          go_quiet (fail)
          go_wp2
          go_roundw
          case rel => exact ⟨i + 1, by omega, by go_num, by rw [HS2.out], _, rfl⟩
          case measure => simp [intOf]; omega
        · have hd : decide (((val N i : Nat) : Int) > ((val N t : Nat) : Int)) = false := by simp; omega
          have hd' : ¬ ((val N t : Nat) : Int) < ((val N i : Nat) : Int) := by omega
          have HS2 : Hid (atUp N (i + 1) = t) := by show _ = _; rw [HST.out, if_neg hc]
          clear hc HST
          generalize val N t = x at *
          generalize val N i = y at *
          go_wp2
          go_quiet (fail)
          go_wp2
          go_roundw
          case rel => exact ⟨i + 1, by omega, by go_num, by rw [HS2.out], _, rfl⟩
          case measure => simp [intOf]; omega
      · obtain rfl : i = m + 1 := by omega
        have hbq := below_drewN' wa q
        have hrN' := hrN.later hbq
        have hoO' := owns_later hoO hbq
        have hBl' := hBl.trans (hbq.mono hBl.size)
        have hcN : ∀ i, i < m + 1 → (wa.drewN q).cell? ⟨bn, fn + i, none⟩ = some (.int .i64 ((val N i : Nat) : Int)) := fun i hi => (hbq.cell (p := ⟨bn, fn + i, none⟩) hbn).trans (HCN.out i hi)
        have hbn' : bn < (wa.drewN q).heap.size := Nat.lt_of_lt_of_le hbn hbq.size
        generalize wa.drewN q = wb at *
        clear hrN hoO hBl HCN hbq hbn
        have HA := Lib.hid (atUp_ok N N.length (by omega))
        rw [hN] at HA
        obtain ⟨f, rfl⟩ : ∃ f', f = f' + 1 := ⟨f - 1, by omega⟩
        have hEA : atUp N (m + 1) = atUp N N.length := by rw [hN]
        have hal : atUp N (m + 1) < N.length := by rw [hN]; exact HA.out.1
        have HH : Hid (hav (f + 1) N = if val N (atUp N (m + 1)) = 0 then some [] else if (ordN N (atUp N (m + 1))).length < val N (atUp N (m + 1)) then none else if (takeN N).any (fun i => val N i == 0) then none else (hav f (nextN N)).map fun l => (takeN N).map (pairL (atUp N (m + 1))) ++ l) := by show _ = _; rw [hav, hN]
        have HTN : Hid (takeN N = (ordN N (atUp N (m + 1))).take (val N (atUp N (m + 1)))) := by show _ = _; unfold takeN; rw [hN]
        have HNX : Hid (nextN N = decr (N.set (atUp N (m + 1)) 0) (takeN N)) := by show _ = _; unfold nextN; rw [hN]
        have HNS : Hid (¬ (ordN N (atUp N (m + 1))).length < val N (atUp N (m + 1)) → (∀ i ∈ takeN N, 1 ≤ val N i) → (nextN N).sum + 2 * val N (atUp N (m + 1)) = N.sum) := fun h1 h2 => by
          have := nextN_sum (N := N) (by omega) (by rw [← hEA]; exact h1) h2
          rw [← hEA] at this
          exact this
        have HNV : Hid (∀ x ∈ nextN N, x ≤ 7) := fun x hx => by
          obtain ⟨j, hj, e⟩ := List.mem_iff_getElem.1 hx
          have h1 := nextN_val (N := N) (by omega) j
          rw [val_lt hj, e] at h1
          have hjN : j < N.length := by rw [← nextN_length N]; exact hj
          have h2 : val N j ≤ 7 := by rw [val_lt hjN]; exact hv _ (List.getElem_mem _)
          rw [h1]
          split
          · omega
          · split <;> omega
        have HNL : Hid ((nextN N).length = m + 1) := by show _ = _; rw [nextN_length, hN]
        have HOV : Hid (∀ (j : Nat) (hj : j < (ordN N (atUp N (m + 1))).length), val (decr (N.set (atUp N (m + 1)) 0) ((ordN N (atUp N (m + 1))).take j)) (ordN N (atUp N (m + 1)))[j] = val N (ordN N (atUp N (m + 1)))[j]) := fun j hj => ord_val hal hj
        have HBP : Hid (∀ (j : Nat) (hj : j < (ordN N (atUp N (m + 1))).length), bestUp N (atUp N (m + 1) :: (ordN N (atUp N (m + 1))).take j) (m + 1) = (((ordN N (atUp N (m + 1)))[j] : Nat) : Int)) := fun j hj => by
          have := best_pick hj
          rwa [hN] at this
        have HBN : Hid (bestUp N (atUp N (m + 1) :: (ordN N (atUp N (m + 1))).take (ordN N (atUp N (m + 1))).length) (m + 1) = -1) := by
          have := best_none (N := N) (a := atUp N (m + 1))
          rwa [hN] at this
        have HOM : Hid (∀ i ∈ ordN N (atUp N (m + 1)), i < m + 1 ∧ i ≠ atUp N (m + 1)) := fun i hi => by
          have := ordN_mem.1 hi
          rw [hN] at this
          exact this
        have hSl := ordN_length hal
        have ham : atUp N (m + 1) < m + 1 := HA.out.1
        generalize ordN N (atUp N (m + 1)) = S at *
        generalize atUp N (m + 1) = a at *
        clear HA hEA
        have hai : (a : Int) < ((m + 1 : Nat) : Int) := by omega
        have ca := hcN a ham
        have hp7 : val N a ≤ 7 := by rw [val_lt (by omega)]; exact hv _ (List.getElem_mem _)
        generalize val N a = p at *
        have HCN := Lib.hid hcN
        clear hcN
        by_cases hp0 : p = 0
        · have hpb : ((p : Int) == 0) = true := by simp [hp0]
          have HRS : Hid (R = some out) := by
            show _ = _
            rw [HR.out, HH.out, if_pos hp0]; simp
          clear hp0
          go_wp2
          go_ret2
          exact .inr ⟨out, ao, co, HRS.out, rfl, hoO', hBl'⟩
        · have hpb : ((p : Int) == 0) = false := by rw [beq_eq_false_iff_ne]; omega
          have HRN : Hid (S.length < p ∨ (∃ i ∈ S.take p, val N i = 0) → R = none) := fun h => by
            rw [HR.out, HH.out, if_neg hp0]
            by_cases h1 : S.length < p
            · rw [if_pos h1]; rfl
            · rw [if_neg h1, if_pos ?_]
              · rfl
              · obtain ⟨i, hi, e⟩ := h.resolve_left h1
                rw [← HTN.out] at hi
                exact List.any_eq_true.2 ⟨i, hi, by simp [e]⟩
          have HRY : Hid (p ≤ S.length → (∀ i ∈ S.take p, 1 ≤ val N i) → (R = (hav f (decr (N.set a 0) (S.take p))).map fun l => (out ++ (S.take p).map (pairL a)) ++ l) ∧ (decr (N.set a 0) (S.take p)).sum + 2 * p = N.sum) := fun h1 h2 => by
            rw [← HTN.out] at h2 ⊢
            rw [← HNX.out]
            refine ⟨?_, HNS.out (by omega) h2⟩
            rw [HR.out, HH.out, if_neg hp0, if_neg (by omega), if_neg (by
              rw [List.any_eq_true]
              rintro ⟨i, hi, e⟩
              have := h2 i hi
              simp at e
              omega), Option.map_map]
            congr 1
            funext l
            simp
          have HNW : Hid ((∀ x ∈ decr (N.set a 0) (S.take p), x ≤ 7) ∧ (decr (N.set a 0) (S.take p)).length = m + 1) := by
            rw [← HTN.out, ← HNX.out]
            exact ⟨HNV.out, HNL.out⟩
          clear HR HH HTN HNX HNS HNV HNL
          go_wp2_with fail
          refine (refSetN _ (m + 1) N a 0 _ hrN' hN ham (by omega)).mono ?_
          rintro e w1 ⟨gx, cx, rfl, hox, hB1⟩
          have ho1 := owns_later hoO' hB1
          have hr1 := hrN'.later hB1
          have hBl1 := hBl'.trans (hB1.mono hBl'.size)
          have hB2 := below_alloc' w1 (.cells #[.int .i64 (a : Int)] 3)
          have hI0 : HavIn w.heap.size w wb.heap.size (m + 1) N S a 0 out (.slice (some ⟨bn, fn, none⟩) (m + 1) cn) (w1.alloc (.cells #[.int .i64 (a : Int)] 3)) (.slice ao out.length co) (.slice (some ⟨gx, 0, none⟩) (m + 1) cx) (.slice (some ⟨w1.heap.size, 0, none⟩) 1 1) := by
            have hgx := hox.lt gx rfl
            have hs1 := hB1.size
            refine ⟨hr1.later hB2, ?_, ?_, (rd_of_owns hox).later hB2, fun g hg => ?_, fun g hg => ?_, hBl1.trans (hB2.mono hBl1.size), hBl'.size, ?_⟩
            · simpa using owns_later ho1 hB2
            · exact owns_mono (World.ownsRow_lit _ _ 1 (Nat.le_refl _) (by decide) rfl) hs1
            · have := (hoO'.lt g hg).2
              refine ⟨hsep g hg, fun e => ?_, fun e => ?_⟩
              · simp [Value.ownBlock] at e; omega
              · simp [Value.ownBlock] at e; omega
            · simp [Value.ownBlock] at hg
              refine ⟨fun e => ?_, fun e => ?_⟩
              · simp [Value.ownBlock] at e; omega
              · simp [Value.ownBlock] at e; omega
            · simp; omega
          clear hrN' hoO' hBl' hox hB1 ho1 hr1 hBl1 hB2 hsep ca
          go_wp2_with fail
          go_loopw [5, 9, 10, 11] (fun oo xx dd kk wx => ∃ k : Nat, k ≤ p ∧ k ≤ S.length ∧ kk = .int .i64 k ∧ HavIn w.heap.size w wb.heap.size (m + 1) N S a k out (.slice (some ⟨bn, fn, none⟩) (m + 1) cn) wx oo xx dd ∧ Hid (∀ i ∈ S.take k, 1 ≤ val N i)) (fun _ _ _ kk _ => p - (intOf kk).toNat)
          case atStart => exact ⟨0, by omega, by omega, rfl, hI0, Lib.hid (by simp)⟩
          case round =>
            clear hI0
            obtain ⟨k, hk, hkS, rfl, hI, HZ⟩ := hrel
            obtain ⟨wc, hwc⟩ : ∃ wc, wc = wr := ⟨wr, rfl⟩
            subst hwc
            obtain ⟨Y, hY⟩ : ∃ Y, out ++ (S.take k).map (pairL a) = Y := ⟨_, rfl⟩
            have hIo := hI.own
            rw [hY] at hIo
            have HY := Lib.hid hY
            have HYL : Hid (Y.length = out.length + k) := by show _ = _; rw [← hY]; simp; omega
            obtain ⟨ai, ci, rfl⟩ := owns_slice hIo
            clear hIo hY
            obtain ⟨ad, cd, rfl⟩ := owns_slice hI.dn
            obtain ⟨ax, cx2, rfl, _⟩ := id hI.rx
            by_cases hkp : k < p
            · have hki : (k : Int) < (p : Int) := by omega
              have hdlen : (a :: S.take k).length = k + 1 := by simp; omega
              have KH := fun q i => refHasN _ (k + 1) (a :: S.take k) i (wc.drewN q) ((rd_of_owns hI.dn).later (below_drewN' wc q)) hdlen
              have hcw : ∀ i, i < m + 1 → wc.cell? ⟨bn, fn + i, none⟩ = some (.int .i64 ((val N i : Nat) : Int)) := by
                obtain ⟨b, off, e, _, _, _, h⟩ := rd_nat hI.rn hN (by omega)
                cases e
                exact h
              have HCW := Lib.hid hcw
              clear hcw
              have hki2 : ((k + 1 : Nat) : Int) = (k : Int) + 1 := by omega
              go_wp2_with fail
              go_loopw [12, 13] (fun bb ii wx => ∃ i : Nat, i ≤ m + 1 ∧ ii = .int .i64 i ∧ bb = .int .i64 (bestUp N (a :: S.take k) i) ∧ ∃ q, wx = wc.drewN q) (fun _ ii _ => m + 1 - (intOf ii).toNat)
              case atStart => exact ⟨0, by omega, rfl, rfl, 0, rfl⟩
              case round =>
                obtain ⟨i, hi', rfl, rfl, q, rfl⟩ := hrel
                by_cases hlt : i < m + 1
                · have hii : (i : Int) < ((m + 1 : Nat) : Int) := by omega
                  have c1 := HCW.out i hlt
                  have hbl := bestUp_lt N (a :: S.take k) i
                  have HST : Hid (bestUp N (a :: S.take k) (i + 1) = if i ∉ a :: S.take k ∧ (bestUp N (a :: S.take k) i < 0 ∨ val N (bestUp N (a :: S.take k) i).toNat < val N i) then (i : Int) else bestUp N (a :: S.take k) i) := rfl
                  have KHi := fun q => KH q i
                  clear KH
                  generalize a :: S.take k = D at *
                  generalize bestUp N D i = b at *
                  by_cases hiD : i ∈ D
                  · simp only [decide_eq_true hiD] at KHi
                    have HS2 : Hid (bestUp N D (i + 1) = b) := by show _ = _; rw [HST.out, if_neg (fun h => h.1 hiD)]
                    clear hiD HST hbl
                    go_wp2
                    go_quiet ((go_at_call 29; refine (KHi _).mono ?_; rintro e w' ⟨rfl, rfl⟩; exact ⟨rfl, _, rfl⟩))
                    go_wp2
                    go_roundw
                    case rel => exact ⟨i + 1, by omega, by go_num, by rw [HS2.out], _, rfl⟩
                    case measure => simp [intOf]; omega
                  · simp only [decide_eq_false hiD] at KHi
                    rcases hbl with rfl | ⟨t, ht, rfl⟩
                    · have HS2 : Hid (bestUp N D (i + 1) = (i : Int)) := by show _ = _; rw [HST.out, if_pos ⟨hiD, .inl (by omega)⟩]
                      clear hiD HST
                      go_wp2
                      go_quiet ((go_at_call 29; refine (KHi _).mono ?_; rintro e w' ⟨rfl, rfl⟩; exact ⟨rfl, _, rfl⟩))
                      go_wp2
                      go_roundw
                      case rel => exact ⟨i + 1, by omega, by go_num, by rw [HS2.out], _, rfl⟩
                      case measure => simp [intOf]; omega
                    · have htt : (t : Int) < ((m + 1 : Nat) : Int) := by omega
                      have ht0 : decide ((t : Int) < 0) = false := by simp
                      have ht1 : ¬ (t : Int) < 0 := by omega
                      have c2 := HCW.out t (by omega)
                      by_cases hc : val N t < val N i
                      · have hd : decide (((val N i : Nat) : Int) > ((val N t : Nat) : Int)) = true := by simp; omega
                        have hd' : ((val N t : Nat) : Int) < ((val N i : Nat) : Int) := by omega
                        have HS2 : Hid (bestUp N D (i + 1) = (i : Int)) := by show _ = _; rw [HST.out, if_pos ⟨hiD, .inr (by simpa using hc)⟩]
                        clear hc hiD HST
                        generalize val N t = x at *
                        generalize val N i = y at *
                        go_wp2
                        go_quiet ((go_at_call 29; refine (KHi _).mono ?_; rintro e w' ⟨rfl, rfl⟩; exact ⟨rfl, _, rfl⟩))
                        go_wp2
                        go_roundw
                        case rel => exact ⟨i + 1, by omega, by go_num, by rw [HS2.out], _, rfl⟩
                        case measure => simp [intOf]; omega
                      · have hd : decide (((val N i : Nat) : Int) > ((val N t : Nat) : Int)) = false := by simp; omega
                        have hd' : ¬ ((val N t : Nat) : Int) < ((val N i : Nat) : Int) := by omega
                        have HS2 : Hid (bestUp N D (i + 1) = (t : Int)) := by
                          show _ = _
                          rw [HST.out, if_neg (fun h => by
                            rcases h.2 with h | h
                            · omega
                            · exact hc (by simpa using h))]
                        clear hc hiD HST
                        generalize val N t = x at *
                        generalize val N i = y at *
                        go_wp2
                        go_quiet ((go_at_call 29; refine (KHi _).mono ?_; rintro e w' ⟨rfl, rfl⟩; exact ⟨rfl, _, rfl⟩))
                        go_wp2
                        go_roundw
                        case rel => exact ⟨i + 1, by omega, by go_num, by rw [HS2.out], _, rfl⟩
                        case measure => simp [intOf]; omega
                · obtain rfl : i = m + 1 := by omega
                  have hI2 := hI.later (below_drewN' wc q)
                  generalize wc.drewN q = wd at *
                  clear hI KH HCW
                  by_cases hkl : k < S.length
                  · have hbp := HBP.out k hkl
                    have hSk := HOM.out _ (List.getElem_mem hkl)
                    have hval := HOV.out k hkl
                    have hZ2 : Hid (val N S[k] = 0 → R = none) := fun h => HRN.out (.inr ⟨S[k], List.mem_iff_getElem.2 ⟨k, by simp; omega, by rw [List.getElem_take]⟩, h⟩)
                    have HZ3 : Hid (1 ≤ val N S[k] → ∀ i ∈ S.take (k + 1), 1 ≤ val N i) := fun h i hi => by
                      rw [List.take_succ_eq_append_getElem hkl] at hi
                      rcases List.mem_append.1 hi with hi | hi
                      · exact HZ.out i hi
                      · rw [List.mem_singleton] at hi; rw [hi]; exact h
                    have HTS : Hid (decr (N.set a 0) (S.take (k + 1)) = (decr (N.set a 0) (S.take k)).set S[k] (val N S[k] - 1)) := by
                      show _ = _
                      rw [decr_succ _ _ hkl, hval]
                    have hq7 : val N S[k] ≤ 7 := by rw [val_lt (by omega)]; exact hv _ (List.getElem_mem _)
                    have HSTEP := fun w8 w9 w10 dd' xx' oo' => hI2.step (w8 := w8) (w9 := w9) (w10 := w10) (dd' := dd') (xx' := xx') (oo' := oo') (by omega) hkl
                    simp only [HY.out] at HSTEP
                    have hXl : (decr (N.set a 0) (S.take k)).length = m + 1 := by rw [decr_length]; simp [hN]
                    have cN : wd.cell? ⟨bn, fn + S[k], none⟩ = some (.int .i64 ((val N S[k] : Nat) : Int)) := by
                      obtain ⟨b, off, e, _, _, _, h⟩ := rd_nat hI2.rn hN (by omega)
                      cases e
                      exact h _ hSk.1
                    have hout : Y.length ≤ 100 := by rw [HYL.out]; omega
                    rw [hbp]
                    generalize S[k] = i at *
                    obtain ⟨him, hia⟩ := hSk
                    have hii : (i : Int) < ((m + 1 : Nat) : Int) := by omega
                    have hi0 : decide ((i : Int) < 0) = false := by simp
                    have hi1 : ¬ (i : Int) < 0 := by omega
                    by_cases hq0 : val N i = 0
                    · rw [hq0] at cN
                      have HRN2 := Lib.hid (hZ2.out hq0)
                      have hBw := hI2.below
                      clear hq0 hval hbp HSTEP
                      go_wp2
                      go_ret2
                      exact .inl ⟨HRN2.out, rfl, hBw⟩
                    · obtain ⟨q, hq⟩ : ∃ q, val N i = q + 1 := ⟨val N i - 1, by omega⟩
                      have HZ4 := Lib.hid (HZ3.out (by omega))
                      rw [hq] at cN HTS hq7 hval
                      have e1 : q + 1 - 1 = q := rfl
                      rw [e1] at HTS
                      have hqb : (((q + 1 : Nat) : Int) == 0) = false := by rw [beq_eq_false_iff_ne]; omega
                      have hqb' : ((q : Int) + 1 == 0) = false := by rw [beq_eq_false_iff_ne]; omega
                      have wq : IntKind.i64.wrap ((q : Int) + 1 - 1) = (q : Int) := by rw [IntWalk.i64_in _ (by omega)]; omega
                      have hdn := hI2.dn
                      have hwds := hI2.size
                      have hS8 : S.length ≤ 8 := by omega
                      have hts : IntKind.i64.wrap ((q : Int) + 1 - 1) = ((q : Nat) : Int) := wq
                      have HX8 : Hid (∀ (w8 : World) (v8 : Value), AppTo wd wb.heap.size 3 1 (.slice ad (k + 1) cd) w8 v8 (k + 1 + 1) (nats (a :: S.take k) ++ [.int .i64 ((i : Nat) : Int)]) → Rd w8 (.slice ax (m + 1) cx2) (m + 1) (nats (decr (N.set a 0) (S.take k))) ∧ w8.ownsRow w.heap.size 50 2 (.slice ai Y.length ci) Y.length (cellsOf Y)) := fun w8 v8 hA => by have := (hI2.grew hA).2; rwa [HY.out] at this
                      obtain ⟨bx, fx, rfl, _⟩ := rd_nat hI2.rx hXl (by omega)
                      have HHX := Lib.hid hI2
                      clear hq0 hq HZ3 hZ2 hbp e1 hI2
                      by_cases hai' : a < i
                      · have hlt : decide ((a : Int) < (i : Int)) = true := by simp; omega
                        have hlt' : (a : Int) < (i : Int) := by omega
                        have HPL : Hid (cellsOf [pairL a i] = [.int .i64 (a : Int), .int .i64 (i : Int)]) := by show _ = _; unfold pairL; rw [Int.min_eq_left (by omega), Int.max_eq_right (by omega)]; rfl
                        clear hai' hia
                        go_wp2_with (at_builtin; go_must (refine wpl_app _ _ _ (AppTo.refl hdn) rfl rfl Tryd.underlying22 hi hz0 hz1 hz2 rfl (by decide) rfl rfl rfl (by simp [Value.oneCell']) (by decide) (by omega) hwds.2 ?_); intro v8 w8 hA8 hne8 hst8; obtain ⟨hx8, ho8⟩ := HX8.out w8 v8 hA8; have cx8 := (rd_nat hx8 hXl (by omega)); obtain ⟨bx8, fx8, ex8, hbx8, hbc8, hbm8, cx8⟩ := cx8; cases ex8; have cx9 := cx8 i him; rw [hval] at cx9; clear cx8)
                        refine (refSetN _ (m + 1) _ i q _ hx8 hXl him (by omega)).mono ?_
                        rintro e w9 ⟨g9, c9, rfl, o9, hB9⟩
                        have ho9 := owns_later ho8 hB9
                        rw [← HTS.out] at o9
                        have hs9 : w.heap.size ≤ w9.heap.size := by have := hA8.grown.size; have := hB9.size; omega
                        clear cx9 hx8 ho8
                        go_wp2_with (at_builtin; go_must (refine wpl_app _ _ _ (AppTo.refl ho9) rfl rfl Tryd.underlying24 hj hy0 hy1 hy2 rfl (by decide) rfl rfl rfl (by simp [Value.oneCell']) (by decide) (Nat.le_trans hout (by decide)) hs9 ?_); intro v10 w10 hA10 hne10 hst10)
                        have hAo := hA10
                        rw [show (#[.int .i64 (a : Int), .int .i64 (i : Int)] : Array Value).toList = cellsOf [pairL a i] from HPL.out.symm] at hAo
                        have hNew := HSTEP w8 w9 w10 _ _ _ hA8 o9 hB9 hAo
                        go_roundw
                        case rel => exact ⟨k + 1, by omega, by omega, by go_num, hNew, HZ4⟩
                        case measure => simp [intOf]; omega
                      · have hlt : decide ((a : Int) < (i : Int)) = false := by simp; omega
                        have hlt' : ¬ (a : Int) < (i : Int) := by omega
                        have HPL : Hid (cellsOf [pairL a i] = [.int .i64 (i : Int), .int .i64 (a : Int)]) := by show _ = _; unfold pairL; rw [Int.min_eq_right (by omega), Int.max_eq_left (by omega)]; rfl
                        clear hai' hia
                        go_wp2_with (at_builtin; go_must (refine wpl_app _ _ _ (AppTo.refl hdn) rfl rfl Tryd.underlying22 hi hz0 hz1 hz2 rfl (by decide) rfl rfl rfl (by simp [Value.oneCell']) (by decide) (by omega) hwds.2 ?_); intro v8 w8 hA8 hne8 hst8; obtain ⟨hx8, ho8⟩ := HX8.out w8 v8 hA8; have cx8 := (rd_nat hx8 hXl (by omega)); obtain ⟨bx8, fx8, ex8, hbx8, hbc8, hbm8, cx8⟩ := cx8; cases ex8; have cx9 := cx8 i him; rw [hval] at cx9; clear cx8)
                        refine (refSetN _ (m + 1) _ i q _ hx8 hXl him (by omega)).mono ?_
                        rintro e w9 ⟨g9, c9, rfl, o9, hB9⟩
                        have ho9 := owns_later ho8 hB9
                        rw [← HTS.out] at o9
                        have hs9 : w.heap.size ≤ w9.heap.size := by have := hA8.grown.size; have := hB9.size; omega
                        clear cx9 hx8 ho8
                        go_wp2_with (at_builtin; go_must (refine wpl_app _ _ _ (AppTo.refl ho9) rfl rfl Tryd.underlying24 hj hy0 hy1 hy2 rfl (by decide) rfl rfl rfl (by simp [Value.oneCell']) (by decide) (Nat.le_trans hout (by decide)) hs9 ?_); intro v10 w10 hA10 hne10 hst10)
                        have hAo := hA10
                        rw [show (#[.int .i64 (i : Int), .int .i64 (a : Int)] : Array Value).toList = cellsOf [pairL a i] from HPL.out.symm] at hAo
                        have hNew := HSTEP w8 w9 w10 _ _ _ hA8 o9 hB9 hAo
                        go_roundw
                        case rel => exact ⟨k + 1, by omega, by omega, by go_num, hNew, HZ4⟩
                        case measure => simp [intOf]; omega
                  · obtain rfl : k = S.length := by omega
                    have hbn := HBN.out
                    have HRN2 := Lib.hid (HRN.out (.inl hkp))
                    have hBw := hI2.below
                    rw [hbn]
                    go_wp2
                    go_ret2
                    exact .inl ⟨HRN2.out, rfl, hBw⟩
            · obtain rfl : k = p := by omega
              obtain ⟨hRY, hsm⟩ := HRY.out hkS HZ.out
              obtain ⟨hX7, hXl⟩ := HNW.out
              have HRY2 := Lib.hid hRY
              have hrx := hI.rx
              have how := hI.own
              have hbw := hI.below
              have hsp := hI.s1
              rw [HY.out] at how
              have HRY3 : Hid (R = (hav f (decr (N.set a 0) (S.take k))).map fun l => Y ++ l) := by show _ = _; rw [HRY2.out, HY.out]
              clear hRY HRY2
              go_wp2
              go_roundw
              case rel => exact ⟨_, _, f, hrx, how, hbw, fun g hg => (hsp g hg).2.1, hXl, hX7, by omega, by rw [HYL.out]; omega, HRY3⟩
              case measure => simp [lenOf]; rw [HYL.out]; omega
end Go.Proofs.YtgjkefniknbdeaaDoor
