/- What havel.Make returns: the walk. Conditions: in each statement. -/
import Derived.Test.YtmkdkjdbmnocoaaHavelMem
namespace Go.Proofs.Ytmkdkjdbmnocoaa
open Go.RowKit Gr

set_option maxRecDepth 100000 in
set_option maxHeartbeats 1000000 in
theorem make_bad (v : Value) (n : Nat) (xs : List Int) (w : World) (hr : Rd w v n (ints xs)) (hx : xs.length = n) (hc : degChk xs ≠ 0) :
    Calls Try.prog 16 #[v] w fun e w' => e = .returned (.tuple #[.slice none 0 0, errV (degChk xs)]) ∧ w = w' := by
  have KC := degCheck_any v n xs w hr hx
  have HC := Lib.hid (errOf_pos hc)
  clear hc
  go_enter Try.func16, Try.ntmps16
  go_wp2_with fail
  refine KC.mono ?_
  rintro e w' ⟨rfl, rfl⟩
  rw [HC.out]
  go_wp2
  go_ret2
  exact ⟨rfl, rfl⟩

/-- the answer: no lines, or new ones -/
def MadeR (r : Option (List Ln)) (b0 : Nat) (w : World) (e : Ending) (w' : World) : Prop :=
  (r = none ∧ e = .returned (.tuple #[.slice none 0 0, errV 5]) ∧ Below b0 w w') ∨
  ∃ L a c, r = some L ∧ e = .returned (.tuple #[.slice a L.length c, .nilIface]) ∧ w'.ownsRow b0 45 2 (.slice a L.length c) L.length (cellsOf L) ∧ Below b0 w w'

theorem ids_succ (a k : Nat) : (List.range (k + 1)).filter (fun i => decide (i ≠ a)) = (List.range k).filter (fun i => decide (i ≠ a)) ++ (if k = a then [] else [k]) := by
  rw [List.range_succ, List.filter_append]
  congr 1
  by_cases h : k = a <;> simp [h]
theorem ids_le (a k : Nat) : ((List.range k).filter fun i => decide (i ≠ a)).length ≤ k := by
  refine Nat.le_trans (List.length_filter_le _ _) ?_; simp

theorem setSize (W : World) (a : Addr) (v : Value) : (W.setCell a v).heap.size = W.heap.size := by simp [World.setCell]
/-- what the others need is not what a needs -/
theorem ord_same (N : List Nat) (a : Nat) (ha : a < N.length) : (((List.range N.length).filter fun i => decide (i ≠ a)).mergeSort fun x y => decide (leN (N.set a 0) x y)) = ordN N a := by
  unfold ordN
  have h := List.map_mergeSort (f := id) (r := fun x y => decide (leN (N.set a 0) x y)) (s := fun x y => decide (leN N x y)) (l := (List.range N.length).filter fun i => decide (i ≠ a)) (fun x hx y hy => by
    have hx' : x ≠ a := by simpa using (List.mem_filter.1 hx).2
    have hy' : y ≠ a := by simpa using (List.mem_filter.1 hy).2
    rw [decide_eq_decide]
    unfold leN
    rw [val_set ha, val_set ha, if_neg hx', if_neg hy']
    rfl)
  simpa using h
theorem take_val {N : List Nat} {a j : Nat} (ha : a = atUp N N.length) (h0 : 0 < N.length) (hj : j < (takeN N).length) : val (decr (N.set a 0) ((takeN N).take j)) (takeN N)[j] = val N (takeN N)[j] := by
  have hm := takeN_mem (List.getElem_mem hj)
  have hal : a < N.length := by rw [ha]; exact (atUp_ok N N.length h0).1
  have hnd := takeN_nodup N
  rw [decr_val _ _ (hnd.sublist (List.take_sublist _ _)) (fun i hi => by simp; exact (takeN_mem (List.mem_of_mem_take hi)).1), if_neg ?_, val_set hal, if_neg (by rw [ha]; exact hm.2)]
  intro h
  obtain ⟨q, hq, e⟩ := List.mem_iff_getElem.1 h
  rw [List.getElem_take] at e
  have hqj : q < j := by simp at hq; omega
  exact List.pairwise_iff_getElem.1 hnd q j (by omega) hj hqj e

set_option maxRecDepth 100000 in
set_option maxHeartbeats 8000000 in
theorem make_ok (v : Value) (m : Nat) (N0 : List Nat) (w : World) (hr : Rd w v (m + 1) (nats N0)) (hN0 : N0.length = m + 1) (hm : m ≤ 7) (hv0 : ∀ x ∈ N0, x ≤ 7) :
    Calls Try.prog 16 #[v] w (MadeR (hav (N0.sum + 1) N0) w.heap.size w) := by
  obtain ⟨i0, hi, hz0, hz1, hz2⟩ := info_parts info_int
  obtain ⟨j0, hj, hy0, hy1, hy2⟩ := info_parts info_line
  have hni : nats N0 = ints (N0.map fun (i : Nat) => (i : Int)) := by simp [nats, ints, List.map_map]
  rw [hni] at hr
  have hil : (N0.map fun (i : Nat) => (i : Int)).length = m + 1 := by simp [hN0]
  have hc0 : degChk (N0.map fun (i : Nat) => (i : Int)) = 0 := degChk_zero.2 ⟨by omega, by omega, fun x hx => by
    obtain ⟨y, hy, rfl⟩ := List.mem_map.1 hx
    have := hv0 y hy
    omega⟩
  have KC := degCheck_any v (m + 1) _ w hr hil
  have he : errOf 0 = .nilIface := rfl
  rw [hc0, he] at KC
  have KL := clone_ok w v (m + 1) _ hr hil (by omega) (by omega)
  rw [← hni] at KL
  have hS0 : N0.sum ≤ 56 := by
    have key : ∀ l : List Nat, (∀ x ∈ l, x ≤ 7) → l.sum ≤ 7 * l.length := by
      intro l
      induction l with
      | nil => intro _; simp
      | cons x l ih =>
        intro h
        have := ih fun y hy => h y (List.mem_cons_of_mem _ hy)
        have := h x List.mem_cons_self
        simp only [List.sum_cons, List.length_cons]
        omega
    have := key N0 hv0
    omega
  have hlt0 : N0.sum < N0.sum + 1 := by omega
  generalize hF : N0.sum + 1 = F at *
  generalize hR : hav F N0 = R
  have HR0 : Hid (R = (hav F N0).map fun l => ([] : List Ln) ++ l) := by
    show _ = _
    rw [hR]
    cases R <;> simp
  have hsum0 : 2 * ([] : List Ln).length + N0.sum = N0.sum := by simp
  generalize hS : N0.sum = S0 at hS0 hsum0
  rw [hS] at hlt0
  clear hR hF he hc0 hil hni
  obtain ⟨av, cv, rfl, _⟩ := id hr
  go_enter Try.func16, Try.ntmps16
  go_wp2_with fail
  refine KC.mono ?_
  rintro e w' ⟨rfl, rfl⟩
  go_wp2_with fail
  refine KL.mono ?_
  rintro e w1 ⟨v1, rfl, o1, hB1⟩
  obtain ⟨g, c, rfl⟩ := owns_pos o1 (by omega)
  have hg1 := o1.lt g rfl
  have hM0 : HMem w.heap.size w (w1.alloc (.cells #[.slice (some ⟨g, 0, none⟩) (m + 1) c] 24)) w1.heap.size g c (m + 1) N0 (.slice none 0 0) [] := by
    refine ⟨cell_of_one (World.alloc_heap_new _ _), ⟨hB1.size, by simp⟩, owns_later o1 (below_alloc' _ _), ?_, by omega, fun h e => (by cases e), hB1.trans ((below_alloc' _ _).mono hB1.size), by have := hB1.size; simp; omega⟩
    simpa [cellsOf] using World.ownsRow_nil _ w.heap.size 45 2
  generalize hBx : w1.heap.size = B at *
  clear KC KL o1 hB1 hr hg1
  go_wp2_with fail
  go_loopw [6] (fun oo wr => ∃ (N : List Nat) (out : List Ln) (f : Nat), HMem w.heap.size w wr B g c (m + 1) N oo out ∧ N.length = m + 1 ∧ (∀ x ∈ N, x ≤ 7) ∧ N.sum < f ∧ 2 * out.length + N.sum = S0 ∧ Hid (R = (hav f N).map fun l => out ++ l)) (fun oo _ => S0 - lenOf oo)
  case atStart => exact ⟨N0, [], F, hM0, hN0, hv0, by omega, by omega, HR0⟩
  case round =>
    clear hM0 HR0 hN0 hv0 hsum0 hlt0 hS
    obtain ⟨N, out, f, hM, hN, hv, hf, hsum, HR⟩ := hrel
    obtain ⟨wa, hwa⟩ : ∃ wa, wa = wr := ⟨wr, rfl⟩
    subst hwa
    have hout := hM.out
    obtain ⟨ao, co, rfl⟩ := owns_slice hout
    clear hout
    have ho28 : out.length ≤ 28 := by omega
    have hcells : ∀ i, i < m + 1 → wa.cell? ⟨g, i, none⟩ = some (.int .i64 ((val N i : Nat) : Int)) := fun i hi => hM.at_ (by omega)
    have hbox := hM.box
    have HA := Lib.hid (atUp_ok N N.length (by omega))
    rw [hN] at HA
    obtain ⟨f, rfl⟩ : ∃ f', f = f' + 1 := ⟨f - 1, by omega⟩
    have HH : Hid (hav (f + 1) N = if val N (atUp N (m + 1)) = 0 then some [] else if (ordN N (atUp N (m + 1))).length < val N (atUp N (m + 1)) then none else if (takeN N).any (fun i => val N i == 0) then none else (hav f (nextN N)).map fun l => (takeN N).map (pairL (atUp N (m + 1))) ++ l) := by show _ = _; rw [hav, hN]
    have hTN : Hid (takeN N = (ordN N (atUp N (m + 1))).take (val N (atUp N (m + 1)))) := by show _ = _; unfold takeN; rw [hN]
    have hNX : Hid (nextN N = decr (N.set (atUp N (m + 1)) 0) (takeN N)) := by show _ = _; unfold nextN; rw [hN]
    have HEA : Hid (atUp N (m + 1) = atUp N N.length) := by show _ = _; rw [hN]
    have hMq := fun q => hM.later (below_drewN' wa q)
    have KMx := fun q => max_ok N g (m + 1) c (wa.drewN q) (by omega) (by omega) hN (fun i hi => (hMq q).at_ (by omega))
    have KIx := fun q => index_ok N g (m + 1) c (wa.drewN q) (by omega) (by omega) hN (fun i hi => (hMq q).at_ (by omega))
    generalize atUp N (m + 1) = a at *
    have ham : a < m + 1 := HA.out.1
    have ca := hcells a ham
    have hp7 : val N a ≤ 7 := by rw [val_lt (by omega)]; exact hv _ (List.getElem_mem _)
    have hfz := hM.row.frozenAt a
    generalize hpe : val N a = p at *
    have HPE := Lib.hid hpe
    clear hcells hpe
    have hai : (a : Int) < ((m + 1 : Nat) : Int) := by omega
    have hMs : ∀ q, HMem w.heap.size w ((wa.drewN q).setCell ⟨g, a, none⟩ (.int .i64 0)) B g c (m + 1) (N.set a 0) (.slice ao out.length co) out := fun q => (hMq q).set a 0
    have hbs := fun q => (hMs q).box
    have hBg := hM.lt
    have hob := hM.out.lt
    have hbsz := hM.size
    go_wp2_with fail
    go_quiet ((first
      | (go_at_call 30; refine (KMx _).mono ?_; rintro e w' ⟨rfl, rfl⟩; exact ⟨rfl, _, rfl⟩)
      | (go_at_call 29; refine (KIx _).mono ?_; rintro e w' ⟨rfl, rfl⟩; exact ⟨rfl, _, rfl⟩)))
    by_cases hp0 : p = 0
    · have hpb : ((p : Int) == 0) = true := by simp [hp0]
      have HRS : Hid (R = some out) := by
        show _ = _
        rw [HR.out, HH.out, if_pos hp0]; simp
      clear hp0
      go_wp2
      go_ret2
      exact .inr ⟨out, ao, co, HRS.out, rfl, (hMq _).out, (hMq _).below⟩
    · have hpb : ((p : Int) == 0) = false := by rw [beq_eq_false_iff_ne]; omega
      go_wp2_with fail
      go_loopw [9, 36] (fun oo ii wx => ∃ k : Nat, k ≤ m + 1 ∧ ii = .int .i64 k ∧ HMem w.heap.size w wx B g c (m + 1) (N.set a 0) (.slice ao out.length co) out ∧ wx.ownsRow wa.heap.size 3 1 oo ((List.range k).filter fun i => decide (i ≠ a)).length (nats ((List.range k).filter fun i => decide (i ≠ a))) ∧ wa.heap.size ≤ wx.heap.size) (fun _ ii _ => m + 1 - (intOf ii).toNat)
      case atStart => exact ⟨0, by omega, rfl, hMs _, World.ownsRow_nil _ _ _ _, by rw [setSize]; exact Nat.le_refl _⟩
      case round =>
        clear hMs hbs hMq KMx KIx
        obtain ⟨k, hk, rfl, hMx, hox, hsx⟩ := hrel
        obtain ⟨aq, cq, rfl⟩ := owns_slice hox
        by_cases hlt : k < m + 1
        · have hki : (k : Int) < ((m + 1 : Nat) : Int) := by omega
          have HIS := Lib.hid (ids_succ a k)
          have hil := ids_le a k
          have hosx := hox.lt
          generalize (List.range k).filter (fun i => decide (i ≠ a)) = I at *
          by_cases hka : k = a
          · have hkb : ((k : Int) != (a : Int)) = false := by simp [hka]
            have HI2 : Hid ((List.range (k + 1)).filter (fun i => decide (i ≠ a)) = I) := by show _ = _; rw [HIS.out, if_pos hka, List.append_nil]
            clear hka HIS
            go_wp2
            go_roundw
            case rel => exact ⟨k + 1, by omega, by go_num, hMx, by rw [HI2.out]; exact hox, hsx⟩
            case measure => simp [intOf]; omega
          · have hkb : ((k : Int) != (a : Int)) = true := by simp; omega
            have HI2 : Hid ((List.range (k + 1)).filter (fun i => decide (i ≠ a)) = I ++ [k]) := by show _ = _; rw [HIS.out, if_neg hka]
            clear hka HIS
            go_wp2_with (at_builtin; go_must (refine wpl_app _ _ _ (AppTo.refl hox) rfl rfl Try.underlying24 hi hz0 hz1 hz2 rfl (by decide) rfl rfl rfl (by simp [Value.oneCell']) (by decide) (by omega) hsx ?_); intro v8 w8 hA8 hne8 hst8)
            go_roundw
            case rel =>
              refine ⟨k + 1, by omega, by go_num, hMx.grown hA8.grown (fun r hr => ?_), ?_, Nat.le_trans hsx hA8.grown.size⟩
              · have h1 := hosx r hr
                exact ⟨by omega, by omega, by omega, fun e => by have := (hob r e).2; omega⟩
              · rw [HI2.out]
                simpa [nats] using hA8.own
            case measure => simp [intOf]; omega
        · obtain rfl : k = m + 1 := by omega
          have hIe : Hid (((List.range (m + 1)).filter fun i => decide (i ≠ a)).mergeSort (fun x y => decide (leN (N.set a 0) x y)) = ordN N a) := by
            have h := ord_same N a (by omega)
            rw [hN] at h
            exact h
          have hIl : ((List.range (m + 1)).filter fun i => decide (i ≠ a)).length = (ordN N a).length := by
            have h := (ordN_perm N a).length_eq
            rw [hN] at h
            exact h.symm
          have hSl := ordN_length (N := N) (a := a) (by omega)
          have hosx := hox.lt
          have hal : a < N.length := by omega
          have KS := stable_ok (m := m) (N.set a 0) (by simp [hN]) (fun x hx => by
            rcases List.mem_or_eq_of_mem_set hx with h | h
            · exact hv x h
            · omega) B g c wr hMx.box (fun i hi => hMx.at_ (by simp; omega)) wa.heap.size _ cq aq _ hox (fun i hi => List.mem_range.1 (List.mem_filter.1 hi).1) (List.Pairwise.filter _ List.pairwise_lt_range) (by omega) (fun h e => by have := (hosx h e).1; omega)
          rw [hIe.out] at KS
          rw [hIl] at KS hosx ⊢
          go_wp2_with fail
          refine KS.mono ?_
          rintro e w2 ⟨rfl, ho2, hg2⟩
          have hM2 : HMem w.heap.size w w2 B g c (m + 1) (N.set a 0) (.slice ao out.length co) out := hMx.grown hg2 (fun r hr => by
            have h1 := hosx r hr
            exact ⟨by omega, by omega, by omega, fun e => by have := (hob r e).2; omega⟩)
          have hs2 : wa.heap.size ≤ w2.heap.size := Nat.le_trans hsx hg2.size
          have HTL : Hid (¬ (ordN N a).length < p → (takeN N).length = p) := fun h => by
            rw [hTN.out, List.length_take]; omega
          have HTM : Hid (∀ i ∈ takeN N, i < m + 1 ∧ i ≠ a) := fun i hi => by
            have := takeN_mem hi
            rw [← HEA.out, hN] at this
            exact this
          have HTV : Hid (∀ (j : Nat) (hj : j < (takeN N).length), val (decr (N.set a 0) ((takeN N).take j)) (takeN N)[j] = val N (takeN N)[j]) := fun j hj => take_val HEA.out (by omega) hj
          have HNS : Hid (¬ (ordN N a).length < p → (∀ i ∈ takeN N, 1 ≤ val N i) → (nextN N).sum + 2 * p = N.sum) := fun h1 h2 => by
            have := nextN_sum (N := N) (by omega) (by rw [← HEA.out, HPE.out]; exact h1) h2
            rw [← HEA.out, HPE.out] at this
            exact this
          have HNV : Hid (∀ x ∈ nextN N, x ≤ 7) := fun x hx => by
            obtain ⟨j, hj, e⟩ := List.mem_iff_getElem.1 hx
            have h1 := nextN_val (N := N) (by omega) j
            rw [val_lt hj, e] at h1
            have hjN : j < N.length := by rw [← nextN_length N]; exact hj
            have h2 : val N j ≤ 7 := by rw [val_lt hjN]; exact hv _ (List.getElem_mem _)
            rw [h1]
            split
            · omega
            · split <;> omega
          have HNL : Hid ((nextN N).length = m + 1) := by show _ = _; rw [nextN_length, hN]
          have hS8 : (ordN N a).length ≤ 8 := by omega
          generalize ordN N a = S at *
          generalize takeN N = T at *
          clear KS hox hMx hg2 hIe hIl HEA hSl
          by_cases hbad : S.length < p
          · have hd : decide ((p : Int) > (S.length : Int)) = true := by simp; omega
            have hd' : (S.length : Int) < (p : Int) := by omega
            have HRN : Hid (R = none) := by
              show _ = _
              rw [HR.out, HH.out, if_neg hp0, if_pos hbad]; rfl
            clear hbad
            go_wp2
            go_ret2
            exact .inl ⟨HRN.out, rfl, hM2.below⟩
          · have hd : decide ((p : Int) > (S.length : Int)) = false := by simp; omega
            have hd' : ¬ (S.length : Int) < (p : Int) := by omega
            have hTl := HTL.out hbad
            have HH2 : Hid (hav (f + 1) N = if (T.any fun i => val N i == 0) = true then none else (hav f (nextN N)).map fun l => T.map (pairL a) ++ l) := by
              show _ = _
              rw [HH.out, if_neg hp0, if_neg hbad]
            have hNS := HNS.out hbad
            have hpS : p ≤ S.length := by omega
            obtain ⟨h, ch, e⟩ := owns_pos ho2 (by omega)
            cases e
            have hh := ho2.lt h rfl
            have hcq := (rd_of_owns ho2).bounds.2.1
            have HNSS := Lib.hid hNS
            clear hbad HH HTL HNS hNS
            have hpl : (p : Int) ≤ (cq : Int) := by omega
            go_wp2_with fail
            go_loopw [6, 59] (fun oo jj wx => ∃ j : Nat, j ≤ p ∧ jj = .int .i64 j ∧ HMem w.heap.size w wx B g c (m + 1) (decr (N.set a 0) (T.take j)) oo (out ++ (T.take j).map (pairL a)) ∧ wx.ownsRow wa.heap.size 3 1 (.slice (some ⟨h, 0, none⟩) S.length cq) S.length (nats S) ∧ (∀ r, oo.ownBlock = some r → r ≠ h) ∧ wa.heap.size ≤ wx.heap.size ∧ Hid (∀ i ∈ T.take j, 1 ≤ val N i)) (fun _ jj _ => p - (intOf jj).toNat)
            case atStart => exact ⟨0, by omega, rfl, by simpa [decr] using hM2, ho2, fun r hr => by have := (hob r hr).2; omega, hs2, Lib.hid (by simp)⟩
            case round =>
              clear hM2 ho2 hs2
              obtain ⟨j, hj', rfl, hMj, hoj, hdj, hsj, HZ⟩ := hrel
              have houtj := hMj.out
              obtain ⟨ai, ci, rfl⟩ := owns_slice houtj
              clear houtj
              by_cases hjp : j < p
              · have hji : (j : Int) < (p : Int) := by omega
                have hjT : j < T.length := by omega
                have hjS : j < S.length := by omega
                have hTj := HTM.out _ (List.getElem_mem hjT)
                have hval := HTV.out j hjT
                have hsij : S[j] = T[j] := by
                  have : T[j]? = S[j]? := by rw [hTN.out, List.getElem?_take, if_pos (by omega)]
                  rw [List.getElem?_eq_getElem hjT, List.getElem?_eq_getElem hjS] at this
                  exact (Option.some.inj this).symm
                have cj : wr.cell? ⟨h, j, none⟩ = some (.int .i64 ((T[j] : Nat) : Int)) := by
                  rw [← hsij]
                  exact owns_at hoj (by simp [nats, hjS])
                have ciN := hMj.at_ (i := T[j]) (by rw [decr_length]; simp; omega)
                rw [hval] at ciN
                have hfi := hMj.row.frozenAt T[j]
                have hbj := hMj.box
                have HTS : Hid (decr (N.set a 0) (T.take (j + 1)) = (decr (N.set a 0) (T.take j)).set T[j] (val N T[j] - 1)) := by
                  show _ = _
                  rw [decr_succ _ _ hjT, hval]
                have HTS2 : Hid (out ++ (T.take (j + 1)).map (pairL a) = (out ++ (T.take j).map (pairL a)) ++ [pairL a T[j]]) := by
                  show _ = _
                  rw [List.take_succ_eq_append_getElem hjT, List.map_append, List.append_assoc]; rfl
                have HTZ : Hid (1 ≤ val N T[j] → ∀ i ∈ T.take (j + 1), 1 ≤ val N i) := fun h i hi => by
                  rw [List.take_succ_eq_append_getElem hjT] at hi
                  rcases List.mem_append.1 hi with hi | hi
                  · exact HZ.out i hi
                  · rw [List.mem_singleton] at hi; rw [hi]; exact h
                have hq7 : val N T[j] ≤ 7 := by rw [val_lt (by omega)]; exact hv _ (List.getElem_mem _)
                have HAny : Hid (val N T[j] = 0 → (T.any fun i => val N i == 0) = true) := fun h => List.any_eq_true.2 ⟨T[j], List.getElem_mem hjT, by simp [h]⟩
                have hli : (out ++ (T.take j).map (pairL a)).length ≤ 100 := by simp; omega
                generalize T[j] = i at *
                have hii : (i : Int) < ((m + 1 : Nat) : Int) := by omega
                have hsz := hMj.size
                by_cases hq0 : val N i = 0
                · rw [hq0] at ciN
                  have HRN : Hid (R = none) := by
                    show _ = _
                    rw [HR.out, HH2.out, if_pos (HAny.out hq0)]; rfl
                  clear hq0 hval hsij
                  go_wp2
                  go_ret2
                  exact .inl ⟨HRN.out, rfl, hMj.below⟩
                · obtain ⟨q, hq⟩ : ∃ q, val N i = q + 1 := ⟨val N i - 1, by omega⟩
                  have HZ2 := Lib.hid (HTZ.out (by omega))
                  rw [hq] at ciN HTS hq7
                  have e1 : q + 1 - 1 = q := rfl
                  rw [e1] at HTS
                  have hqb : (((q + 1 : Nat) : Int) == 0) = false := by rw [beq_eq_false_iff_ne]; omega
                  have hqb' : ((q : Int) + 1 == 0) = false := by rw [beq_eq_false_iff_ne]; omega
                  have wq : IntKind.i64.wrap ((q : Int) + 1 - 1) = (q : Int) := by rw [IntWalk.i64_in _ (by omega)]; omega
                  have hSet := hMj.set i q
                  have hhg : h ≠ g := by omega
                  have hos := World.ownsRow.kept hoj (grownBy_setCell_at wr g i (.int .i64 ((q : Nat) : Int))) (.inr (fun e => hhg (by injection e)))
                  have hoS := hSet.out
                  clear hq0 hval hsij hq HTZ HAny e1
                  generalize out ++ (T.take j).map (pairL a) = Y at *
                  go_wp2_with (at_builtin; go_must (refine wpl_app _ _ _ (AppTo.refl hoS) rfl rfl Try.underlying22 hj hy0 hy1 hy2 rfl (by decide) rfl (by rw [setSize]; rfl) rfl (by simp [Value.oneCell']) (by decide) (by omega) (by rw [setSize]; exact hsz) ?_); intro v8 w8 hA8 hne8 hst8)
                  go_roundw
                  case rel =>
                    refine ⟨_, _, _, _, _, ?_, rfl, rfl, rfl, rfl, rfl⟩
                    refine ⟨j + 1, by omega, by go_num, ?_, ?_, ?_, ?_, HZ2⟩
                    · rw [HTS.out]
                      have e := HTS2.out
                      have h1 := hSet.app (l := pairL a i) hA8
                      rw [← e] at h1
                      first | exact h1 | (rw [List.map_take] at h1; exact h1)
                    · exact World.ownsRow.kept hos hA8.grown (.inr (fun e => hdj h e.symm rfl))
                    · intro r hr
                      rcases hA8.at_ with e | e
                      · rw [e] at hr; exact hdj r hr
                      · have h1 := e r hr
                        rw [setSize] at h1
                        have := (hoj.lt h rfl).2
                        omega
                    · have := hA8.grown.size
                      rw [setSize] at this
                      omega
                  case measure => simp [intOf]; omega
              · obtain rfl : j = p := by omega
                have eT : T.take j = T := List.take_of_length_le (by omega)
                rw [eT, ← hNX.out] at hMj
                have hz1 := HZ.out
                rw [eT] at hz1
                have hns := HNSS.out hz1
                have hlen : (out ++ T.map (pairL a)).length = out.length + j := by simp [hTl]
                rw [eT]
                have HR2 : Hid (R = (hav f (nextN N)).map fun l => (out ++ T.map (pairL a)) ++ l) := by
                  show _ = _
                  rw [HR.out, HH2.out, if_neg (by
                    rw [List.any_eq_true]
                    rintro ⟨i, hi, e⟩
                    have := hz1 i hi
                    simp at e
                    omega)]
                  rw [Option.map_map]
                  congr 1
                  funext l
                  simp
                go_wp2
                go_roundw
                case rel => exact ⟨nextN N, _, f, hMj, HNL.out, HNV.out, by omega, by rw [hlen]; omega, HR2⟩
                case measure => simp [lenOf]; rw [hTl]; omega
end Go.Proofs.Ytmkdkjdbmnocoaa
