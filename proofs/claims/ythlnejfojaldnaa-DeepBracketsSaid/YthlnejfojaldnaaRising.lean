/- What R.Rising returns: the walk. Conditions: in each statement. -/
import Derived.Test.YthlnejfojaldnaaGraph
import Derived.Test.YthlnejfojaldnaaRisingP
import Derived.Test.YthlnejfojaldnaaQueue
namespace Go.Proofs.Ythlnejfojaldnaa
open Go.RowKit Gr

theorem info_bool : (Try.prog.info? 4).map (fun i => (i.zero, i.size, i.bytes)) = some (some (.bool false), 1, 1) := by kernel_rfl
abbrev bools (us : List Bool) : List Value := us.map Value.bool
theorem bools_get {us : List Bool} {k : Nat} (h : k < us.length) : (bools us)[k]? = some (.bool us[k]) := by simp [bools, h]
theorem bools_set (us : List Bool) (k : Nat) (b : Bool) : (bools us).set k (.bool b) = bools (us.set k b) := by simp [bools, List.map_set]

/-- 'append(s, x)' of one element, where the block's number is written otherwise -/
theorem wpl_appB {P : Program} {ops : Array Oper} {rest : List Oper} {o : Oper} {a : Act} {Q : Exit → Act → World → Prop} (s x : Operand) (t : TypeId)
    {w0 w : World} {base : Nat} {e : TypeId} {size bytes : Nat} {v0 v : Value} {n : Nat} {xs : List Value} {vals : Array Value} {i : TypeInfo} {z : Value} {b : Nat} (hb : b = w.heap.size)
    (hA : AppTo w0 base e size v0 w v n xs)
    (hgd : o.guard = none) (ho : o.op = .call { callee := .builtin .append, args := #[s, x], argTypes := #[t, t] })
    (ht : P.underlying t = some (.slice e)) (hi : P.info? e = some i) (hz : i.zero = some z) (hsize : i.size = size) (hby : i.bytes = bytes) (hzs : z.cells.size = size) (hsz : 0 < size)
    (hs : a.eval s = v) (hx : a.eval x = .slice (some ⟨b, 0, none⟩) 1 1) (hl : vals.size = size) (h1 : ∀ u ∈ vals.toList, u.oneCell' = true)
    (hby2 : bytes ≤ 1000) (h63 : n ≤ 100000000000) (hbase0 : base ≤ w0.heap.size)
    (h : ∀ v' w', AppTo w0 base e size v0 w' v' (n + 1) (xs ++ vals.toList) → v' ≠ .slice none 0 0 → Below base w w' → wpList P ops Q rest (a.put o.dst v') w') :
    wpList P ops Q (o :: rest) a (w.alloc (.cells vals e)) := by
  subst hb
  exact wpl_app s x t hA hgd ho ht hi hz hsize hby hzs hsz hs hx hl h1 hby2 h63 hbase0 h

set_option maxRecDepth 100000 in
set_option maxHeartbeats 2000000 in
theorem rising_any (v : Value) (xs : List Int) (w : World) (hr : Rd w v xs.length (ints xs)) (hm : xs.length ≤ 1000000) :
    Calls Try.prog 17 #[v] w fun e w' => ∃ ys a c, e = .returned (.slice a xs.length c) ∧ ys.Perm xs ∧ ys.Pairwise (· ≤ ·) ∧ Rd w' (.slice a xs.length c) xs.length (ints ys) ∧ Below w.heap.size w w' := by
  obtain ⟨i0, hi, hz0, hz1, hz2⟩ := info_parts info_bool
  obtain ⟨i1, hi', hy0, hy1, hy2⟩ := info_parts info_int
  have hv : ∃ av cv, v = .slice av xs.length cv := by obtain ⟨av, cv, hv, _⟩ := hr; exact ⟨av, cv, hv⟩
  obtain ⟨av, cv, rfl⟩ := hv
  go_enter Try.func17, Try.ntmps17
  go_wp2_with (at_make; go_must (refine wpList_make_full _ rfl _ _ _ rfl w.heap.size 4 i0 (.bool false) 1 Try.underlying65 hi hz0 hz1 .i64 .i64 _ _ xs.length rfl rfl rfl rfl (by rw [hz2]; omega) (by unfold maxLen; omega) (Nat.le_refl _) ?_); intro w1 hown hgr)
  have ez : (madeCells (Value.bool false).cells (xs.length * 1)).toList = bools (List.replicate xs.length false) := by
    rw [Nat.mul_one]; show (madeCells #[Value.bool false] xs.length).toList = _; rw [toList_madeCells_one]; simp
  rw [ez] at hown
  have hB1 := below_iff_grown.2 hgr
  have hr1 := hr.later hB1
  have hw1 : w.heap.size < w1.heap.size := (hown.lt _ rfl).2
  clear ez hgr
  go_loopw [3, 5] (fun o i wr => ∃ (k : Nat) (us : List Bool) (out : List Int), k ≤ xs.length ∧ i = .int .i64 k ∧ out.length = k ∧ Hid (Ris xs us out) ∧ wr.ownsRow w.heap.size 4 1 (.slice (some ⟨w.heap.size, 0, none⟩) xs.length xs.length) xs.length (bools us) ∧
    wr.ownsRow w1.heap.size 3 1 o k (ints out) ∧ Below w.heap.size w wr ∧ w1.heap.size ≤ wr.heap.size) (fun _ i _ => xs.length - (intOf i).toNat)
  case atStart => exact ⟨0, _, [], by omega, rfl, rfl, ris_start xs, hown, World.ownsRow_nil _ _ _ _, hB1, Nat.le_refl _⟩
  case round =>
    obtain ⟨k, us, out, hk, rfl, hol, hris, hu, ho, hB, hsz⟩ := hrel
    by_cases hlt : k < xs.length
    · have hlti : (k : Int) < (xs.length : Int) := by omega
      go_wp2_with fail
      go_loopw [6, 7] (fun b i wq => ∃ (j : Nat) (bi : Int), j ≤ xs.length ∧ b = .int .i64 bi ∧ i = .int .i64 j ∧ Hid (Best xs us j bi) ∧ Below wr.heap.size wr wq) (fun _ i _ => xs.length - (intOf i).toNat)
      case atStart => exact ⟨0, -1, by omega, rfl, rfl, best_start xs us, Below.refl _ _⟩
      case round =>
        obtain ⟨j, bi, hj, rfl, rfl, hbest, hBq⟩ := hrel
        have hBwq := hB.trans (hBq.mono hB.size)
        have hu2 := owns_later hu hBq
        have ho2 := owns_later ho hBq
        obtain ⟨av', cv', e, hcv1, hcv2, _, hcells⟩ := hr
        cases e
        unfold maxLen at hcv2
        obtain ⟨bv, ov, rfl, hbv, hcx0⟩ := hcells (by omega)
        have hcx : ∀ (j : Nat) (u : Value), (ints xs)[j]? = some u → wr.cell? ⟨bv, ov + j, none⟩ = some u := fun j u hu => (hBwq.cell (p := ⟨bv, ov + j, none⟩) hbv).trans (hcx0 j u hu)
        have hul : us.length = xs.length := hris.out.len
        by_cases hjl : j < xs.length
        · have hji : (j : Int) < (xs.length : Int) := by omega
          have hju : j < us.length := by omega
          have hcj := hcx j _ (ints_get hjl)
          have huj := owns_at hu2 (bools_get hju)
          clear hcells hcx0
          cases hus : us[j] with
          | true =>
            rw [hus] at huj
            have HN := Lib.hid (best_used hbest.out hju hus)
            clear hcx
            go_wp2
            go_quiet (fail)
            go_wp2
            go_roundw
            case rel => exact ⟨j + 1, bi, by omega, rfl, by go_num, HN, hBq.trans ((below_drewN' _ _).mono hBq.size)⟩
            case measure => simp [intOf]; omega
          | false =>
            rw [hus] at huj
            by_cases hbi : bi < 0
            · have e1 : decide (bi < 0) = true := by simp [hbi]
              have HN := Lib.hid (best_take hbest.out hju hjl hus (.inl hbi))
              clear hcx
              go_wp2
              go_quiet (fail)
              go_wp2
              go_roundw
              case rel => exact ⟨j + 1, j, by omega, rfl, by go_num, HN, hBq.trans ((below_drewN' _ _).mono hBq.size)⟩
              case measure => simp [intOf]; omega
            · have e1 : decide (bi < 0) = false := by simp [hbi]
              obtain ⟨h1, _⟩ | ⟨jb, h1, hjb, hjbx, h2, hz⟩ := hbest.out
              · omega
              · subst h1
                clear hz h2
                have hjbi : (jb : Int) < (xs.length : Int) := by omega
                have hcb := hcx jb _ (ints_get hjbx)
                clear hcx
                by_cases hlt2 : xs[j] < xs[jb]
                · have HN := Lib.hid (best_take hbest.out hju hjl hus (.inr ⟨jb, hjbx, rfl, hlt2⟩))
                  generalize xs[j] = xj at *
                  generalize xs[jb] = xb at *
                  have e2 : decide (xj < xb) = true := by simp [hlt2]
                  clear hbi
                  go_wp2
                  go_quiet (fail)
                  go_wp2
                  go_roundw
                  case rel => exact ⟨j + 1, j, by omega, rfl, by go_num, HN, hBq.trans ((below_drewN' _ _).mono hBq.size)⟩
                  case measure => simp [intOf]; omega
                · have HN := Lib.hid (best_keep hbest.out hjbx hjl (by omega))
                  generalize xs[j] = xj at *
                  generalize xs[jb] = xb at *
                  have e2 : decide (xj < xb) = false := by simp [hlt2]
                  clear hbi
                  go_wp2
                  go_quiet (fail)
                  go_wp2
                  go_roundw
                  case rel => exact ⟨j + 1, jb, by omega, rfl, by go_num, HN, hBq.trans ((below_drewN' _ _).mono hBq.size)⟩
                  case measure => simp [intOf]; omega
        · have hje : j = xs.length := by omega
          subst hje
          obtain ⟨jb, hjb, hjbx, rfl, hf, hris2⟩ := ris_best hris.out hbest.out (by omega)
          have hjbi : (jb : Int) < (xs.length : Int) := by omega
          have hcb := hcx jb _ (ints_get hjbx)
          have hub := owns_at hu2 (bools_get hjb)
          have hfb := hu2.frozenAt jb
          have hgb := grownBy_setCell_at wr w.heap.size jb (.bool true)
          have hu3 := (hu2.stored jb (.bool true)).1
          rw [bools_set] at hu3
          have ho3 := ho2.kept hgb (by
            cases hob : u3.ownBlock with
            | none => exact .inl rfl
            | some g => right; intro e; cases e; have := (ho2.lt _ hob).1; omega)
          have hB3 := hBwq.setCell (p := ⟨w.heap.size, jb, none⟩) (Nat.le_refl _) (.bool true)
          have hsz3 : w1.heap.size ≤ (wr.setCell ⟨w.heap.size, jb, none⟩ (.bool true)).heap.size := by
            have := hBq.size
            simp [World.setCell]; omega
          have HR2 := Lib.hid hris2
          have hcb3 : (wr.setCell ⟨w.heap.size, jb, none⟩ (.bool true)).cell? ⟨bv, ov + jb, none⟩ = some (.int .i64 xs[jb]) := by
            exact (hB3.cell (p := ⟨bv, ov + jb, none⟩) hbv).trans (hcx0 jb _ (ints_get hjbx))
          clear hcx hcells hcx0
          go_wp2_with (at_builtin; go_must (refine wpl_appB _ _ _ (b := wr.heap.size) (by simp [World.setCell]) (AppTo.refl ho3) rfl rfl Try.underlying24 hi' hy0 hy1 hy2 rfl (by decide) rfl rfl rfl (by simp [Value.oneCell']) (by decide) (by omega) (by omega) ?_); intro v4 w4 hA4 hne4 hst4)
          have hst5 := hB3.trans (hst4.mono (by omega))
          have hu4 := hu3.kept hA4.grown (by
            right; show some w.heap.size ≠ u3.ownBlock; intro e
            have := (ho3.lt _ e.symm).1; omega)
          go_wp2
          go_roundw
          case rel =>
            refine ⟨k + 1, _, _, by omega, by go_num, ?_, HR2, hu4, ?_, hst5, Nat.le_trans hsz3 hst4.size⟩
            · rw [List.length_append, hol]; rfl
            · have := hA4.own
              simpa using this
          case measure => simp [intOf]; omega
    · have hke : k = xs.length := by omega
      subst hke
      obtain ⟨h1, h2⟩ := ris_end hris.out (by omega)
      have HP := Lib.hid h1
      have HQ := Lib.hid h2
      have hrd := rd_of_owns ho
      have hfo : ∃ a c, u3 = .slice a xs.length c := by obtain ⟨a, c, e, _⟩ := hrd; exact ⟨a, c, e⟩
      obtain ⟨a, c, rfl⟩ := hfo
      clear h1 h2
      go_wp2
      go_ret
      exact ⟨out, _, _, rfl, HP.out, HQ.out, hrd, hB⟩

end Go.Proofs.Ythlnejfojaldnaa
