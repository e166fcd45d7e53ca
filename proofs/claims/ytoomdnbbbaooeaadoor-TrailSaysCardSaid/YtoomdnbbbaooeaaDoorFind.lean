/- What trail.Find returns where there is a way: the walk. Conditions: in each statement. -/
import Derived.Test.YtoomdnbbbaooeaaDoorTrailP
namespace Go.Proofs.YtoomdnbbbaooeaaDoor
open Go.RowKit Gr

theorem info_bool' : (Tryd.prog.info? 4).map (fun i => (i.zero, i.size, i.bytes)) = some (some (.bool false), 1, 1) := by kernel_rfl

/-- the least of three -/
def min3 (m : Int) (l : Ln) : Int := if l.2 < (if l.1 < m then l.1 else m) then l.2 else (if l.1 < m then l.1 else m)
/-- the least end of a line -/
def minPt (n : Nat) (ls : List Ln) : Int := ls.foldl min3 n
/-- where the way starts -/
def startP (n : Nat) (ls : List Ln) : Int := ((endsUp ls n).map fun (i : Nat) => (i : Int)).head?.getD (minPt n ls)

theorem sizeSet (W : World) (a : Addr) (v : Value) : (W.setCell a v).heap.size = W.heap.size := by simp [World.setCell]
theorem bools_set (U : List Bool) (k : Nat) (b : Bool) : (U.map Value.bool).set k (.bool b) = (U.set k b).map Value.bool := by simp [List.map_set]

-- line k is looked at: it is not used, and ends at a

-- from the list of what is used on

open Classical in
set_option maxRecDepth 100000 in
set_option maxHeartbeats 4000000 in
theorem find_ok (n : Nat) (v : Value) (ls : List Ln) (w : World) (hr : LinesRd w v ls) (hg : GoodG n ls) (a0 t : Nat) (hne : 0 < ls.length) (he : (endsUp ls n).length ≤ 2) (hs : startP n ls = (a0 : Int)) (ha : a0 < n) (ht : t < n) (hpar : Par n ls a0 t) (hJ : Joined n ls a0) :
    Calls Tryd.prog 13 #[.int .i64 (n : Int), v] w (RetInts w ((wayUp n ls a0 ls.length).map fun (i : Nat) => (i : Int)) .nilIface) := by
  obtain ⟨i0, hi, hz0, hz1, hz2⟩ := info_parts info_int
  obtain ⟨i1, hi1, hy0, hy1, hy2⟩ := info_parts info_bool'
  have HINV := Lib.hid (go_inv hg hpar ht ha hJ)
  have HG := Lib.hid hg
  have HJ := Lib.hid hJ
  have HT := Lib.hid ht
  have HS := Lib.hid hs
  have hn1 := hg.1
  have hn8 := hg.2.1
  have hl24 := hg.2.2.1
  have KE := ends_ok n v ls w hr hg
  clear hg hpar hJ hs ht
  obtain ⟨av, cv, rfl, _⟩ := id hr
  have hlp : (0 : Int) < (ls.length : Int) := by omega
  have hl0 : ((ls.length : Int) == 0) = false := by rw [beq_eq_false_iff_ne]; omega
  go_enter Tryd.func13, Tryd.ntmps13
  go_wp2_with fail
  refine KE.mono ?_
  rintro e w1 ⟨ae, ce, rfl, oe, hB1⟩
  have re := rd_of_owns oe
  have hle : ((endsUp ls n).map fun (i : Nat) => (i : Int)).length ≤ 2 := by simpa using he
  have HSS : Hid (startP n ls = ((endsUp ls n).map fun (i : Nat) => (i : Int)).head?.getD (minPt n ls)) := rfl
  generalize (endsUp ls n).map (fun (i : Nat) => (i : Int)) = Q at *
  have hd2 : decide ((Q.length : Int) > 2) = false := by simp; omega
  clear oe he KE
  go_wp2_with fail
  go_loopw [8, 39] (fun aa kk wr => ∃ k : Nat, k ≤ ls.length ∧ kk = .int .i64 k ∧ aa = .int .i64 (minPt n (ls.take k)) ∧ Below w1.heap.size w1 wr) (fun _ kk _ => ls.length - (intOf kk).toNat)
  case atStart => exact ⟨0, by omega, rfl, rfl, Below.refl _ _⟩
  case round =>
    obtain ⟨k, hk, rfl, rfl, hB⟩ := hrel
    by_cases hlt : k < ls.length
    · have hki : (k : Int) < (ls.length : Int) := by omega
      obtain ⟨_, _, e, _, _, _, hcell⟩ := hr.later (below_c hB1 hB)
      cases e
      obtain ⟨bv, ov, rfl, hbv, hcx⟩ := hcell (by omega)
      obtain ⟨g1, g2⟩ := lines_at hcx hlt
      have HM : Hid (minPt n (ls.take (k + 1)) = min3 (minPt n (ls.take k)) ls[k]) := by
        show _ = _
        unfold minPt
        rw [List.take_succ_eq_append_getElem hlt, List.foldl_append]; rfl
      have hC := below_c hB (below_alloc' wr (.cells #[.int .i64 (ls[k]).1, .int .i64 (ls[k]).2] 38))
      clear hcx hcell
      generalize minPt n (ls.take k) = m at *
      generalize ls[k] = l at *
      obtain ⟨x, y⟩ := l
      simp only at g1 g2 hC
      go_wp2
      go_roundw
      case rel => exact ⟨k + 1, by omega, by go_num, by rw [HM.out]; rfl, hC⟩
      case measure => simp [intOf]; omega
    · have e : ls.take k = ls := List.take_of_length_le (by omega)
      rw [e]
      clear e
      obtain ⟨wa, hwa⟩ : ∃ wa, wa = wr := ⟨wr, rfl⟩
      subst hwa
      have hB0a := below_c hB1 hB
      cases Q with
      | nil =>
        have e0 : minPt n ls = (a0 : Int) := by rw [← HS.out, HSS.out]; rfl
        rw [e0]
        clear e0
        go_wp2_with (at_make; go_must (refine wpList_make_full _ rfl _ _ _ rfl wa.heap.size 4 i1 (.bool false) 1 Tryd.underlying47 hi1 hy0 hy1 .i64 .i64 _ _ ls.length rfl rfl rfl rfl (by rw [hy2]; omega) (by unfold maxLen; omega) (Nat.le_refl _) ?_); intro w3 hown hgr)
        have ez : (madeCells (Value.bool false).cells (ls.length * 1)).toList = (List.replicate ls.length false).map Value.bool := by
          rw [Nat.mul_one]; show (madeCells #[Value.bool false] ls.length).toList = _
          rw [toList_madeCells_one]; simp
        rw [ez] at hown
        have hB3 := below_iff_grown.2 hgr
        clear ez hgr
        refine (joined_ok n _ _ ls (List.replicate ls.length false) a0 w3 (hr.later (below_c hB0a hB3)) HG.out (rd_of_owns hown) (by simp) ha).mono ?_
        rintro e w5 ⟨b, rfl, hb, hB5⟩
        have hbt : b = true := hb.2 (by rw [leftL_none]; exact HJ.out)
        subst hbt
        have hs3 := hB3.size
        have hs5 := hB5.size
        have u5 := (owns_later hown hB5).alloc (.cells #[.int .i64 (a0 : Int)] 3)
        have hgl := (hown.lt wa.heap.size rfl).2
        have o5 : (w5.alloc (.cells #[.int .i64 (a0 : Int)] 3)).ownsRow w5.heap.size 3 1 (.slice (some ⟨w5.heap.size, 0, none⟩) 1 1) 1 (nats (wayUp n ls a0 0)) := World.ownsRow_lit _ _ 1 (Nat.le_refl _) (by decide) rfl
        have hB5a := (below_c hB3 hB5).trans ((below_alloc' w5 (.cells #[.int .i64 (a0 : Int)] 3)).mono (by omega))
        clear hb hown hB3
        go_wp2_with fail
        go_loopw [8, 12, 70] (fun aa oo jj wr => ∃ j : Nat, j ≤ ls.length ∧ jj = .int .i64 j ∧ aa = .int .i64 (((goSt n ls a0 j).2 : Nat) : Int) ∧ wr.ownsRow wa.heap.size 4 1 (.slice (some ⟨wa.heap.size, 0, none⟩) ls.length ls.length) ls.length ((goSt n ls a0 j).1.map Value.bool) ∧ wr.ownsRow w5.heap.size 3 1 oo (j + 1) (nats (wayUp n ls a0 j)) ∧ Below wa.heap.size wa wr) (fun _ _ jj _ => ls.length - (intOf jj).toNat)
        case atStart => exact ⟨0, by omega, rfl, rfl, u5, o5, hB5a⟩
        case round =>
          clear u5 o5 hB5a
          obtain ⟨j, hj, rfl, rfl, hu, ho, hB⟩ := hrel
          obtain ⟨ao, co, rfl⟩ := owns_slice ho
          by_cases hlj : j < ls.length
          · have hji : (j : Int) < (ls.length : Int) := by omega
            obtain ⟨i, b, hpk, hcg, _⟩ := (HINV.out j hj).pick HG.out HT.out hlj
            have hUl0 := (HINV.out j hj).len
            have han0 := (HINV.out j hj).lt
            have HNX : Hid (goSt n ls a0 (j + 1) = ((goSt n ls a0 j).1.set i true, b)) := by show _ = _; rw [goSt, hpk]; simp
            have HWX := Lib.hid (wayUp_succ n ls a0 j)
            obtain ⟨hil, hui, _, _, hbn0, _⟩ := hcg
            generalize goSt n ls a0 j = s at *
            obtain ⟨U, a⟩ := s
            simp only at hpk hu hUl0 han0 hui HNX
            generalize wayUp n ls a0 j = Y at *
            have HPK := Lib.hid hpk
            have hUl : U.length = ls.length := hUl0
            clear hpk hUl0
            go_wp2_with fail
            go_loopw [13, 14, 75] (fun bb nn kk wx => ∃ k : Nat, k ≤ ls.length ∧ kk = .int .i64 k ∧ bb = .int .i64 (pickUp n ls U a k).1 ∧ nn = .int .i64 (pickUp n ls U a k).2 ∧ wx.ownsRow wa.heap.size 4 1 (.slice (some ⟨wa.heap.size, 0, none⟩) ls.length ls.length) ls.length (U.map Value.bool) ∧ wx.ownsRow w5.heap.size 3 1 (.slice ao (j + 1) co) (j + 1) (nats Y) ∧ Below wa.heap.size wa wx) (fun _ _ kk _ => ls.length - (intOf kk).toNat)
            case atStart => exact ⟨0, by omega, rfl, rfl, rfl, hu, ho, hB⟩
            case round =>
              clear hu ho hB
              obtain ⟨k, hk, rfl, rfl, rfl, hu, ho, hBa⟩ := hrel
              have hsa := hBa.size
              have hug := (hu.lt wa.heap.size rfl).2
              by_cases hlk : k < ls.length
              · have hki : (k : Int) < (ls.length : Int) := by omega
                have hBw := below_c hB0a hBa
                obtain ⟨_, _, e, _, _, _, hcell⟩ := hr.later hBw
                cases e
                obtain ⟨bv, ov, rfl, hbv, hcx⟩ := hcell (by omega)
                obtain ⟨g1, g2⟩ := lines_at hcx hlk
                obtain ⟨x, y, hxy, h1, h2, h3, h4⟩ := good_line HG.out (List.getElem_mem hlk)
                rw [hxy] at g1 g2
                simp only at g1 g2
                have hget : ls[k]?.getD (0, 0) = ((x : Int), (y : Int)) := by rw [List.getElem?_eq_getElem hlk, hxy]; rfl
                have HST : Hid (pickUp n ls U a (k + 1) = pickStep n ls U a (pickUp n ls U a k) k) := pickUp_succ n ls U a k
                generalize hbn : pickUp n ls U a k = bn at *
                obtain ⟨bb, nx⟩ := bn
                have hC := below_alloc' wr (.cells #[.int .i64 (x : Int), .int .i64 (y : Int)] 38)
                have u1 := owns_later hu hC
                have cuk := owns_at u1 (k := k) (u := .bool (U[k]?.getD false)) (by simp [hUl, hlk])
                have fuk := u1.frozenAt k
                have bl := World.alloc_heap_new wr (.cells #[.int .i64 (x : Int), .int .i64 (y : Int)] 38)
                have c0 := (cell_of_row _ _ 0 _ _ _ bl).trans (show _ = some (Value.int .i64 (x : Int)) from rfl)
                have c1 := (cell_of_row _ _ 1 _ _ _ bl).trans (show _ = some (Value.int .i64 (y : Int)) from rfl)
                have o1 := owns_later ho hC
                have hBC := hBa.trans (hC.mono hsa)
                clear hcx hcell bl hbn
                cases hub : U[k]?.getD false with
                | true =>
                  rw [hub] at cuk
                  have HP2 : Hid (pickUp n ls U a (k + 1) = (bb, nx)) := by
                    show _ = _
                    rw [HST.out]; unfold pickStep; rw [if_pos hub]
                  clear hub
                  go_wp2
                  go_roundw
                  case rel => exact ⟨k + 1, by omega, by go_num, by rw [HP2.out], by rw [HP2.out], u1, o1, hBC⟩
                  case measure => simp [intOf]; omega
                | false =>
                  rw [hub] at cuk
                  by_cases hinc : x = a ∨ y = a
                  · obtain ⟨b', hb', hbn'⟩ : ∃ b' : Nat, (x : Int) + y - a = (b' : Int) ∧ b' < n := by
                      rcases hinc with e | e
                      · exact ⟨y, by omega, h4⟩
                      · exact ⟨x, by omega, h3⟩
                    have wxy : IntKind.i64.wrap ((x : Int) + (y : Int)) = (x : Int) + (y : Int) := IntWalk.i64_in _ (by omega)
                    have wto : IntKind.i64.wrap ((x : Int) + (y : Int) - (a : Int)) = (b' : Int) := by rw [IntWalk.i64_in _ (by omega)]; exact hb'
                    have HSTEP : Hid (pickUp n ls U a (k + 1) = if (b' : Int) < nx ∧ Joined n (leftL ls (U.set k true)) b' then ((k : Int), (b' : Int)) else (bb, nx)) := by
                      show _ = _
                      rw [HST.out]; unfold pickStep
                      rw [if_neg (by rw [hub]; simp), hget]
                      simp only
                      rw [if_neg (by omega), hb']
                      simp
                    have HYES : Hid ((b' : Int) < nx ∧ Joined n (leftL ls (U.set k true)) b' → pickUp n ls U a (k + 1) = ((k : Int), (b' : Int))) := fun h => by rw [HSTEP.out, if_pos h]
                    have HNO : Hid (¬ ((b' : Int) < nx ∧ Joined n (leftL ls (U.set k true)) b') → pickUp n ls U a (k + 1) = (bb, nx)) := fun h => by rw [HSTEP.out, if_neg h]
                    have HUU : Hid ((U.set k true).set k false = U) := by
                      show _ = _
                      rw [List.set_set]
                      refine List.ext_getElem? fun i => ?_
                      rw [List.getElem?_set]
                      by_cases e : k = i
                      · subst e
                        rw [if_pos rfl, if_pos (by omega)]
                        rw [List.getElem?_eq_getElem (by omega)] at hub ⊢
                        simpa using hub.symm
                      · rw [if_neg e]
                    have uw1p := (hu.stored k (.bool true)).1
                    rw [bools_set] at uw1p
                    have ou1p := World.ownsRow.kept ho (grownBy_setCell_at wr wa.heap.size k (.bool true)) (.inr (fun e => by have := (ho.lt _ e).1; omega))
                    have uw1 := owns_later uw1p (below_alloc' _ (.cells #[.int .i64 (x : Int), .int .i64 (y : Int)] 38))
                    have ou1 := owns_later ou1p (below_alloc' _ (.cells #[.int .i64 (x : Int), .int .i64 (y : Int)] 38))
                    have hBa1 := (hBa.setCell (p := ⟨wa.heap.size, k, none⟩) (Nat.le_refl _) (.bool true)).trans ((below_alloc' _ (.cells #[.int .i64 (x : Int), .int .i64 (y : Int)] 38)).mono (by simp [World.setCell]; omega))
                    have hBs := below_c hB0a hBa1
                    by_cases hxa : x = a
                    · have hxb : ((x : Int) != (a : Int)) = false := by simp [hxa]
                      clear hinc hxa
                      by_cases hlt2 : (b' : Int) < nx
                      · have KJ := joined_ok n (.slice (some ⟨bv, ov, none⟩) ls.length cv) (.slice (some ⟨wa.heap.size, 0, none⟩) ls.length ls.length) ls (U.set k true) b' ((wr.setCell ⟨wa.heap.size, k, none⟩ (.bool true)).alloc (.cells #[.int .i64 (x : Int), .int .i64 (y : Int)] 38)) (hr.later hBs) HG.out (rd_of_owns uw1) (by simp [hUl]) hbn'
                        clear hub
                        go_wp2_with fail
                        refine KJ.mono ?_
                        rintro e w6 ⟨bj, rfl, hbj, hB6⟩
                        have uw6 := owns_later uw1 hB6
                        have ou6 := owns_later ou1 hB6
                        have cu6 := owns_at uw6 (k := k) (u := .bool true) (by simp [hUl, hlk])
                        have fu6 := uw6.frozenAt k
                        have uw7 := (uw6.stored k (.bool false)).1
                        rw [bools_set, HUU.out] at uw7
                        have ou7 := World.ownsRow.kept ou6 (grownBy_setCell_at w6 wa.heap.size k (.bool false)) (.inr (fun e => by have := (ou6.lt _ e).1; omega))
                        have hB7 := (hBa1.trans (hB6.mono hBa1.size)).setCell (p := ⟨wa.heap.size, k, none⟩) (Nat.le_refl _) (.bool false)
                        have HBJ := Lib.hid hbj
                        clear hbj uw6 ou6 uw1 ou1 KJ
                        cases bj with
                        | true =>
                          have HP2 := Lib.hid (HYES.out ⟨hlt2, HBJ.out.1 rfl⟩)
                          go_wp2
                          go_roundw
                          case rel => exact ⟨k + 1, by omega, by go_num, by rw [HP2.out], by rw [HP2.out], uw7, ou7, hB7⟩
                          case measure => simp [intOf]; omega
                        | false =>
                          have HP2 := Lib.hid (HNO.out (fun h => by have := HBJ.out.2 h.2; cases this))
                          go_wp2
                          go_roundw
                          case rel => exact ⟨k + 1, by omega, by go_num, by rw [HP2.out], by rw [HP2.out], uw7, ou7, hB7⟩
                          case measure => simp [intOf]; omega
                      · have HP2 := Lib.hid (HNO.out (fun h => hlt2 h.1))
                        have cu6 := owns_at uw1p (k := k) (u := .bool true) (by simp [hUl, hlk])
                        have fu6 := uw1p.frozenAt k
                        have uw7 := (uw1p.stored k (.bool false)).1
                        rw [bools_set, HUU.out] at uw7
                        have uw8 := owns_later uw7 (below_alloc' _ (.cells #[.int .i64 (x : Int), .int .i64 (y : Int)] 38))
                        have ou7 := World.ownsRow.kept ou1p (grownBy_setCell_at _ wa.heap.size k (.bool false)) (.inr (fun e => by have := (ou1p.lt _ e).1; omega))
                        have ou8 := owns_later ou7 (below_alloc' _ (.cells #[.int .i64 (x : Int), .int .i64 (y : Int)] 38))
                        have cu6a := owns_at (owns_later uw1p (below_alloc' _ (.cells #[.int .i64 (x : Int), .int .i64 (y : Int)] 38))) (k := k) (u := .bool true) (by simp [hUl, hlk])
                        have fu6a := (owns_later uw1p (below_alloc' _ (.cells #[.int .i64 (x : Int), .int .i64 (y : Int)] 38))).frozenAt k
                        have hB8 := ((hBa.setCell (p := ⟨wa.heap.size, k, none⟩) (Nat.le_refl _) (.bool true)).setCell (p := ⟨wa.heap.size, k, none⟩) (Nat.le_refl _) (.bool false)).trans ((below_alloc' _ (.cells #[.int .i64 (x : Int), .int .i64 (y : Int)] 38)).mono (by have := hBa.size; simp [World.setCell]; omega))
                        have HF8 := Lib.hid (And.intro uw8 (And.intro ou8 hB8))
                        clear uw8 ou8 hB8 uw7 ou7 uw1 ou1 uw1p ou1p
                        go_wp2
                        go_roundw
                        case rel => exact ⟨k + 1, by omega, by go_num, by rw [HP2.out], by rw [HP2.out], HF8.out.1, HF8.out.2.1, HF8.out.2.2⟩
                        case measure => simp [intOf]; omega
                    · have hxb : ((x : Int) != (a : Int)) = true := by simp; omega
                      have hyb : ((y : Int) != (a : Int)) = false := by simp; omega
                      clear hinc hxa
                      by_cases hlt2 : (b' : Int) < nx
                      · have KJ := joined_ok n (.slice (some ⟨bv, ov, none⟩) ls.length cv) (.slice (some ⟨wa.heap.size, 0, none⟩) ls.length ls.length) ls (U.set k true) b' ((wr.setCell ⟨wa.heap.size, k, none⟩ (.bool true)).alloc (.cells #[.int .i64 (x : Int), .int .i64 (y : Int)] 38)) (hr.later hBs) HG.out (rd_of_owns uw1) (by simp [hUl]) hbn'
                        clear hub
                        go_wp2_with fail
                        refine KJ.mono ?_
                        rintro e w6 ⟨bj, rfl, hbj, hB6⟩
                        have uw6 := owns_later uw1 hB6
                        have ou6 := owns_later ou1 hB6
                        have cu6 := owns_at uw6 (k := k) (u := .bool true) (by simp [hUl, hlk])
                        have fu6 := uw6.frozenAt k
                        have uw7 := (uw6.stored k (.bool false)).1
                        rw [bools_set, HUU.out] at uw7
                        have ou7 := World.ownsRow.kept ou6 (grownBy_setCell_at w6 wa.heap.size k (.bool false)) (.inr (fun e => by have := (ou6.lt _ e).1; omega))
                        have hB7 := (hBa1.trans (hB6.mono hBa1.size)).setCell (p := ⟨wa.heap.size, k, none⟩) (Nat.le_refl _) (.bool false)
                        have HBJ := Lib.hid hbj
                        clear hbj uw6 ou6 uw1 ou1 KJ
                        cases bj with
                        | true =>
                          have HP2 := Lib.hid (HYES.out ⟨hlt2, HBJ.out.1 rfl⟩)
                          go_wp2
                          go_roundw
                          case rel => exact ⟨k + 1, by omega, by go_num, by rw [HP2.out], by rw [HP2.out], uw7, ou7, hB7⟩
                          case measure => simp [intOf]; omega
                        | false =>
                          have HP2 := Lib.hid (HNO.out (fun h => by have := HBJ.out.2 h.2; cases this))
                          go_wp2
                          go_roundw
                          case rel => exact ⟨k + 1, by omega, by go_num, by rw [HP2.out], by rw [HP2.out], uw7, ou7, hB7⟩
                          case measure => simp [intOf]; omega
                      · have HP2 := Lib.hid (HNO.out (fun h => hlt2 h.1))
                        have cu6 := owns_at uw1p (k := k) (u := .bool true) (by simp [hUl, hlk])
                        have fu6 := uw1p.frozenAt k
                        have uw7 := (uw1p.stored k (.bool false)).1
                        rw [bools_set, HUU.out] at uw7
                        have uw8 := owns_later uw7 (below_alloc' _ (.cells #[.int .i64 (x : Int), .int .i64 (y : Int)] 38))
                        have ou7 := World.ownsRow.kept ou1p (grownBy_setCell_at _ wa.heap.size k (.bool false)) (.inr (fun e => by have := (ou1p.lt _ e).1; omega))
                        have ou8 := owns_later ou7 (below_alloc' _ (.cells #[.int .i64 (x : Int), .int .i64 (y : Int)] 38))
                        have cu6a := owns_at (owns_later uw1p (below_alloc' _ (.cells #[.int .i64 (x : Int), .int .i64 (y : Int)] 38))) (k := k) (u := .bool true) (by simp [hUl, hlk])
                        have fu6a := (owns_later uw1p (below_alloc' _ (.cells #[.int .i64 (x : Int), .int .i64 (y : Int)] 38))).frozenAt k
                        have hB8 := ((hBa.setCell (p := ⟨wa.heap.size, k, none⟩) (Nat.le_refl _) (.bool true)).setCell (p := ⟨wa.heap.size, k, none⟩) (Nat.le_refl _) (.bool false)).trans ((below_alloc' _ (.cells #[.int .i64 (x : Int), .int .i64 (y : Int)] 38)).mono (by have := hBa.size; simp [World.setCell]; omega))
                        have HF8 := Lib.hid (And.intro uw8 (And.intro ou8 hB8))
                        clear uw8 ou8 hB8 uw7 ou7 uw1 ou1 uw1p ou1p
                        go_wp2
                        go_roundw
                        case rel => exact ⟨k + 1, by omega, by go_num, by rw [HP2.out], by rw [HP2.out], HF8.out.1, HF8.out.2.1, HF8.out.2.2⟩
                        case measure => simp [intOf]; omega
                  · have hxa : ((x : Int) != (a : Int)) = true := by simp; omega
                    have hya : ((y : Int) != (a : Int)) = true := by simp; omega
                    have HP2 : Hid (pickUp n ls U a (k + 1) = (bb, nx)) := by
                      show _ = _
                      rw [HST.out]; unfold pickStep
                      rw [if_neg (by rw [hub]; simp), hget, if_pos (by simp only; omega)]
                    clear hub hinc
                    go_wp2
                    go_roundw
                    case rel => exact ⟨k + 1, by omega, by go_num, by rw [HP2.out], by rw [HP2.out], u1, o1, hBC⟩
                    case measure => simp [intOf]; omega
              · obtain rfl : k = ls.length := by omega
                rw [HPK.out]
                have hii : (i : Int) < (ls.length : Int) := by omega
                have cui := owns_at hu (k := i) (u := .bool (U[i]?.getD false)) (by simp [hUl, hil])
                have fui := hu.frozenAt i
                have u2 := (hu.stored i (.bool true)).1
                rw [bools_set] at u2
                have o2 := World.ownsRow.kept ho (grownBy_setCell_at wr wa.heap.size i (.bool true)) (.inr (fun e => by have := (ho.lt _ e).1; omega))
                have hB2 := hBa.setCell (p := ⟨wa.heap.size, i, none⟩) (Nat.le_refl _) (.bool true)
                have hsz : w5.heap.size ≤ (wr.setCell ⟨wa.heap.size, i, none⟩ (.bool true)).heap.size := by
                  obtain ⟨g, cap, e⟩ := owns_some' ho (Nat.succ_pos j)
                  have := ho.lt g (by rw [e]; rfl)
                  rw [sizeSet]; omega
                clear hu ho
                go_wp2_with (at_builtin; go_must (refine wpl_app _ _ _ (AppTo.refl o2) rfl rfl Tryd.underlying24 hi hz0 hz1 hz2 rfl (by decide) rfl (by rw [sizeSet]; rfl) rfl (by simp [Value.oneCell']) (by decide) (by omega) hsz ?_); intro v8 w8 hA8 hne8 hst8)
                have u8 := World.ownsRow.kept u2 hA8.grown (.inr (fun e => by have := (o2.lt wa.heap.size e.symm).1; omega))
                go_roundw
                case rel =>
                  refine ⟨j + 1, by omega, by go_num, by rw [HNX.out], by rw [HNX.out]; exact u8, ?_, hA8.below o2 hB2 (by omega) (by rw [sizeSet]; exact hsa)⟩
                  rw [HWX.out, HNX.out]
                  simpa [nats] using hA8.own
                case measure => simp [intOf]; omega
          · obtain rfl : j = ls.length := by omega
            have hsa := hB.size
            go_wp2
            go_ret2
            exact RetInts.mk rfl (owns_mono (by rw [nats_ints']; exact ho) (by have := hB0a.size; omega)) (by rw [List.length_map, wayUp_length]) (below_c hB0a hB)
      | cons p q =>
        have e0 : p = (a0 : Int) := by rw [← HS.out, HSS.out]; rfl
        subst e0
        obtain ⟨_, _, e, _, _, _, hce⟩ := re.later hB
        cases e
        obtain ⟨be, oe, rfl, hbe, hcx⟩ := hce (by simp)
        have cp := hcx 0 _ rfl
        have e0 : oe + 0 = oe := rfl
        rw [e0] at cp
        have hqp : decide (((q.length : Int) + 1) > 0) = true := by first | (simp; omega) | simp
        have hqi : (0 : Int) < (q.length : Int) + 1 := by omega
        clear hcx hce re e0
        simp only [List.length_cons] at hd2 hle ⊢
        go_wp2_with (at_make; go_must (refine wpList_make_full _ rfl _ _ _ rfl wa.heap.size 4 i1 (.bool false) 1 Tryd.underlying47 hi1 hy0 hy1 .i64 .i64 _ _ ls.length rfl rfl rfl rfl (by rw [hy2]; omega) (by unfold maxLen; omega) (Nat.le_refl _) ?_); intro w3 hown hgr)
        have ez : (madeCells (Value.bool false).cells (ls.length * 1)).toList = (List.replicate ls.length false).map Value.bool := by
          rw [Nat.mul_one]; show (madeCells #[Value.bool false] ls.length).toList = _
          rw [toList_madeCells_one]; simp
        rw [ez] at hown
        have hB3 := below_iff_grown.2 hgr
        clear ez hgr
        refine (joined_ok n _ _ ls (List.replicate ls.length false) a0 w3 (hr.later (below_c hB0a hB3)) HG.out (rd_of_owns hown) (by simp) ha).mono ?_
        rintro e w5 ⟨b, rfl, hb, hB5⟩
        have hbt : b = true := hb.2 (by rw [leftL_none]; exact HJ.out)
        subst hbt
        have hs3 := hB3.size
        have hs5 := hB5.size
        have u5 := (owns_later hown hB5).alloc (.cells #[.int .i64 (a0 : Int)] 3)
        have hgl := (hown.lt wa.heap.size rfl).2
        have o5 : (w5.alloc (.cells #[.int .i64 (a0 : Int)] 3)).ownsRow w5.heap.size 3 1 (.slice (some ⟨w5.heap.size, 0, none⟩) 1 1) 1 (nats (wayUp n ls a0 0)) := World.ownsRow_lit _ _ 1 (Nat.le_refl _) (by decide) rfl
        have hB5a := (below_c hB3 hB5).trans ((below_alloc' w5 (.cells #[.int .i64 (a0 : Int)] 3)).mono (by omega))
        clear hb hown hB3
        go_wp2_with fail
        go_loopw [8, 12, 70] (fun aa oo jj wr => ∃ j : Nat, j ≤ ls.length ∧ jj = .int .i64 j ∧ aa = .int .i64 (((goSt n ls a0 j).2 : Nat) : Int) ∧ wr.ownsRow wa.heap.size 4 1 (.slice (some ⟨wa.heap.size, 0, none⟩) ls.length ls.length) ls.length ((goSt n ls a0 j).1.map Value.bool) ∧ wr.ownsRow w5.heap.size 3 1 oo (j + 1) (nats (wayUp n ls a0 j)) ∧ Below wa.heap.size wa wr) (fun _ _ jj _ => ls.length - (intOf jj).toNat)
        case atStart => exact ⟨0, by omega, rfl, rfl, u5, o5, hB5a⟩
        case round =>
          clear u5 o5 hB5a
          obtain ⟨j, hj, rfl, rfl, hu, ho, hB⟩ := hrel
          obtain ⟨ao, co, rfl⟩ := owns_slice ho
          by_cases hlj : j < ls.length
          · have hji : (j : Int) < (ls.length : Int) := by omega
            obtain ⟨i, b, hpk, hcg, _⟩ := (HINV.out j hj).pick HG.out HT.out hlj
            have hUl0 := (HINV.out j hj).len
            have han0 := (HINV.out j hj).lt
            have HNX : Hid (goSt n ls a0 (j + 1) = ((goSt n ls a0 j).1.set i true, b)) := by show _ = _; rw [goSt, hpk]; simp
            have HWX := Lib.hid (wayUp_succ n ls a0 j)
            obtain ⟨hil, hui, _, _, hbn0, _⟩ := hcg
            generalize goSt n ls a0 j = s at *
            obtain ⟨U, a⟩ := s
            simp only at hpk hu hUl0 han0 hui HNX
            generalize wayUp n ls a0 j = Y at *
            have HPK := Lib.hid hpk
            have hUl : U.length = ls.length := hUl0
            clear hpk hUl0
            go_wp2_with fail
            go_loopw [13, 14, 75] (fun bb nn kk wx => ∃ k : Nat, k ≤ ls.length ∧ kk = .int .i64 k ∧ bb = .int .i64 (pickUp n ls U a k).1 ∧ nn = .int .i64 (pickUp n ls U a k).2 ∧ wx.ownsRow wa.heap.size 4 1 (.slice (some ⟨wa.heap.size, 0, none⟩) ls.length ls.length) ls.length (U.map Value.bool) ∧ wx.ownsRow w5.heap.size 3 1 (.slice ao (j + 1) co) (j + 1) (nats Y) ∧ Below wa.heap.size wa wx) (fun _ _ kk _ => ls.length - (intOf kk).toNat)
            case atStart => exact ⟨0, by omega, rfl, rfl, rfl, hu, ho, hB⟩
            case round =>
              clear hu ho hB
              obtain ⟨k, hk, rfl, rfl, rfl, hu, ho, hBa⟩ := hrel
              have hsa := hBa.size
              have hug := (hu.lt wa.heap.size rfl).2
              by_cases hlk : k < ls.length
              · have hki : (k : Int) < (ls.length : Int) := by omega
                have hBw := below_c hB0a hBa
                obtain ⟨_, _, e, _, _, _, hcell⟩ := hr.later hBw
                cases e
                obtain ⟨bv, ov, rfl, hbv, hcx⟩ := hcell (by omega)
                obtain ⟨g1, g2⟩ := lines_at hcx hlk
                obtain ⟨x, y, hxy, h1, h2, h3, h4⟩ := good_line HG.out (List.getElem_mem hlk)
                rw [hxy] at g1 g2
                simp only at g1 g2
                have hget : ls[k]?.getD (0, 0) = ((x : Int), (y : Int)) := by rw [List.getElem?_eq_getElem hlk, hxy]; rfl
                have HST : Hid (pickUp n ls U a (k + 1) = pickStep n ls U a (pickUp n ls U a k) k) := pickUp_succ n ls U a k
                generalize hbn : pickUp n ls U a k = bn at *
                obtain ⟨bb, nx⟩ := bn
                have hC := below_alloc' wr (.cells #[.int .i64 (x : Int), .int .i64 (y : Int)] 38)
                have u1 := owns_later hu hC
                have cuk := owns_at u1 (k := k) (u := .bool (U[k]?.getD false)) (by simp [hUl, hlk])
                have fuk := u1.frozenAt k
                have bl := World.alloc_heap_new wr (.cells #[.int .i64 (x : Int), .int .i64 (y : Int)] 38)
                have c0 := (cell_of_row _ _ 0 _ _ _ bl).trans (show _ = some (Value.int .i64 (x : Int)) from rfl)
                have c1 := (cell_of_row _ _ 1 _ _ _ bl).trans (show _ = some (Value.int .i64 (y : Int)) from rfl)
                have o1 := owns_later ho hC
                have hBC := hBa.trans (hC.mono hsa)
                clear hcx hcell bl hbn
                cases hub : U[k]?.getD false with
                | true =>
                  rw [hub] at cuk
                  have HP2 : Hid (pickUp n ls U a (k + 1) = (bb, nx)) := by
                    show _ = _
                    rw [HST.out]; unfold pickStep; rw [if_pos hub]
                  clear hub
                  go_wp2
                  go_roundw
                  case rel => exact ⟨k + 1, by omega, by go_num, by rw [HP2.out], by rw [HP2.out], u1, o1, hBC⟩
                  case measure => simp [intOf]; omega
                | false =>
                  rw [hub] at cuk
                  by_cases hinc : x = a ∨ y = a
                  · obtain ⟨b', hb', hbn'⟩ : ∃ b' : Nat, (x : Int) + y - a = (b' : Int) ∧ b' < n := by
                      rcases hinc with e | e
                      · exact ⟨y, by omega, h4⟩
                      · exact ⟨x, by omega, h3⟩
                    have wxy : IntKind.i64.wrap ((x : Int) + (y : Int)) = (x : Int) + (y : Int) := IntWalk.i64_in _ (by omega)
                    have wto : IntKind.i64.wrap ((x : Int) + (y : Int) - (a : Int)) = (b' : Int) := by rw [IntWalk.i64_in _ (by omega)]; exact hb'
                    have HSTEP : Hid (pickUp n ls U a (k + 1) = if (b' : Int) < nx ∧ Joined n (leftL ls (U.set k true)) b' then ((k : Int), (b' : Int)) else (bb, nx)) := by
                      show _ = _
                      rw [HST.out]; unfold pickStep
                      rw [if_neg (by rw [hub]; simp), hget]
                      simp only
                      rw [if_neg (by omega), hb']
                      simp
                    have HYES : Hid ((b' : Int) < nx ∧ Joined n (leftL ls (U.set k true)) b' → pickUp n ls U a (k + 1) = ((k : Int), (b' : Int))) := fun h => by rw [HSTEP.out, if_pos h]
                    have HNO : Hid (¬ ((b' : Int) < nx ∧ Joined n (leftL ls (U.set k true)) b') → pickUp n ls U a (k + 1) = (bb, nx)) := fun h => by rw [HSTEP.out, if_neg h]
                    have HUU : Hid ((U.set k true).set k false = U) := by
                      show _ = _
                      rw [List.set_set]
                      refine List.ext_getElem? fun i => ?_
                      rw [List.getElem?_set]
                      by_cases e : k = i
                      · subst e
                        rw [if_pos rfl, if_pos (by omega)]
                        rw [List.getElem?_eq_getElem (by omega)] at hub ⊢
                        simpa using hub.symm
                      · rw [if_neg e]
                    have uw1p := (hu.stored k (.bool true)).1
                    rw [bools_set] at uw1p
                    have ou1p := World.ownsRow.kept ho (grownBy_setCell_at wr wa.heap.size k (.bool true)) (.inr (fun e => by have := (ho.lt _ e).1; omega))
                    have uw1 := owns_later uw1p (below_alloc' _ (.cells #[.int .i64 (x : Int), .int .i64 (y : Int)] 38))
                    have ou1 := owns_later ou1p (below_alloc' _ (.cells #[.int .i64 (x : Int), .int .i64 (y : Int)] 38))
                    have hBa1 := (hBa.setCell (p := ⟨wa.heap.size, k, none⟩) (Nat.le_refl _) (.bool true)).trans ((below_alloc' _ (.cells #[.int .i64 (x : Int), .int .i64 (y : Int)] 38)).mono (by simp [World.setCell]; omega))
                    have hBs := below_c hB0a hBa1
                    by_cases hxa : x = a
                    · have hxb : ((x : Int) != (a : Int)) = false := by simp [hxa]
                      clear hinc hxa
                      by_cases hlt2 : (b' : Int) < nx
                      · have KJ := joined_ok n (.slice (some ⟨bv, ov, none⟩) ls.length cv) (.slice (some ⟨wa.heap.size, 0, none⟩) ls.length ls.length) ls (U.set k true) b' ((wr.setCell ⟨wa.heap.size, k, none⟩ (.bool true)).alloc (.cells #[.int .i64 (x : Int), .int .i64 (y : Int)] 38)) (hr.later hBs) HG.out (rd_of_owns uw1) (by simp [hUl]) hbn'
                        clear hub
                        go_wp2_with fail
                        refine KJ.mono ?_
                        rintro e w6 ⟨bj, rfl, hbj, hB6⟩
                        have uw6 := owns_later uw1 hB6
                        have ou6 := owns_later ou1 hB6
                        have cu6 := owns_at uw6 (k := k) (u := .bool true) (by simp [hUl, hlk])
                        have fu6 := uw6.frozenAt k
                        have uw7 := (uw6.stored k (.bool false)).1
                        rw [bools_set, HUU.out] at uw7
                        have ou7 := World.ownsRow.kept ou6 (grownBy_setCell_at w6 wa.heap.size k (.bool false)) (.inr (fun e => by have := (ou6.lt _ e).1; omega))
                        have hB7 := (hBa1.trans (hB6.mono hBa1.size)).setCell (p := ⟨wa.heap.size, k, none⟩) (Nat.le_refl _) (.bool false)
                        have HBJ := Lib.hid hbj
                        clear hbj uw6 ou6 uw1 ou1 KJ
                        cases bj with
                        | true =>
                          have HP2 := Lib.hid (HYES.out ⟨hlt2, HBJ.out.1 rfl⟩)
                          go_wp2
                          go_roundw
                          case rel => exact ⟨k + 1, by omega, by go_num, by rw [HP2.out], by rw [HP2.out], uw7, ou7, hB7⟩
                          case measure => simp [intOf]; omega
                        | false =>
                          have HP2 := Lib.hid (HNO.out (fun h => by have := HBJ.out.2 h.2; cases this))
                          go_wp2
                          go_roundw
                          case rel => exact ⟨k + 1, by omega, by go_num, by rw [HP2.out], by rw [HP2.out], uw7, ou7, hB7⟩
                          case measure => simp [intOf]; omega
                      · have HP2 := Lib.hid (HNO.out (fun h => hlt2 h.1))
                        have cu6 := owns_at uw1p (k := k) (u := .bool true) (by simp [hUl, hlk])
                        have fu6 := uw1p.frozenAt k
                        have uw7 := (uw1p.stored k (.bool false)).1
                        rw [bools_set, HUU.out] at uw7
                        have uw8 := owns_later uw7 (below_alloc' _ (.cells #[.int .i64 (x : Int), .int .i64 (y : Int)] 38))
                        have ou7 := World.ownsRow.kept ou1p (grownBy_setCell_at _ wa.heap.size k (.bool false)) (.inr (fun e => by have := (ou1p.lt _ e).1; omega))
                        have ou8 := owns_later ou7 (below_alloc' _ (.cells #[.int .i64 (x : Int), .int .i64 (y : Int)] 38))
                        have cu6a := owns_at (owns_later uw1p (below_alloc' _ (.cells #[.int .i64 (x : Int), .int .i64 (y : Int)] 38))) (k := k) (u := .bool true) (by simp [hUl, hlk])
                        have fu6a := (owns_later uw1p (below_alloc' _ (.cells #[.int .i64 (x : Int), .int .i64 (y : Int)] 38))).frozenAt k
                        have hB8 := ((hBa.setCell (p := ⟨wa.heap.size, k, none⟩) (Nat.le_refl _) (.bool true)).setCell (p := ⟨wa.heap.size, k, none⟩) (Nat.le_refl _) (.bool false)).trans ((below_alloc' _ (.cells #[.int .i64 (x : Int), .int .i64 (y : Int)] 38)).mono (by have := hBa.size; simp [World.setCell]; omega))
                        have HF8 := Lib.hid (And.intro uw8 (And.intro ou8 hB8))
                        clear uw8 ou8 hB8 uw7 ou7 uw1 ou1 uw1p ou1p
                        go_wp2
                        go_roundw
                        case rel => exact ⟨k + 1, by omega, by go_num, by rw [HP2.out], by rw [HP2.out], HF8.out.1, HF8.out.2.1, HF8.out.2.2⟩
                        case measure => simp [intOf]; omega
                    · have hxb : ((x : Int) != (a : Int)) = true := by simp; omega
                      have hyb : ((y : Int) != (a : Int)) = false := by simp; omega
                      clear hinc hxa
                      by_cases hlt2 : (b' : Int) < nx
                      · have KJ := joined_ok n (.slice (some ⟨bv, ov, none⟩) ls.length cv) (.slice (some ⟨wa.heap.size, 0, none⟩) ls.length ls.length) ls (U.set k true) b' ((wr.setCell ⟨wa.heap.size, k, none⟩ (.bool true)).alloc (.cells #[.int .i64 (x : Int), .int .i64 (y : Int)] 38)) (hr.later hBs) HG.out (rd_of_owns uw1) (by simp [hUl]) hbn'
                        clear hub
                        go_wp2_with fail
                        refine KJ.mono ?_
                        rintro e w6 ⟨bj, rfl, hbj, hB6⟩
                        have uw6 := owns_later uw1 hB6
                        have ou6 := owns_later ou1 hB6
                        have cu6 := owns_at uw6 (k := k) (u := .bool true) (by simp [hUl, hlk])
                        have fu6 := uw6.frozenAt k
                        have uw7 := (uw6.stored k (.bool false)).1
                        rw [bools_set, HUU.out] at uw7
                        have ou7 := World.ownsRow.kept ou6 (grownBy_setCell_at w6 wa.heap.size k (.bool false)) (.inr (fun e => by have := (ou6.lt _ e).1; omega))
                        have hB7 := (hBa1.trans (hB6.mono hBa1.size)).setCell (p := ⟨wa.heap.size, k, none⟩) (Nat.le_refl _) (.bool false)
                        have HBJ := Lib.hid hbj
                        clear hbj uw6 ou6 uw1 ou1 KJ
                        cases bj with
                        | true =>
                          have HP2 := Lib.hid (HYES.out ⟨hlt2, HBJ.out.1 rfl⟩)
                          go_wp2
                          go_roundw
                          case rel => exact ⟨k + 1, by omega, by go_num, by rw [HP2.out], by rw [HP2.out], uw7, ou7, hB7⟩
                          case measure => simp [intOf]; omega
                        | false =>
                          have HP2 := Lib.hid (HNO.out (fun h => by have := HBJ.out.2 h.2; cases this))
                          go_wp2
                          go_roundw
                          case rel => exact ⟨k + 1, by omega, by go_num, by rw [HP2.out], by rw [HP2.out], uw7, ou7, hB7⟩
                          case measure => simp [intOf]; omega
                      · have HP2 := Lib.hid (HNO.out (fun h => hlt2 h.1))
                        have cu6 := owns_at uw1p (k := k) (u := .bool true) (by simp [hUl, hlk])
                        have fu6 := uw1p.frozenAt k
                        have uw7 := (uw1p.stored k (.bool false)).1
                        rw [bools_set, HUU.out] at uw7
                        have uw8 := owns_later uw7 (below_alloc' _ (.cells #[.int .i64 (x : Int), .int .i64 (y : Int)] 38))
                        have ou7 := World.ownsRow.kept ou1p (grownBy_setCell_at _ wa.heap.size k (.bool false)) (.inr (fun e => by have := (ou1p.lt _ e).1; omega))
                        have ou8 := owns_later ou7 (below_alloc' _ (.cells #[.int .i64 (x : Int), .int .i64 (y : Int)] 38))
                        have cu6a := owns_at (owns_later uw1p (below_alloc' _ (.cells #[.int .i64 (x : Int), .int .i64 (y : Int)] 38))) (k := k) (u := .bool true) (by simp [hUl, hlk])
                        have fu6a := (owns_later uw1p (below_alloc' _ (.cells #[.int .i64 (x : Int), .int .i64 (y : Int)] 38))).frozenAt k
                        have hB8 := ((hBa.setCell (p := ⟨wa.heap.size, k, none⟩) (Nat.le_refl _) (.bool true)).setCell (p := ⟨wa.heap.size, k, none⟩) (Nat.le_refl _) (.bool false)).trans ((below_alloc' _ (.cells #[.int .i64 (x : Int), .int .i64 (y : Int)] 38)).mono (by have := hBa.size; simp [World.setCell]; omega))
                        have HF8 := Lib.hid (And.intro uw8 (And.intro ou8 hB8))
                        clear uw8 ou8 hB8 uw7 ou7 uw1 ou1 uw1p ou1p
                        go_wp2
                        go_roundw
                        case rel => exact ⟨k + 1, by omega, by go_num, by rw [HP2.out], by rw [HP2.out], HF8.out.1, HF8.out.2.1, HF8.out.2.2⟩
                        case measure => simp [intOf]; omega
                  · have hxa : ((x : Int) != (a : Int)) = true := by simp; omega
                    have hya : ((y : Int) != (a : Int)) = true := by simp; omega
                    have HP2 : Hid (pickUp n ls U a (k + 1) = (bb, nx)) := by
                      show _ = _
                      rw [HST.out]; unfold pickStep
                      rw [if_neg (by rw [hub]; simp), hget, if_pos (by simp only; omega)]
                    clear hub hinc
                    go_wp2
                    go_roundw
                    case rel => exact ⟨k + 1, by omega, by go_num, by rw [HP2.out], by rw [HP2.out], u1, o1, hBC⟩
                    case measure => simp [intOf]; omega
              · obtain rfl : k = ls.length := by omega
                rw [HPK.out]
                have hii : (i : Int) < (ls.length : Int) := by omega
                have cui := owns_at hu (k := i) (u := .bool (U[i]?.getD false)) (by simp [hUl, hil])
                have fui := hu.frozenAt i
                have u2 := (hu.stored i (.bool true)).1
                rw [bools_set] at u2
                have o2 := World.ownsRow.kept ho (grownBy_setCell_at wr wa.heap.size i (.bool true)) (.inr (fun e => by have := (ho.lt _ e).1; omega))
                have hB2 := hBa.setCell (p := ⟨wa.heap.size, i, none⟩) (Nat.le_refl _) (.bool true)
                have hsz : w5.heap.size ≤ (wr.setCell ⟨wa.heap.size, i, none⟩ (.bool true)).heap.size := by
                  obtain ⟨g, cap, e⟩ := owns_some' ho (Nat.succ_pos j)
                  have := ho.lt g (by rw [e]; rfl)
                  rw [sizeSet]; omega
                clear hu ho
                go_wp2_with (at_builtin; go_must (refine wpl_app _ _ _ (AppTo.refl o2) rfl rfl Tryd.underlying24 hi hz0 hz1 hz2 rfl (by decide) rfl (by rw [sizeSet]; rfl) rfl (by simp [Value.oneCell']) (by decide) (by omega) hsz ?_); intro v8 w8 hA8 hne8 hst8)
                have u8 := World.ownsRow.kept u2 hA8.grown (.inr (fun e => by have := (o2.lt wa.heap.size e.symm).1; omega))
                go_roundw
                case rel =>
                  refine ⟨j + 1, by omega, by go_num, by rw [HNX.out], by rw [HNX.out]; exact u8, ?_, hA8.below o2 hB2 (by omega) (by rw [sizeSet]; exact hsa)⟩
                  rw [HWX.out, HNX.out]
                  simpa [nats] using hA8.own
                case measure => simp [intOf]; omega
          · obtain rfl : j = ls.length := by omega
            have hsa := hB.size
            go_wp2
            go_ret2
            exact RetInts.mk rfl (owns_mono (by rw [nats_ints']; exact ho) (by have := hB0a.size; omega)) (by rw [List.length_map, wayUp_length]) (below_c hB0a hB)

end Go.Proofs.YtoomdnbbbaooeaaDoor
