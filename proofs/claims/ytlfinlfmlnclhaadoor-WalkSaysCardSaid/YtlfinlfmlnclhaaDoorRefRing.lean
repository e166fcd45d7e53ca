/- What the document's search for a ring returns: the walks. Conditions: in each statement. -/
import Derived.Test.YtlfinlfmlnclhaaDoorRingR
import Derived.Test.YtlfinlfmlnclhaaDoorRefElias
import Derived.Test.YtlfinlfmlnclhaaDoorBesideR
import Derived.Test.YtlfinlfmlnclhaaDoorRowEq
import Derived.Test.YtlfinlfmlnclhaaDoorLit
namespace Go.Proofs.YtlfinlfmlnclhaaDoor
open Go.RowKit Gr

/-- numbers of points as numbers -/
abbrev natI (l : List Nat) : List Int := l.map fun (i : Nat) => (i : Int)
theorem natI_at {l : List Nat} {i : Nat} (h : i < l.length) : (ints (natI l))[i]? = some (.int .i64 ((gL l i : Nat) : Int)) := by
  simp [natI, ints, gL, h]
theorem natI_mem (l : List Nat) (b : Nat) : ((b : Int) ∈ natI l) ↔ b ∈ l := by
  simp only [natI, List.mem_map]
  constructor
  · rintro ⟨a, ha, e⟩
    obtain rfl : a = b := by omega
    exact ha
  · intro h; exact ⟨b, h, rfl⟩

/-- what one more point answers -/
def ringStep (O : List Nat) (n f : Nat) (way : List Nat) (b : Nat) : Bool := adjB O (gL way (way.length - 1)) b && !decide (b ∈ way) && ringB O n f (way ++ [b])

set_option maxRecDepth 100000 in
set_option maxHeartbeats 4000000 in
theorem refRingW_ok (n : Nat) (v : Value) (ls : List Ln) (hg : GoodG n ls) (many : Nat) (hm : many ≤ 8) : ∀ (f : Nat) (way : List Nat) (vw : Value) (w : World), LinesRd w v ls → way.length + f = many → 0 < way.length → Rd w vw way.length (ints (natI way)) →
    Calls Tryd.prog 68 #[.int .i64 (n : Int), v, vw, .int .i64 (many : Int)] w fun e w' => e = .returned (.bool (ringB (beside n ls) n f way)) ∧ Below w.heap.size w w' := by
  have hn8 := hg.2.1
  have HG := Lib.hid hg
  have HNB : Hid (∀ a b : Nat, adjB (beside n ls) a b = near ls (a : Int) (b : Int)) := fun a b => by
    rw [Bool.eq_iff_iff]; exact adj_near HG.out a b
  clear hg
  intro f
  induction f with
  | zero =>
    intro way vw w hr hl hp hrw
    obtain ⟨a, c, rfl, hnc, hcm, _, hcx⟩ := id hrw
    obtain ⟨bw, ow, rfl, hbw, hcw⟩ := hcx hp
    have c0 := hcw 0 _ (natI_at (i := 0) hp)
    have cl := hcw (way.length - 1) _ (natI_at (i := way.length - 1) (by omega))
    have HB : Hid (ringB (beside n ls) n 0 way = near ls ((gL way (way.length - 1) : Nat) : Int) ((gL way 0 : Nat) : Int)) := HNB.out _ _
    have hlen : way.length = many := by omega
    have wl : IntKind.i64.wrap ((way.length : Int) - 1) = ((way.length - 1 : Nat) : Int) := by rw [IntWalk.i64_in _ (by omega)]; omega
    rw [hlen] at cl wl HB hnc
    have hq0 : (0 : Int) ≤ ((many - 1 : Nat) : Int) := by omega
    have hq1 : ((many - 1 : Nat) : Int) < (many : Int) := by omega
    have hmp : (0 : Int) < (many : Int) := by omega
    have KB := refBeside_any v ls ((gL way (many - 1) : Nat) : Int) ((gL way 0 : Nat) : Int) w hr
    generalize gL way (many - 1) = x at *
    generalize gL way 0 = y at *
    rw [hlen]
    generalize many - 1 = q at *
    clear hcw hcx hl
    have e0 : ow + 0 = ow := rfl
    rw [e0] at c0
    go_enter Tryd.func68, Tryd.ntmps68
    go_wp2_with fail
    refine KB.mono ?_
    rintro e w' ⟨rfl, rfl⟩
    go_wp2
    go_ret
    exact ⟨by rw [HB.out]; rfl, Below.refl _ _⟩
  | succ f ih =>
    intro way vw w hr hl hp hrw
    obtain ⟨a, c, rfl, hnc, hcm, _, hcx⟩ := id hrw
    obtain ⟨bw, ow, rfl, hbw, hcw⟩ := hcx hp
    have cl := hcw (way.length - 1) _ (natI_at (i := way.length - 1) (by omega))
    have wl : IntKind.i64.wrap ((way.length : Int) - 1) = ((way.length - 1 : Nat) : Int) := by rw [IntWalk.i64_in _ (by omega)]; omega
    have hq0 : (0 : Int) ≤ ((way.length - 1 : Nat) : Int) := by omega
    have hq1 : ((way.length - 1 : Nat) : Int) < (way.length : Int) := by omega
    have hmn : ((way.length : Int) == (many : Int)) = false := by rw [beq_eq_false_iff_ne]; omega
    have HX : Hid (gL way (way.length - 1) = gL way (way.length - 1)) := rfl
    have HST : Hid (∀ b, ringStep (beside n ls) n f way b = (near ls ((gL way (way.length - 1) : Nat) : Int) (b : Int) && !decide (b ∈ way) && ringB (beside n ls) n f (way ++ [b]))) := fun b => by
      unfold ringStep; rw [HNB.out]
    have HRB : Hid (ringB (beside n ls) n (f + 1) way = (List.range n).any (ringStep (beside n ls) n f way)) := rfl
    have KB := fun (b : Nat) w hw => refBeside_any v ls ((gL way (way.length - 1) : Nat) : Int) (b : Int) w hw
    generalize gL way (way.length - 1) = x at *
    generalize way.length - 1 = q at *
    have HL := Lib.hid hl
    clear hcw hcx hl HX
    go_enter Tryd.func68, Tryd.ntmps68
    go_wp2_with fail
    go_loopw [10] (fun bb wr => ∃ b : Nat, b ≤ n ∧ bb = .int .i64 b ∧ Hid (∀ y, y < b → ringStep (beside n ls) n f way y = false) ∧ Below w.heap.size w wr) (fun bb _ => n - (intOf bb).toNat)
    case atStart => exact ⟨0, by omega, rfl, fun y hy => absurd hy (by omega), Below.refl _ _⟩
    case round =>
      obtain ⟨b, hb, rfl, HF, hB⟩ := hrel
      by_cases hlt : b < n
      · have hbi : (b : Int) < (n : Int) := by omega
        have HS := Lib.hid (HST.out b)
        have HNEXT : Hid (ringStep (beside n ls) n f way b = false → ∀ y, y < b + 1 → ringStep (beside n ls) n f way y = false) := fun h y hy => by
          by_cases e : y = b
          · subst e; exact h
          · exact HF.out y (by omega)
        have KBb := KB b _ (hr.later hB)
        have hrw' := hrw.later hB
        have KH := refHas_any (.slice (some ⟨bw, ow, none⟩) way.length c) (natI way) (b : Int) _ (by rw [List.length_map]; exact hrw')
        rw [show decide ((b : Int) ∈ natI way) = decide (b ∈ way) from by rw [decide_eq_decide]; exact natI_mem way b] at KH
        cases hnear : near ls (x : Int) (b : Int) with
        | false =>
          rw [hnear] at KBb
          have HN := Lib.hid (HNEXT.out (by rw [HS.out, hnear]; rfl))
          go_wp2_with fail
          refine KBb.mono ?_
          rintro e w' ⟨rfl, rfl⟩
          go_wp2
          go_roundw
          case rel => exact ⟨b + 1, by omega, by go_num, HN, hB⟩
          case measure => simp [intOf]; omega
        | true =>
          rw [hnear] at KBb
          cases hin : decide (b ∈ way) with
          | true =>
            rw [hin] at KH
            have HN := Lib.hid (HNEXT.out (by rw [HS.out, hnear, hin]; rfl))
            clear hin
            go_wp2_with fail
            refine KBb.mono ?_
            rintro e w' ⟨rfl, rfl⟩
            go_wp2_with fail
            refine KH.mono ?_
            rintro e w' ⟨rfl, rfl⟩
            go_wp2
            go_roundw
            case rel => exact ⟨b + 1, by omega, by go_num, HN, hB⟩
            case measure => simp [intOf]; omega
          | false =>
            rw [hin] at KH
            have KBe := refBehind_any (.slice (some ⟨bw, ow, none⟩) way.length c) (natI way) (b : Int) _ (by rw [List.length_map]; exact hrw') (by rw [List.length_map]; exact hp) (by rw [List.length_map]; have := HL.out; omega)
            have ew : natI way ++ [(b : Int)] = natI (way ++ [b]) := by simp [natI]
            rw [ew] at KBe
            have hS2 : ringStep (beside n ls) n f way b = ringB (beside n ls) n f (way ++ [b]) := by rw [HS.out, hnear, hin]; rfl
            have HS2 := Lib.hid hS2
            have KR := fun vw w hr => ih (way ++ [b]) vw w hr (by rw [List.length_append, List.length_singleton]; have := HL.out; omega) (by simp)
            clear hin ew hS2
            generalize hres : ringB (beside n ls) n f (way ++ [b]) = res at *
            clear hres
            have hlw : (natI (way ++ [b])).length = way.length + 1 := by simp [natI]
            go_wp2_with fail
            refine KBb.mono ?_
            rintro e w' ⟨rfl, rfl⟩
            go_wp2_with fail
            refine KH.mono ?_
            rintro e w' ⟨rfl, rfl⟩
            go_wp2_with fail
            refine KBe.mono ?_
            rintro e w5 ⟨a5, c5, rfl, o5, hB5⟩
            have hB05 := below_c hB hB5
            have r5 := rd_of_owns o5
            rw [hlw] at r5 ⊢
            have KR5 := KR (.slice a5 (way.length + 1) c5) w5 (hr.later hB05) (by rw [List.length_append, List.length_singleton]; exact r5)
            clear hlw r5 o5 KR
            go_wp2_with fail
            refine KR5.mono ?_
            rintro e w6 ⟨rfl, hB6⟩
            have hB06 := below_c hB05 hB6
            cases res with
            | false =>
              have HN := Lib.hid (HNEXT.out HS2.out)
              go_wp2
              go_roundw
              case rel => exact ⟨b + 1, by omega, by go_num, HN, hB06⟩
              case measure => simp [intOf]; omega
            | true =>
              have HT : Hid (ringB (beside n ls) n (f + 1) way = true) := by
                show _ = _
                rw [HRB.out, List.any_eq_true]
                exact ⟨b, List.mem_range.2 hlt, HS2.out⟩
              go_wp2
              go_ret
              exact ⟨by rw [HT.out]; rfl, hB06⟩
      · obtain rfl : n = b := by omega
        have HT : Hid (ringB (beside n ls) n (f + 1) way = false) := by
          show _ = _
          rw [HRB.out, List.any_eq_false]
          intro y hy
          rw [HF.out y (List.mem_range.1 hy)]; simp
        go_wp2
        go_ret
        exact ⟨by rw [HT.out]; rfl, hB⟩

set_option maxRecDepth 100000 in
set_option maxHeartbeats 4000000 in
theorem refRing_ok (n : Nat) (v : Value) (ls : List Ln) (w : World) (hr : LinesRd w v ls) (hg : GoodG n ls) (m : Nat) (hm1 : 1 ≤ m) (hm8 : m ≤ 8) :
    Calls Tryd.prog 35 #[.int .i64 (n : Int), v, .int .i64 (m : Int)] w fun e w' => e = .returned (.bool (hasRing (beside n ls) n m)) ∧ Below w.heap.size w w' := by
  have KR := fun a vw w hr => refRingW_ok n v ls hg m hm8 (m - 1) [a] vw w hr (by simp; omega) (by simp)
  have HRB : Hid (hasRing (beside n ls) n m = (List.range n).any fun a => ringB (beside n ls) n (m - 1) [a]) := rfl
  have hn8 := hg.2.1
  clear hg
  go_enter Tryd.func35, Tryd.ntmps35
  go_wp2_with fail
  go_loopw [7] (fun aa wr => ∃ a : Nat, a ≤ n ∧ aa = .int .i64 a ∧ Hid (∀ y, y < a → ringB (beside n ls) n (m - 1) [y] = false) ∧ Below w.heap.size w wr) (fun aa _ => n - (intOf aa).toNat)
  case atStart => exact ⟨0, by omega, rfl, fun y hy => absurd hy (by omega), Below.refl _ _⟩
  case round =>
    obtain ⟨a, ha, rfl, HF, hB⟩ := hrel
    by_cases hlt : a < n
    · have hai : (a : Int) < (n : Int) := by omega
      have hb1 := below_alloc' wr (.cells #[.int .i64 (a : Int)] 3)
      have hBa := below_c hB hb1
      have hlit : Rd (wr.alloc (.cells #[.int .i64 (a : Int)] 3)) (.slice (some ⟨wr.heap.size, 0, none⟩) 1 1) 1 (ints (natI [a])) := ints_lit [(a : Int)] rfl rfl rfl (by simp [maxLen])
      have KA := KR a _ _ (hr.later hBa) hlit
      have HN : Hid (ringB (beside n ls) n (m - 1) [a] = false → ∀ y, y < a + 1 → ringB (beside n ls) n (m - 1) [y] = false) := fun h y hy => by
        by_cases e : y = a
        · subst e; exact h
        · exact HF.out y (by omega)
      have HT : Hid (ringB (beside n ls) n (m - 1) [a] = true → hasRing (beside n ls) n m = true) := fun h => by
        rw [HRB.out, List.any_eq_true]
        exact ⟨a, List.mem_range.2 hlt, h⟩
      generalize ringB (beside n ls) n (m - 1) [a] = res at *
      go_wp2_with fail
      refine KA.mono ?_
      rintro e w6 ⟨rfl, hB6⟩
      have hB06 := below_c hBa hB6
      cases res with
      | false =>
        have HN2 := Lib.hid (HN.out rfl)
        go_wp2
        go_roundw
        case rel => exact ⟨a + 1, by omega, by go_num, HN2, hB06⟩
        case measure => simp [intOf]; omega
      | true =>
        have HT2 := Lib.hid (HT.out rfl)
        go_wp2
        go_ret
        exact ⟨by rw [HT2.out]; rfl, hB06⟩
    · obtain rfl : n = a := by omega
      have HT : Hid (hasRing (beside n ls) n m = false) := by
        show _ = _
        rw [HRB.out, List.any_eq_false]
        intro y hy
        rw [HF.out y (List.mem_range.1 hy)]; simp
      go_wp2
      go_ret
      exact ⟨by rw [HT.out]; rfl, hB⟩

end Go.Proofs.YtlfinlfmlnclhaaDoor
