/- Parts without a point: plain. Conditions: in each statement. -/
import Derived.Test.YtjeafgnaoncphaaWithout
import Derived.Test.YtjeafgnaoncphaaLowP
namespace Go.Proofs.Ytjeafgnaoncphaa
open Go.RowKit Gr
namespace Gr

/-- the number of point a where point i was not yet gone -/
def upP (i a : Nat) : Nat := if a < i then a else a + 1
theorem upP_ne (i a : Nat) : upP i a ≠ i := by unfold upP; split <;> omega
theorem upP_lt {i a b : Nat} : upP i a ≤ upP i b ↔ a ≤ b := by unfold upP; split <;> split <;> omega
theorem upP_inj {i a b : Nat} (h : upP i a = upP i b) : a = b := by unfold upP at h; split at h <;> split at h <;> omega
theorem upP_in {i a n : Nat} (hi : i < n) : a < n - 1 ↔ upP i a < n := by unfold upP; split <;> omega
theorem upP_of {i v n : Nat} (hv : v < n) (hne : v ≠ i) (hi : i < n) : ∃ y, y < n - 1 ∧ v = upP i y := by
  by_cases h : v < i
  · exact ⟨v, by omega, by unfold upP; rw [if_pos h]⟩
  · exact ⟨v - 1, by omega, by unfold upP; rw [if_neg (by omega)]; omega⟩
theorem less_up (i a : Nat) {x : Int} (hx : x ≠ (i : Int)) : less (i : Int) x = (a : Int) ↔ x = ((upP i a : Nat) : Int) := by
  unfold less upP
  split <;> split <;> omega
theorem near_without (ls : List Ln) (i a b : Nat) : near (withoutL i ls) a b = true ↔ near ls (upP i a : Nat) (upP i b : Nat) = true := by
  rw [near_iff, near_iff]
  have e1 := upP_ne i a
  have e2 := upP_ne i b
  constructor
  · rintro ⟨l, hl, h⟩
    unfold withoutL at hl
    obtain ⟨m, hm, rfl⟩ := List.mem_map.1 hl
    obtain ⟨h1, h2⟩ := List.mem_filter.1 hm
    unfold keeps at h2
    simp only [Bool.and_eq_true, bne_iff_ne, ne_eq] at h2
    simp only [less_up i _ h2.1, less_up i _ h2.2] at h
    exact ⟨m, h1, h⟩
  · rintro ⟨m, hm, h⟩
    have h2 : m.1 ≠ (i : Int) ∧ m.2 ≠ (i : Int) := by omega
    refine ⟨(less i m.1, less i m.2), List.mem_map.2 ⟨m, List.mem_filter.2 ⟨hm, ?_⟩, rfl⟩, ?_⟩
    · unfold keeps
      simp only [Bool.and_eq_true, bne_iff_ne, ne_eq]
      exact h2
    · simp only [less_up i _ h2.1, less_up i _ h2.2]
      exact h
theorem good_less {n : Nat} {ls : List Ln} (hg : GoodG n ls) {i : Nat} (h2 : 2 ≤ n) (hi : i < n) : GoodG (n - 1) (withoutL i ls) := by
  obtain ⟨_, hn8, hl, h⟩ := hg
  refine ⟨by omega, by omega, Nat.le_trans (withoutL_length _ _) hl, fun l hl => ?_⟩
  unfold withoutL at hl
  obtain ⟨m, hm, rfl⟩ := List.mem_map.1 hl
  obtain ⟨h1, h3⟩ := List.mem_filter.1 hm
  unfold keeps at h3
  simp only [Bool.and_eq_true, bne_iff_ne, ne_eq] at h3
  have h4 := h m h1
  simp only
  unfold less
  split <;> split <;> omega

/-- i is the least with which it hangs together without c -/
def RootW (O : List Nat) (c u : Nat) : Prop := ∀ v, v ≠ c → CW O c u v → u ≤ v

theorem cw_conn {O : List Nat} {c u v : Nat} (h : CW O c u v) : Conn O u v := fun T h0 hT => h T h0 fun x y hx hxy _ => hT x y hx hxy
theorem conn_split {O : List Nat} {c u y : Nat} (hu : u ≠ c) (h : Conn O u y) : (y ≠ c ∧ CW O c u y) ∨ ∃ a, a ≠ c ∧ adjS O a c ∧ CW O c u a := by
  refine h (fun y => (y ≠ c ∧ CW O c u y) ∨ ∃ a, a ≠ c ∧ adjS O a c ∧ CW O c u a) (.inl ⟨hu, CW.refl _ _ _⟩) ?_
  rintro y z (⟨h1, h2⟩ | h1) hyz
  · by_cases e : z = c
    · subst e; exact .inr ⟨y, h1, hyz, h2⟩
    · exact .inl ⟨e, fun T h0 hT => hT y z (h2 T h0 hT) hyz e⟩
  · exact .inr h1

section
variable {O : List Nat} {n c : Nat}
open Classical

noncomputable def rootsO (O : List Nat) (n : Nat) : List Nat := (List.range n).filter fun u => decide (RootC O u)
noncomputable def rootsW (O : List Nat) (n c : Nat) : List Nat := (List.range n).filter fun u => decide (u ≠ c ∧ RootW O c u)

theorem mem_rootsO {u : Nat} : u ∈ rootsO O n ↔ u < n ∧ RootC O u := by unfold rootsO; simp
theorem mem_rootsW {u : Nat} : u ∈ rootsW O n c ↔ u < n ∧ u ≠ c ∧ RootW O c u := by unfold rootsW; simp

theorem root_one (hs : Symm O) {u v : Nat} (h : Conn O u v) (hu : RootC O u) (hv : RootC O v) : u = v := by
  have h1 := hu v h
  have h2 := hv u (h.symm hs)
  omega

theorem cut_roots (hO : Bounded n O) (hs : Symm O) (hi : ∀ a, ¬ adjS O a a) (hc : c < n) : IsCut O c ↔ (rootsO O n).length < (rootsW O n c).length := by
  obtain ⟨r, hr1, hr2⟩ := exists_least ⟨c, Conn.refl O c⟩
  have hrn : r < n := hr1.in_ hO hc
  have hrR : RootC O r := fun y hy => hr2 y (hr1.trans hy)
  have hrm : r ∈ rootsO O n := mem_rootsO.2 ⟨hrn, hrR⟩
  have hndO : (rootsO O n).Nodup := List.Pairwise.filter _ List.nodup_range
  have hndW : (rootsW O n c).Nodup := List.Pairwise.filter _ List.nodup_range
  have hle := List.length_erase_of_mem hrm
  have hpos : 0 < (rootsO O n).length := List.length_pos_of_mem hrm
  have hmE : ∀ u, u ∈ (rootsO O n).erase r ↔ u ≠ r ∧ u ∈ rootsO O n := fun u => List.Nodup.mem_erase_iff hndO
  constructor
  · rintro ⟨a, b, ha, hb, hab⟩
    have hac : a ≠ c := by rintro rfl; exact hi _ ha
    have hbc : b ≠ c := by rintro rfl; exact hi _ hb
    obtain ⟨ra, ⟨ha0, ha1⟩, ha2⟩ := exists_least (p := fun v => v ≠ c ∧ CW O c a v) ⟨a, hac, CW.refl _ _ _⟩
    obtain ⟨rb, ⟨hb0, hb1⟩, hb2⟩ := exists_least (p := fun v => v ≠ c ∧ CW O c b v) ⟨b, hbc, CW.refl _ _ _⟩
    have key : ∀ x rx, adjS O c x → rx ≠ c → CW O c x rx → (∀ v, v ≠ c ∧ CW O c x v → rx ≤ v) → rx ∈ rootsW O n c ∧ rx ∉ (rootsO O n).erase r := by
      intro x rx hx h0 h1 h2
      have hconn : Conn O c rx := ((Conn.refl O c).step hx).trans (cw_conn h1)
      refine ⟨mem_rootsW.2 ⟨hconn.in_ hO hc, h0, fun v hv hcv => h2 v ⟨hv, CW.trans h1 hcv⟩⟩, fun hm => ?_⟩
      obtain ⟨h3, h4⟩ := (hmE _).1 hm
      exact h3 (root_one hs ((hconn.symm hs).trans hr1) (mem_rootsO.1 h4).2 hrR)
    obtain ⟨ka1, ka2⟩ := key a ra ha ha0 ha1 ha2
    obtain ⟨kb1, kb2⟩ := key b rb hb hb0 hb1 hb2
    have hne : ra ≠ rb := by
      rintro rfl
      exact hab (CW.trans ha1 (CW.symm hs hbc hb1))
    have hnd : (ra :: rb :: (rootsO O n).erase r).Nodup := by
      refine List.nodup_cons.2 ⟨fun h => ?_, List.nodup_cons.2 ⟨kb2, hndO.erase r⟩⟩
      rcases List.mem_cons.1 h with e | h
      · exact hne e
      · exact ka2 h
    have := hnd.length_le_of_subset (l₂ := rootsW O n c) fun u hu => by
      rcases List.mem_cons.1 hu with rfl | hu
      · exact ka1
      · rcases List.mem_cons.1 hu with rfl | hu
        · exact kb1
        · obtain ⟨h1, h2⟩ := (hmE _).1 hu
          obtain ⟨h3, h4⟩ := mem_rootsO.1 h2
          refine mem_rootsW.2 ⟨h3, ?_, fun v _ hv => h4 v (cw_conn hv)⟩
          rintro rfl
          exact h1 (root_one hs hr1 h4 hrR)
    simp only [List.length_cons] at this
    omega
  · intro hlt
    refine Classical.byContradiction fun hnc => ?_
    have hall : ∀ a b, adjS O c a → adjS O c b → CW O c a b := fun a b ha hb => Classical.byContradiction fun h => hnc ⟨a, b, ha, hb, h⟩
    -- two roots without c that hang together with c are one
    have hone : ∀ u v, u ∈ rootsW O n c → v ∈ rootsW O n c → Conn O u c → Conn O v c → u = v := by
      intro u v hu hv cu cv
      obtain ⟨_, hu1, hu2⟩ := mem_rootsW.1 hu
      obtain ⟨_, hv1, hv2⟩ := mem_rootsW.1 hv
      have fu := conn_split hu1 cu
      have fv := conn_split hv1 cv
      rcases fu with ⟨h, _⟩ | ⟨a, a1, a2, a3⟩
      · exact absurd rfl h
      · rcases fv with ⟨h, _⟩ | ⟨b, b1, b2, b3⟩
        · exact absurd rfl h
        · have k : CW O c u v := CW.trans (CW.trans a3 (hall a b (hs _ _ a2) (hs _ _ b2))) (CW.symm hs hv1 b3)
          have h1 := hu2 v hv1 k
          have h2 := hv2 u hu1 (CW.symm hs hu1 k)
          omega
    have hrest : ∀ u, u ∈ rootsW O n c → ¬ Conn O u c → u ∈ (rootsO O n).erase r := by
      intro u hu hcu
      obtain ⟨h0, h1, h2⟩ := mem_rootsW.1 hu
      refine (hmE u).2 ⟨?_, mem_rootsO.2 ⟨h0, fun y hy => ?_⟩⟩
      · rintro rfl; exact hcu (hr1.symm hs)
      · rcases conn_split h1 hy with ⟨h3, h4⟩ | ⟨a, _, a2, a3⟩
        · exact h2 y h3 h4
        · exact absurd ((cw_conn a3).step a2) hcu
    by_cases hex : ∃ u, u ∈ rootsW O n c ∧ Conn O u c
    · obtain ⟨u0, hu0, hc0⟩ := hex
      have := hndW.length_le_of_subset (l₂ := u0 :: (rootsO O n).erase r) fun u hu => by
        by_cases h : Conn O u c
        · rw [hone u u0 hu hu0 h hc0]; exact List.mem_cons_self
        · exact List.mem_cons_of_mem _ (hrest u hu h)
      simp only [List.length_cons] at this
      omega
    · have := hndW.length_le_of_subset (l₂ := (rootsO O n).erase r) fun u hu => hrest u hu fun h => hex ⟨u, hu, h⟩
      omega
end

theorem adj_less {n : Nat} {ls : List Ln} (hg : GoodG n ls) {i : Nat} (h2 : 2 ≤ n) (hi : i < n) (a b : Nat) : adjS (beside (n - 1) (withoutL i ls)) a b ↔ adjS (beside n ls) (upP i a) (upP i b) := by
  rw [adj_near (good_less hg h2 hi), adj_near hg, near_without]

open Classical in
theorem parts_less {n : Nat} {ls : List Ln} (hg : GoodG n ls) {i : Nat} (h2 : 2 ≤ n) (hi : i < n) : partsN (beside (n - 1) (withoutL i ls)) (n - 1) = (rootsW (beside n ls) n i).length := by
  have hA := adj_less hg h2 hi
  have hO := adj_bounded hg
  have hR : ∀ a, a < n - 1 → (RootC (beside (n - 1) (withoutL i ls)) a ↔ RootW (beside n ls) i (upP i a)) := by
    intro a ha
    constructor
    · intro h v hv hcv
      obtain ⟨y, hy, rfl, hay⟩ := hcv (fun v => ∃ y, y < n - 1 ∧ v = upP i y ∧ Conn (beside (n - 1) (withoutL i ls)) a y) ⟨a, ha, rfl, Conn.refl _ _⟩ (by
        rintro u v ⟨y, hy, rfl, hay⟩ huv hvi
        obtain ⟨z, hz, rfl⟩ := upP_of (hO _ _ huv).2 hvi hi
        exact ⟨z, hz, rfl, hay.step ((hA y z).2 huv)⟩)
      exact upP_lt.2 (h y hay)
    · intro h y hy
      have : CW (beside n ls) i (upP i a) (upP i y) := hy (fun y => CW (beside n ls) i (upP i a) (upP i y)) (CW.refl _ _ _) (fun u v hu huv => fun T h0 hT => hT _ _ (hu T h0 hT) ((hA u v).1 huv) (upP_ne _ _))
      exact upP_lt.1 (h _ (upP_ne _ _) this)
  have hperm : ((List.range (n - 1)).map (upP i)).Perm ((List.range n).filter fun u => decide (u ≠ i)) := by
    refine (List.perm_ext_iff_of_nodup ?_ (List.Pairwise.filter _ List.nodup_range)).2 fun u => ?_
    · exact List.pairwise_map.2 (List.nodup_range.imp fun h e => h (upP_inj e))
    · simp only [List.mem_map, List.mem_range, List.mem_filter, decide_eq_true_eq]
      constructor
      · rintro ⟨y, hy, rfl⟩
        exact ⟨(upP_in hi).1 hy, upP_ne _ _⟩
      · rintro ⟨h1, h3⟩
        obtain ⟨y, hy, rfl⟩ := upP_of h1 h3 hi
        exact ⟨y, hy, rfl⟩
  have e1 : partsN (beside (n - 1) (withoutL i ls)) (n - 1) = ((List.range (n - 1)).map (upP i)).countP fun u => decide (RootW (beside n ls) i u) := by
    rw [List.countP_map]
    unfold partsN
    refine List.countP_congr fun a ha => ?_
    simp only [Function.comp_apply, decide_eq_true_eq]
    exact hR a (List.mem_range.1 ha)
  rw [e1, hperm.countP_eq]
  unfold rootsW
  rw [List.countP_filter, List.countP_eq_length_filter]
  congr 1
  refine List.filter_congr fun u _ => ?_
  rw [Bool.eq_iff_iff]
  simp only [Bool.and_eq_true, decide_eq_true_eq]
  exact And.comm

open Classical in
theorem parts_len (O : List Nat) (n : Nat) : partsN O n = (rootsO O n).length := by
  unfold partsN rootsO
  rw [List.countP_eq_length_filter]
end Gr
end Go.Proofs.Ytjeafgnaoncphaa
