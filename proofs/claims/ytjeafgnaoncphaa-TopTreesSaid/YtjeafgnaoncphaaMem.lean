/- Memory predicates for the walks: what a slice that is only read holds (Rd), what an append onto an owned row leaves (AppTo). Conditions: none. -/
import Derived.Test.YtjeafgnaoncphaaRows
import Derived.WalkKit
import Derived.WalkSpells
import Derived.WalkLawsBesides
import Derived.Maps.AppendAt
import Derived.RangeFuncBox
namespace Go.Proofs.Ytjeafgnaoncphaa
open Go.RowKit

/-- v is a slice of n elements whose cells, in a row, are cs. -/
def Rd (w : World) (v : Value) (n : Nat) (cs : List Value) : Prop :=
  ∃ a c, v = .slice a n c ∧ n ≤ c ∧ c ≤ maxLen ∧ (n = 0 → cs = []) ∧
    (0 < n → ∃ b off, a = some ⟨b, off, none⟩ ∧ b < w.heap.size ∧ ∀ j u, cs[j]? = some u → w.cell? ⟨b, off + j, none⟩ = some u)

theorem Rd.later {w w' : World} {v : Value} {n : Nat} {cs : List Value} (h : Rd w v n cs) (hb : Below w.heap.size w w') : Rd w' v n cs := by
  obtain ⟨a, c, rfl, h1, h2, h3, h4⟩ := h
  refine ⟨a, c, rfl, h1, h2, h3, fun hn => ?_⟩
  obtain ⟨b, off, rfl, hlt, hc⟩ := h4 hn
  exact ⟨b, off, rfl, Nat.lt_of_lt_of_le hlt hb.size, fun j u hu => (hb.cell (p := ⟨b, off + j, none⟩) hlt).trans (hc j u hu)⟩

/-- a slice that is read, below block number B -/
def RdB (B : Nat) (w : World) (v : Value) (n : Nat) (cs : List Value) : Prop :=
  ∃ a c, v = .slice a n c ∧ n ≤ c ∧ c ≤ maxLen ∧ (n = 0 → cs = []) ∧
    (0 < n → ∃ b off, a = some ⟨b, off, none⟩ ∧ b < B ∧ ∀ j u, cs[j]? = some u → w.cell? ⟨b, off + j, none⟩ = some u)

theorem Rd.toB {w : World} {v : Value} {n : Nat} {cs : List Value} (h : Rd w v n cs) : RdB w.heap.size w v n cs := h

theorem RdB.later {B : Nat} {w w' : World} {v : Value} {n : Nat} {cs : List Value} (h : RdB B w v n cs) (hb : Below B w w') : RdB B w' v n cs := by
  obtain ⟨a, c, rfl, h1, h2, h3, h4⟩ := h
  refine ⟨a, c, rfl, h1, h2, h3, fun hn => ?_⟩
  obtain ⟨b, off, rfl, hlt, hc⟩ := h4 hn
  exact ⟨b, off, rfl, hlt, fun j u hu => (hb.cell (p := ⟨b, off + j, none⟩) hlt).trans (hc j u hu)⟩

theorem RdB.rd {B : Nat} {w : World} {v : Value} {n : Nat} {cs : List Value} (h : RdB B w v n cs) (hB : B ≤ w.heap.size) : Rd w v n cs := by
  obtain ⟨a, c, rfl, h1, h2, h3, h4⟩ := h
  refine ⟨a, c, rfl, h1, h2, h3, fun hn => ?_⟩
  obtain ⟨b, off, rfl, hlt, hc⟩ := h4 hn
  exact ⟨b, off, rfl, Nat.lt_of_lt_of_le hlt hB, hc⟩

theorem Rd.nil (w : World) : Rd w (.slice none 0 0) 0 [] := ⟨none, 0, rfl, Nat.le_refl _, Nat.zero_le _, fun _ => rfl, fun h => absurd h (Nat.lt_irrefl _)⟩

/-- an owned row is read -/
theorem rd_of_owns {w : World} {base : Nat} {e : TypeId} {size : Nat} {v : Value} {n : Nat} {xs : List Value} (h : w.ownsRow base e size v n xs) : Rd w v n xs := by
  rcases h.2 with ⟨rfl, rfl⟩ | ⟨g, cap, cur, rfl, hb, hg, hn, hc, hs, ht⟩
  · have : xs = [] := List.eq_nil_of_length_eq_zero (by simpa using h.1)
    subst this; exact Rd.nil w
  · refine ⟨_, cap, rfl, hn, hc, fun h0 => List.eq_nil_of_length_eq_zero (by rw [h.1, h0]; simp), fun _ => ⟨g, 0, rfl, lt_of_block hg, fun j u hu => ?_⟩⟩
    have hlt : j < xs.length := (List.getElem?_eq_some_iff.1 hu).1
    have := h.cellAt (g := g) (cap := cap) j (by rw [h.1] at hlt; exact hlt)
    simpa [hu] using this

/-- ownership from a lower base -/
theorem owns_mono {w : World} {base base' : Nat} {e : TypeId} {size : Nat} {v : Value} {n : Nat} {xs : List Value} (h : w.ownsRow base e size v n xs) (hb : base' ≤ base) : w.ownsRow base' e size v n xs := by
  refine ⟨h.1, ?_⟩
  rcases h.2 with h2 | ⟨g, cap, cur, rfl, hb', r⟩
  · exact .inl h2
  · exact .inr ⟨g, cap, cur, rfl, Nat.le_trans hb hb', r⟩

theorem below_iff_grown {w w' : World} : Below w.heap.size w w' ↔ w.grownBy w' none :=
  ⟨fun h => ⟨h.os, h.tape, h.output, h.size, fun k hk _ => h.block k hk⟩, fun h => ⟨h.os, h.tape, h.output, h.size, fun k hk => h.block k hk (by simp)⟩⟩

/-- from v (owning in w) one came to v' (owning ys in w'): only v's own block, of those that were there, has turned -/
structure AppTo (w : World) (base : Nat) (e : TypeId) (size : Nat) (v : Value) (w' : World) (v' : Value) (m : Nat) (ys : List Value) : Prop where
  own : w'.ownsRow base e size v' m ys
  grown : w.grownBy w' v.ownBlock
  at_ : v'.ownBlock = v.ownBlock ∨ ∀ k, v'.ownBlock = some k → w.heap.size ≤ k

theorem AppTo.refl {w : World} {base : Nat} {e : TypeId} {size : Nat} {v : Value} {m : Nat} {ys : List Value} (h : w.ownsRow base e size v m ys) : AppTo w base e size v w v m ys :=
  ⟨h, World.grownBy.refl w _, .inl rfl⟩

theorem AppTo.trans {w w1 w2 : World} {base : Nat} {e : TypeId} {size : Nat} {v v1 v2 : Value} {m1 m2 : Nat} {y1 y2 : List Value}
    (h : AppTo w base e size v w1 v1 m1 y1) (k : AppTo w1 base e size v1 w2 v2 m2 y2) : AppTo w base e size v w2 v2 m2 y2 := by
  refine ⟨k.own, ⟨k.grown.os.trans h.grown.os, k.grown.tape.trans h.grown.tape, k.grown.output.trans h.grown.output, Nat.le_trans h.grown.size k.grown.size, fun i hi hne => ?_⟩, ?_⟩
  · refine (k.grown.block i (Nat.lt_of_lt_of_le hi h.grown.size) ?_).trans (h.grown.block i hi hne)
    rcases h.at_ with e1 | e1
    · rw [e1]; exact hne
    · intro he; have := e1 i he.symm; omega
  · rcases k.at_ with e2 | e2
    · rcases h.at_ with e1 | e1
      · exact .inl (e2.trans e1)
      · exact .inr fun j hj => e1 j (e2 ▸ hj)
    · exact .inr fun j hj => Nat.le_trans h.grown.size (e2 j hj)

/-- a new block first (what 'append(s, x)' lays for x), then the append -/
theorem AppTo.of_append {w w1 : World} {base : Nat} {e : TypeId} {size : Nat} {v v1 : Value} {m1 : Nat} {y1 : List Value} {o : Obj}
    (hown : w1.ownsRow base e size v1 m1 y1) (hg : (w.alloc o).grownBy w1 v.ownBlock) (hat : v1.ownBlock = v.ownBlock ∨ v1.ownBlock = some (w.alloc o).heap.size) : AppTo w base e size v w1 v1 m1 y1 := by
  refine ⟨hown, (World.grownBy_alloc w o _).trans hg, ?_⟩
  rcases hat with h | h
  · exact .inl h
  · refine .inr fun k hk => ?_
    rw [h] at hk; simp at hk; omega

theorem AppTo.of_append0 {w w1 : World} {base : Nat} {e : TypeId} {size : Nat} {v v1 : Value} {m1 : Nat} {y1 : List Value}
    (hown : w1.ownsRow base e size v1 m1 y1) (hg : w.grownBy w1 v.ownBlock) (hat : v1.ownBlock = v.ownBlock ∨ v1.ownBlock = some w.heap.size) : AppTo w base e size v w1 v1 m1 y1 := by
  refine ⟨hown, hg, ?_⟩
  rcases hat with h | h
  · exact .inl h
  · refine .inr fun k hk => ?_
    rw [h] at hk; simp at hk; omega

theorem AppTo.below {w w1 : World} {base : Nat} {e : TypeId} {size : Nat} {v v1 : Value} {m1 : Nat} {y1 : List Value} {B n : Nat} {xs : List Value} {w0 : World}
    (h : AppTo w base e size v w1 v1 m1 y1) (hv : w.ownsRow base e size v n xs) (hb : Below B w0 w) (hB : B ≤ base) (hB' : B ≤ w.heap.size) : Below B w0 w1 :=
  hb.grown h.grown hB' (fun k hk => Nat.le_trans hB (hv.lt k hk).1)

/-- a callee that only makes memory of its own -/
theorem AppTo.later {w w1 w2 : World} {base : Nat} {e : TypeId} {size : Nat} {v v1 : Value} {m1 : Nat} {y1 : List Value}
    (h : AppTo w base e size v w1 v1 m1 y1) (hb : Below w1.heap.size w1 w2) : AppTo w base e size v w2 v1 m1 y1 := by
  have hg := below_iff_grown.1 hb
  have h2 : w2.ownsRow base e size v1 m1 y1 := h.own.kept hg (by cases v1.ownBlock <;> simp)
  exact h.trans ⟨h2, ⟨hg.os, hg.tape, hg.output, hg.size, fun k hk _ => hg.block k hk (by simp)⟩, .inl rfl⟩

theorem owns_later {w1 w2 : World} {base : Nat} {e : TypeId} {size : Nat} {v1 : Value} {m1 : Nat} {y1 : List Value}
    (h : w1.ownsRow base e size v1 m1 y1) (hb : Below w1.heap.size w1 w2) : w2.ownsRow base e size v1 m1 y1 :=
  h.kept (below_iff_grown.1 hb) (by cases v1.ownBlock <;> simp)

theorem below_drewN' (w : World) (q : Nat) : Below w.heap.size w (w.drewN q) := below_drewN (Below.refl _ _) q

/-- from nil: what was there has not turned -/
theorem AppTo.of_nil {w w1 : World} {base : Nat} {e : TypeId} {size : Nat} {v1 : Value} {m1 : Nat} {y1 : List Value}
    (h : AppTo w base e size (.slice none 0 0) w1 v1 m1 y1) : Below w.heap.size w w1 := below_iff_grown.2 h.grown

/-- the length of a slice, for a loop's measure -/
def lenOf : Value → Nat | .slice _ n _ => n | _ => 0

/-- the numbers of a list as cells -/
abbrev ints (xs : List Int) : List Value := xs.map (Value.int .i64)

theorem ret_int {k : IntKind} {a b : Int} (h : a = b) : Ending.returned (.int k a) = .returned (.int k b) := by rw [h]

theorem ret_bool {a b : Bool} (h : a = b) : Ending.returned (.bool a) = .returned (.bool b) := by rw [h]

theorem ret_val {a b : Value} (h : a = b) : Ending.returned a = .returned b := by rw [h]

theorem below_trans {B : Nat} {a b c : World} (h : Below B a b) (k : Below b.heap.size b c) (hB : B ≤ a.heap.size) : Below B a c := h.trans (k.mono (Nat.le_trans hB h.size))


/-- 'append(s, x)' of one element (of size cells) onto a row that the call owns: x lies in the block that was laid last. -/
theorem wpl_app {P : Program} {ops : Array Oper} {rest : List Oper} {o : Oper} {a : Act} {Q : Exit → Act → World → Prop} (s x : Operand) (t : TypeId)
    {w0 w : World} {base : Nat} {e : TypeId} {size bytes : Nat} {v0 v : Value} {n : Nat} {xs : List Value} {vals : Array Value} {i : TypeInfo} {z : Value}
    (hA : AppTo w0 base e size v0 w v n xs)
    (hgd : o.guard = none) (ho : o.op = .call { callee := .builtin .append, args := #[s, x], argTypes := #[t, t] })
    (ht : P.underlying t = some (.slice e)) (hi : P.info? e = some i) (hz : i.zero = some z) (hsize : i.size = size) (hby : i.bytes = bytes) (hzs : z.cells.size = size) (hsz : 0 < size)
    (hs : a.eval s = v) (hx : a.eval x = .slice (some ⟨w.heap.size, 0, none⟩) 1 1) (hl : vals.size = size) (h1 : ∀ u ∈ vals.toList, u.oneCell' = true)
    (hby2 : bytes ≤ 1000) (h63 : n ≤ 100000000000) (hbase0 : base ≤ w0.heap.size)
    (h : ∀ v' w', AppTo w0 base e size v0 w' v' (n + 1) (xs ++ vals.toList) → v' ≠ .slice none 0 0 → Below base w w' → wpList P ops Q rest (a.put o.dst v') w') :
    wpList P ops Q (o :: rest) a (w.alloc (.cells vals e)) := by
  have hown := hA.own
  have hbase : base ≤ w.heap.size := Nat.le_trans hbase0 hA.grown.size
  refine wpList_append_own_at _ hgd s x t ho base e i z size bytes ht hi hz hsize hby hzs hsz v n xs hs (hown.alloc _) ⟨w.heap.size, 0, none⟩ 1 1 vals.toList hx (by simp [hl]) ?_ h1 (by unfold maxLen; omega) ?_ (by simp; omega) ?_
  · intro j u hu
    have hadd : (⟨w.heap.size, 0, none⟩ : Addr).add j = ⟨w.heap.size, j, none⟩ := by unfold Addr.add; split <;> simp_all
    rw [hadd, cell_of_row _ _ _ vals e (0, 0) (World.alloc_heap_new w (.cells vals e))]
    simpa using hu
  · have : (n + 1) * bytes ≤ (n + 1) * 1000 := Nat.mul_le_mul_left _ hby2
    omega
  · intro v' w' h1 h2 h3 h4
    have hs := AppTo.of_append h1 h2 h4
    exact h v' w' (hA.trans hs) (fun e => by have := (h3.1 e).2; omega) (hs.below hown (Below.refl _ _) (Nat.le_refl _) hbase)

theorem below_alloc' (w : World) (o : Obj) : Below w.heap.size w (w.alloc o) := (Below.refl _ _).alloc (Nat.le_refl _) o
theorem AppTo.alloc {w w1 : World} {base : Nat} {e : TypeId} {size : Nat} {v v1 : Value} {m1 : Nat} {y1 : List Value}
    (h : AppTo w base e size v w1 v1 m1 y1) (o : Obj) : AppTo w base e size v (w1.alloc o) v1 m1 y1 := h.later (below_alloc' _ _)
theorem AppTo.drew {w w1 : World} {base : Nat} {e : TypeId} {size : Nat} {v v1 : Value} {m1 : Nat} {y1 : List Value}
    (h : AppTo w base e size v w1 v1 m1 y1) : AppTo w base e size v w1.drew v1 m1 y1 := h.later ((Below.refl _ _).drew)

/-- append of one element at a step of a region that draws its order: the element lies in block b. -/
theorem step_app {P : Program} {ops : Array Oper} {o : Oper} {a : Act} {W : World} {K : Act → World → Prop} {Q : Exit → Act → World → Prop} {E : Prop} (s x : Operand) (t : TypeId)
    {w0 : World} {base : Nat} {e : TypeId} {size bytes : Nat} {v0 v : Value} {n : Nat} {xs : List Value} {i : TypeInfo} {z : Value}
    (hA : AppTo w0 base e size v0 W v n xs) (b : Nat) (vals : Array Value) (hblk : W.heap[b]? = some (.cells vals e (0, 0)))
    (hgd : o.guard = none) (ho : o.op = .call { callee := .builtin .append, args := #[s, x], argTypes := #[t, t] })
    (ht : P.underlying t = some (.slice e)) (hi : P.info? e = some i) (hz : i.zero = some z) (hsize : i.size = size) (hby : i.bytes = bytes) (hzs : z.cells.size = size) (hsz : 0 < size)
    (hs : a.eval s = v) (hx : a.eval x = .slice (some ⟨b, 0, none⟩) 1 1) (hl : vals.size = size) (h1 : ∀ u ∈ vals.toList, u.oneCell' = true)
    (hby2 : bytes ≤ 1000) (h63 : n ≤ 100000000000) (hbase0 : base ≤ w0.heap.size)
    (h : ∀ v' w', AppTo w0 base e size v0 w' v' (n + 1) (xs ++ vals.toList) → v' ≠ .slice none 0 0 → Below base W w' → K (a.put o.dst v') w') :
    if Region.wanted o (yielded ops a.tmps) = true then Oper.wp P o a W K Q else E := by
  have hw : Region.wanted o (yielded ops a.tmps) = true := by simp [Region.wanted, hgd]
  rw [if_pos hw]
  have hown := hA.own
  have hbase : base ≤ W.heap.size := Nat.le_trans hbase0 hA.grown.size
  have hnews : ∀ j u, vals.toList[j]? = some u → W.cell? ((⟨b, 0, none⟩ : Addr).add j) = some u := by
    intro j u hu
    have hadd : (⟨b, 0, none⟩ : Addr).add j = ⟨b, j, none⟩ := by unfold Addr.add; split <;> simp_all
    rw [hadd, cell_of_row _ _ _ vals e (0, 0) hblk]
    simpa using hu
  have hbytes : (n + 1) * bytes ≤ 140737488355328 := by
    have : (n + 1) * bytes ≤ (n + 1) * 1000 := Nat.mul_le_mul_left _ hby2
    omega
  obtain ⟨v', w', hr, h2, h3, h4, h5⟩ := run_append_own_at (P := P) W base t o.type e i z size bytes ht hi hz hsize hby hzs hsz v n xs hown ⟨b, 0, none⟩ 1 1 vals.toList (by simp [hl]) hnews h1 (by unfold maxLen; omega) hbytes hbase
  unfold Oper.wp execOp
  simp only [ho, resolve, invoke, builtin, Sem.run_bind, Sem.run_pure, Result.andThen_ok, List.map_toArray, List.map_cons, List.map_nil, hs, hx, hr]
  have hst := AppTo.of_append0 h2 h3 h5
  exact h v' w' (hA.trans hst) (fun e => by have := (h4.1 e).2; omega) (hst.below hown (Below.refl _ _) (Nat.le_refl _) hbase)

theorem bits_and_i64_nat (a b : Nat) (ha : a < 9223372036854775808) (hb : b < 9223372036854775808) :
    bits .and .i64 (a : Int) (b : Int) = ((a &&& b : Nat) : Int) := by
  have hx : a &&& b ≤ a := Nat.and_le_left
  have h1 : (BitVec.ofInt 64 (a : Int)).toNat = a := by
    rw [BitVec.ofInt_natCast, BitVec.toNat_ofNat]; exact Nat.mod_eq_of_lt (by omega)
  have h2 : (BitVec.ofInt 64 (b : Int)).toNat = b := by
    rw [BitVec.ofInt_natCast, BitVec.toNat_ofNat]; exact Nat.mod_eq_of_lt (by omega)
  show IntKind.i64.wrap ((BitVec.ofInt 64 (a : Int) &&& BitVec.ofInt 64 (b : Int)).toNat : Int) = _
  rw [BitVec.toNat_and, h1, h2]
  exact IntWalk.i64_in _ (by omega)

theorem and_one_i64 (a : Nat) (ha : a < 9223372036854775808) : bits .and .i64 (a : Int) 1 = ((a % 2 : Nat) : Int) := by
  have := bits_and_i64_nat a 1 ha (by omega)
  rw [Nat.and_one_is_mod] at this
  exact this


/-- an error of package api, as an interface value -/
abbrev errV (k : Int) : Value := .iface 71 (.int .i64 k)
/-- the error number as a result: 0 is nil -/
def errOf (k : Nat) : Value := if k = 0 then .nilIface else errV k

/-- the result of a call is a new list of numbers, and an error -/
def RetInts (w : World) (xs : List Int) (err : Value) (e : Ending) (w' : World) : Prop :=
  ∃ a c, e = .returned (.tuple #[.slice a xs.length c, err]) ∧ w'.ownsRow w.heap.size 3 1 (.slice a xs.length c) xs.length (ints xs) ∧ Below w.heap.size w w'

theorem owns_slice {w : World} {base : Nat} {e : TypeId} {size : Nat} {v : Value} {n : Nat} {xs : List Value} (h : w.ownsRow base e size v n xs) : ∃ a c, v = .slice a n c := by
  rcases h.2 with ⟨rfl, rfl⟩ | ⟨g, cap, cur, rfl, _⟩
  · exact ⟨_, _, rfl⟩
  · exact ⟨_, _, rfl⟩

theorem RetInts.mk {w : World} {xs : List Int} {err : Value} {e : Ending} {w' : World} {v' : Value} {n : Nat} (he : e = .returned (.tuple #[v', err])) (h : w'.ownsRow w.heap.size 3 1 v' n (ints xs)) (hn : n = xs.length) (hb : Below w.heap.size w w') : RetInts w xs err e w' := by
  subst hn
  obtain ⟨a, c, rfl⟩ := owns_slice h
  exact ⟨a, c, he, h, hb⟩

theorem RetInts.none {w : World} {err : Value} {e : Ending} (h : e = .returned (.tuple #[.slice none 0 0, err])) : RetInts w [] err e w :=
  ⟨_, _, h, World.ownsRow_nil _ _ _ _, Below.refl _ _⟩

theorem ints_length' (xs : List Int) : (ints xs).length = xs.length := by simp [ints]

theorem ints_get {xs : List Int} {k : Nat} (h : k < xs.length) : (ints xs)[k]? = some (.int .i64 (xs[k]'h)) := by
  simp [ints, h]


theorem sized_of {P : Program} {e : TypeId} {z : Value} {k b : Nat} (h : (P.info? e).map (fun i => (i.zero, i.size, i.bytes)) = some (some z, k, b)) (w : World) : (sizeOf e).run P w = .ok k w := by
  obtain ⟨i, hi, _, h2, _⟩ := info_parts h
  simp [sizeOf, typeInfo, hi, h2]

/-- s[lo:] of a slice that is read, elements of size cells -/
theorem slice_from {P : Program} {B : Nat} {w : World} {a : Option Addr} {n c size : Nat} {cs : List Value} (t : TypeId) (ht : P.underlying t = some (.slice (P.elem t)))
    (hsz : ∀ w', (sizeOf (P.elem t)).run P w' = .ok size w') (hr : RdB B w (.slice a n c) n cs) (hlen : cs.length = n * size) (lo : Nat) (h1 : lo ≤ n) :
    ∃ a', (∀ w', (Instr.slice t (.slice a n c) (some (.int .i64 (lo : Int))) none none).run P w' = .ok (.slice a' (n - lo) (c - lo)) w') ∧ RdB B w (.slice a' (n - lo) (c - lo)) (n - lo) (cs.drop (lo * size)) := by
  obtain ⟨a0, c0, hv, hnc, hcm, h0, hcell⟩ := hr
  cases hv
  refine ⟨if c = lo then a else a.map (·.add (lo * size)), fun w' => ?_, ?_⟩
  · rw [run_slice_l w' t a n c ht .i64 lo (by omega) (by omega), hsz]
    simp [Result.andThen, sliced]
  · refine ⟨_, _, rfl, by omega, by omega, fun hn => ?_, fun hn => ?_⟩
    · have : lo = n := by omega
      subst this
      exact List.drop_eq_nil_of_le (by rw [hlen]; exact Nat.le_refl _)
    · obtain ⟨b, off, rfl, hb, hc⟩ := hcell (by omega)
      rw [if_neg (by omega)]
      refine ⟨b, off + lo * size, ?_, hb, fun j u hu => ?_⟩
      · simp only [Option.map_some]
        congr 1
        unfold Addr.add; split <;> simp_all
      · rw [List.getElem?_drop] at hu
        rw [Nat.add_assoc]; exact hc _ _ hu

/-- s[:hi] of a slice that is read -/
theorem slice_to {P : Program} {B : Nat} {w : World} {a : Option Addr} {n c size : Nat} {cs : List Value} (t : TypeId) (ht : P.underlying t = some (.slice (P.elem t)))
    (hsz : ∀ w', (sizeOf (P.elem t)).run P w' = .ok size w') (hr : RdB B w (.slice a n c) n cs) (hi : Nat) (h1 : hi ≤ n) :
    ∃ a', (∀ w', (Instr.slice t (.slice a n c) none (some (.int .i64 (hi : Int))) none).run P w' = .ok (.slice a' hi c) w') ∧ RdB B w (.slice a' hi c) hi (cs.take (hi * size)) := by
  obtain ⟨a0, c0, hv, hnc, hcm, h0, hcell⟩ := hr
  cases hv
  refine ⟨if c = 0 then a else a.map (·.add 0), fun w' => ?_, ?_⟩
  · rw [run_slice_h w' t a n c ht .i64 hi (by omega) (by omega), hsz]
    simp [Result.andThen, sliced]
  · refine ⟨_, _, rfl, by omega, by omega, fun hn => by subst hn; simp, fun hn => ?_⟩
    obtain ⟨b, off, rfl, hb, hc⟩ := hcell (by omega)
    rw [if_neg (by omega)]
    refine ⟨b, off, by simp [Addr.add], hb, fun j u hu => ?_⟩
    refine hc _ _ ?_
    rw [List.getElem?_take] at hu
    split at hu
    · exact hu
    · cases hu

/-- a slice literal of numbers -/
theorem rd_lit {w : World} {cs : Array Value} {e : TypeId} {n : Nat} (xs : List Value) (hc : cs = xs.toArray) (hm : n ≤ maxLen) (h0 : n = 0 → xs = []) :
    Rd (w.alloc (.cells cs e)) (.slice (some ⟨w.heap.size, 0, none⟩) n n) n xs := by
  subst hc
  refine ⟨_, _, rfl, Nat.le_refl _, hm, h0, fun _ => ⟨_, 0, rfl, by simp, fun j u hu => ?_⟩⟩
  rw [Nat.zero_add, cell_of_row _ _ _ xs.toArray e (0, 0) (World.alloc_heap_new w (.cells xs.toArray e))]
  simpa using hu

theorem Rd.drewN {w : World} {v : Value} {n : Nat} {cs : List Value} (h : Rd w v n cs) (q : Nat) : Rd (w.drewN q) v n cs := h.later (below_drewN' _ _)
theorem Rd.alloc {w : World} {v : Value} {n : Nat} {cs : List Value} (h : Rd w v n cs) (o : Obj) : Rd (w.alloc o) v n cs := h.later (below_alloc' _ _)

theorem below_c {w wc w' : World} (h : Below w.heap.size w wc) (k : Below wc.heap.size wc w') : Below w.heap.size w w' := h.trans (k.mono h.size)
theorem below_ac {w wc w' : World} {o : Obj} (h : Below w.heap.size w wc) (k : Below (wc.alloc o).heap.size (wc.alloc o) w') : Below w.heap.size w w' := below_c (below_c h (below_alloc' _ _)) k

theorem Rd.bounds {w : World} {a : Option Addr} {n m c : Nat} {cs : List Value} (h : Rd w (.slice a n c) m cs) : n = m ∧ n ≤ c ∧ c ≤ maxLen := by
  obtain ⟨_, _, hv, h1, h2, _⟩ := h
  cases hv
  exact ⟨rfl, h1, h2⟩

/-- 'append(s, x...)' of a slice that is read onto a row that the call owns -/
theorem wpl_appL {P : Program} {ops : Array Oper} {rest : List Oper} {o : Oper} {a : Act} {Q : Exit → Act → World → Prop} (s x : Operand) (t : TypeId)
    {w0 w : World} {base : Nat} {e : TypeId} {size bytes : Nat} {v0 v : Value} {n : Nat} {xs : List Value} {i : TypeInfo} {z : Value} {ad : Option Addr} {m c : Nat} {news : List Value}
    (hA : AppTo w0 base e size v0 w v n xs) (hr : Rd w (.slice ad m c) m news) (hl : news.length = m * size) (hm : 0 < m)
    (hgd : o.guard = none) (ho : o.op = .call { callee := .builtin .append, args := #[s, x], argTypes := #[t, t] })
    (ht : P.underlying t = some (.slice e)) (hi : P.info? e = some i) (hz : i.zero = some z) (hsize : i.size = size) (hby : i.bytes = bytes) (hzs : z.cells.size = size) (hsz : 0 < size)
    (hs : a.eval s = v) (hx : a.eval x = .slice ad m c) (h1 : ∀ u ∈ news, u.oneCell' = true)
    (hby2 : bytes ≤ 1000) (h63 : n + m ≤ 100000000000) (hbase0 : base ≤ w0.heap.size)
    (h : ∀ v' w', AppTo w0 base e size v0 w' v' (n + m) (xs ++ news) → v' ≠ .slice none 0 0 → Below base w w' → wpList P ops Q rest (a.put o.dst v') w') :
    wpList P ops Q (o :: rest) a w := by
  have hown := hA.own
  have hbase : base ≤ w.heap.size := Nat.le_trans hbase0 hA.grown.size
  obtain ⟨a1, c1, hv, _, _, _, hc⟩ := hr
  cases hv
  obtain ⟨b, off, rfl, _, hcell⟩ := hc hm
  have hbytes : (n + m) * bytes ≤ 140737488355328 := by
    have : (n + m) * bytes ≤ (n + m) * 1000 := Nat.mul_le_mul_left _ hby2
    omega
  refine wpList_append_own_at _ hgd s x t ho base e i z size bytes ht hi hz hsize hby hzs hsz v n xs hs hown ⟨b, off, none⟩ m c news hx hl ?_ h1 (by unfold maxLen; omega) hbytes hbase ?_
  · intro j u hu
    have hadd : (⟨b, off, none⟩ : Addr).add j = ⟨b, off + j, none⟩ := by unfold Addr.add; split <;> simp_all
    rw [hadd]; exact hcell j u hu
  · intro v' w' h1 h2 h3 h4
    have hs := AppTo.of_append0 h1 h2 h4
    exact h v' w' (hA.trans hs) (fun e => by have := (h3.1 e).2; omega) (hs.below hown (Below.refl _ _) (Nat.le_refl _) hbase)

theorem ints_one (xs : List Int) : ∀ u ∈ ints xs, u.oneCell' = true := by
  intro u hu
  obtain ⟨x, _, rfl⟩ := List.mem_map.1 hu
  rfl

/-- another owned row, in another block, stays behind one step on a row -/
theorem owns_beside {w w' : World} {base base2 : Nat} {e e2 : TypeId} {s s2 : Nat} {g g' d : Value} {n' m : Nat} {xs' ys : List Value}
    (hs : AppTo w base e s g w' g' n' xs') (hd : w.ownsRow base2 e2 s2 d m ys) (hne : g.ownBlock = none ∨ g.ownBlock ≠ d.ownBlock) :
    w'.ownsRow base2 e2 s2 d m ys ∧ (g'.ownBlock = none ∨ g'.ownBlock ≠ d.ownBlock) := by
  refine ⟨hd.kept hs.grown ?_, ?_⟩
  · rcases hne with h | h
    · cases hb : d.ownBlock with
      | none => exact .inl rfl
      | some k => right; rw [h]; simp
    · exact .inr fun e => h e.symm
  · rcases hs.at_ with h | h
    · rw [h]; exact hne
    · cases hg : g'.ownBlock with
      | none => exact .inl rfl
      | some k =>
        right
        intro e
        have h1 := h k hg
        have h2 := (hd.lt k e.symm).2
        omega

theorem apart_symm {g d : Value} (h : g.ownBlock = none ∨ g.ownBlock ≠ d.ownBlock) : d.ownBlock = none ∨ d.ownBlock ≠ g.ownBlock := by
  rcases h with h | h
  · cases hd : d.ownBlock with
    | none => exact .inl rfl
    | some k => right; rw [h]; simp
  · exact .inr (Ne.symm h)

theorem apart_new {w w' : World} {base base' : Nat} {e e' : TypeId} {s s' : Nat} {g d : Value} {n m : Nat} {xs ys : List Value}
    (hg : w.ownsRow base e s g n xs) (hd : w'.ownsRow base' e' s' d m ys) (hb : w.heap.size ≤ base') : g.ownBlock = none ∨ g.ownBlock ≠ d.ownBlock := by
  cases h : g.ownBlock with
  | none => exact .inl rfl
  | some k =>
    right
    intro e
    have h1 := (hg.lt k h).2
    have h2 := (hd.lt k e.symm).1
    omega

end Go.Proofs.Ytjeafgnaoncphaa
