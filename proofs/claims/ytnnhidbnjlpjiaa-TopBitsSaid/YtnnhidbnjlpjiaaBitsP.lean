/- Rows and rings of all numbers of so many bits: plain. Conditions: in each statement. -/
import Derived.Test.YtnnhidbnjlpjiaaGapsP
namespace Go.Proofs.Ytnnhidbnjlpjiaa.Bt
open El (at0)

/-- the ring's words, one behind the other: the word, and what has been put -/
def putS (long : Nat) : Nat → Nat → Nat → List Int × List Int → List Int × List Int
  | 0, _, _, st => st
  | f + 1, t, p, st =>
    if long < t then (if long % p = 0 then (st.1, st.2 ++ (st.1.drop 1).take p) else st) else
      let st1 := putS long f (t + 1) p (st.1.set t (at0 st.1 (t - p)), st.2)
      let k0 := (at0 st1.1 (t - p) + 1).toNat
      (List.range (2 - k0)).foldl (fun st i => putS long f (t + 1) t (st.1.set t ((k0 + i : Nat) : Int), st.2)) st1
def ringS (long : Nat) : List Int := (putS long (long + 1) 1 1 (List.replicate (long + 1) 0, [])).2

def gray (place : Nat) : Nat := place ^^^ (place / 2)
/-- the place of a number in the row -/
def unGray : Nat → Nat → Nat → Nat
  | 0, _, o => o
  | f + 1, n, o => if n = 0 then o else unGray f (n / 2) (o ^^^ n)
/-- the bits of a number, the highest first -/
def bitsOf (n bits : Nat) : List Int := (List.range bits).map fun i => if n.testBit (bits - 1 - i) then 1 else 0
/-- the number that stands in a ring from a place on -/
def readAt (r : List Int) (k bits : Nat) : Nat := (List.range bits).foldl (fun x i => 2 * x + (at0 r ((k + i) % r.length)).toNat) 0
def same (r w : List Int) (i : Nat) : Bool := (List.range w.length).all fun k => at0 r ((i + k) % r.length) == at0 w k
/-- the first place at which a word stands -/
def find (r w : List Int) : Option Nat := (List.range r.length).find? fun i => same r w i

def okBits (bits place : Nat) : Bool :=
  let n := gray place
  let r := ringS bits
  decide (n ≤ 63) && decide (r.length = 2 ^ bits) && r.all (fun x => x == 0 || x == 1) &&
  match find r (bitsOf n bits) with
  | none => false
  | some k => decide (k < r.length) && decide (readAt r k bits = n) && decide (unGray 64 n 0 = place)
theorem okBits_all : ((List.range 7).all fun bits => decide (bits = 0) || (List.range (2 ^ bits)).all fun place => okBits bits place) = true := by decide +kernel
theorem ring1 : ringS 1 = [0, 1] := by decide +kernel

end Go.Proofs.Ytnnhidbnjlpjiaa.Bt
