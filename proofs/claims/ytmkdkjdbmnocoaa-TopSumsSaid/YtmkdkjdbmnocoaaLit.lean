/- Slice literals that are read. Conditions: in each statement. -/
import Derived.Test.YtmkdkjdbmnocoaaCoreCheck
namespace Go.Proofs.Ytmkdkjdbmnocoaa
open Go.RowKit

theorem ints_lit {w : World} (xs : List Int) {cs : Array Value} {e : TypeId} {g n : Nat} (hg : g = w.heap.size) (hn : n = xs.length) (hc : cs = (ints xs).toArray) (hm : xs.length ≤ maxLen) :
    Rd (w.alloc (.cells cs e)) (.slice (some ⟨g, 0, none⟩) n n) xs.length (ints xs) := by
  subst hg hn
  exact rd_lit (ints xs) hc hm (fun h => List.eq_nil_of_length_eq_zero (by rw [ints_length', h]))

theorem vals_lit {w : World} (xs : List Value) {cs : Array Value} {e : TypeId} {g n : Nat} (hg : g = w.heap.size) (hn : n = xs.length) (hc : cs = xs.toArray) (hm : xs.length ≤ maxLen) :
    Rd (w.alloc (.cells cs e)) (.slice (some ⟨g, 0, none⟩) n n) n xs := by
  subst hg hn
  exact rd_lit xs hc hm (fun h => List.eq_nil_of_length_eq_zero h)

end Go.Proofs.Ytmkdkjdbmnocoaa
