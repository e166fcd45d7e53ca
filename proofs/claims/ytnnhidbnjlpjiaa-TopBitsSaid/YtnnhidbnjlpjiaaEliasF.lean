/- The closed fact of the statements on package elias is true: the walk. Conditions: none. -/
import Derived.Test.YtnnhidbnjlpjiaaElias3
import Derived.Test.YtnnhidbnjlpjiaaSame
namespace Go.Proofs.Ytnnhidbnjlpjiaa
open Go.RowKit

theorem Delta_in (n : Int) (w : World) (h1 : 1 ≤ n) (h2 : n ≤ 1000000) : Calls Try.prog 20 #[.int .i64 n] w (RetInts w (El.delta n.toNat) .nilIface) := by
  obtain ⟨k, rfl⟩ := Int.eq_ofNat_of_zero_le (show 0 ≤ n by omega)
  exact deltaE_yes k w (by omega) (by omega)

theorem El.g5 : El.gamma (5 : Int).toNat = [0, 0, 1, 0, 1] := by decide +kernel
theorem El.d5 : El.delta (5 : Int).toNat = [0, 1, 1, 0, 1] := by decide +kernel
theorem El.c4 : El.chk [1, 0, 1, 1] = 0 := by decide +kernel
theorem El.rg4 : El.rg [1, 0, 1, 1] = some (1, 1) := by decide +kernel
theorem El.rg3 : El.rg [0, 1, 1] = some (3, 3) := by decide +kernel
theorem El.r4 : El.ReadGamma [1, 0, 1, 1] = ([1, 3], 0) := by
  rw [El.ReadGamma, El.c4, El.readG_some (by simp) El.rg4]
  rw [show ([1, 0, 1, 1] : List Int).drop 1 = [0, 1, 1] from rfl, El.readG_some (by simp) El.rg3]
  rw [show ([0, 1, 1] : List Int).drop 3 = [] from rfl, El.readG_nil]
  rfl

end Go.Proofs.Ytnnhidbnjlpjiaa
