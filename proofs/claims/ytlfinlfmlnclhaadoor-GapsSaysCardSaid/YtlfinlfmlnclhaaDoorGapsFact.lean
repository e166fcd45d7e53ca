/- The closed fact of the gaps laws; reading what was written: the walks. Conditions: in each statement. -/
import Derived.Test.YtlfinlfmlnclhaaDoorGaps
import Derived.Test.YtlfinlfmlnclhaaDoorLit
namespace Go.Proofs.YtlfinlfmlnclhaaDoor
open Go.RowKit
open El (at0 gAt gapsErr GapsOk lastOf)

theorem gapsRead_write (v : Value) (l : List Int) (w : World) (hr : Rd w v (El.writeG l).length (ints (El.writeG l))) (hg : GapsOk l) (hs : (El.writeG l).length ≤ 600) :
    Calls Tryd.prog 45 #[v] w (RetInts w l .nilIface) := by
  have h := gapsRead_any v (El.writeG l) w hr (El.chk_deltas (l := El.nums l) hs)
  rw [El.readD_writeG hg hs, El.readGaps_write hg hs] at h
  have hl := hg.len
  exact h (El.nums_in hg) (by simp [El.nums, El.diffs_length]; omega)

theorem El.g0 : GapsOk [0] := ⟨by decide, fun k hk => by
  have : k = 0 := by simp at hk; exact hk
  subst this; decide⟩
theorem El.w0 : El.writeG [0] = [0, 1, 0, 0, 1] := by decide +kernel

end Go.Proofs.YtlfinlfmlnclhaaDoor
