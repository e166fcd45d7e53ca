/- What E.Lines returns: the walk. Conditions: in each statement. -/
import Derived.Test.YtmkdkjdbmnocoaaBack
namespace Go.Proofs.Ytmkdkjdbmnocoaa
open Go.RowKit Gr

theorem lnNe_at {xs ys : List Ln} {k : Nat} (h1 : k < xs.length) (h2 : k < ys.length) (h : xs[k] ≠ ys[k]) : xs ≠ ys := by
  intro e; subst e; exact h rfl

end Go.Proofs.Ytmkdkjdbmnocoaa
