
/-
  rotaref.Induced and its closure.
-/
import Derived.Test.YtdhkobeagfmcnaaDoorSubM
import Derived.Test.YtdhkobeagfmcnaaDoorGreed
namespace Go.Proofs.YtdhkobeagfmcnaaDoor
open Go.RowKit
set_option linter.unusedVariables false

/-- no set within s, from the first on, is greater than the function says -/
def indepTo (f : List Int) (s k : Nat) : Prop := ∀ t, t < k → 1 ≤ t → t ||| s = s → (sz t : Int) ≤ f.getD t 0
instance (f s k) : Decidable (indepTo f s k) := by unfold indepTo; infer_instance
def indep (f : List Int) (s : Nat) : Bool := decide (indepTo f s (s + 1))

end Go.Proofs.YtdhkobeagfmcnaaDoor
