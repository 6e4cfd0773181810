
/-
  rotaref.Induced and its closure.
  rotaref.Induced.
-/
import Derived.Test.YtpkjpmkmcffkhaaPk11
import Derived.Test.YtpkjpmkmcffkhaaPk08
namespace Go.Proofs.Ytpkjpmkmcffkhaa
open Go.RowKit
set_option linter.unusedVariables false

/-- no set within s, from the first on, is greater than the function says -/
def indepTo (f : List Int) (s k : Nat) : Prop := ∀ t, t < k → 1 ≤ t → t ||| s = s → (sz t : Int) ≤ f.getD t 0
instance (f s k) : Decidable (indepTo f s k) := by unfold indepTo; infer_instance
def indep (f : List Int) (s : Nat) : Bool := decide (indepTo f s (s + 1))

end Go.Proofs.Ytpkjpmkmcffkhaa

namespace Go.Proofs.Ytpkjpmkmcffkhaa
open Go.RowKit
set_option linter.unusedVariables false

end Go.Proofs.Ytpkjpmkmcffkhaa
