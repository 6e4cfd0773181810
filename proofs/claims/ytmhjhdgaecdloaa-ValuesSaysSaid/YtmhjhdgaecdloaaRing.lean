
/-
  rotaref.Ring.
-/
import Derived.Test.YtmhjhdgaecdloaaCirc3
namespace Go.Proofs.Ytmhjhdgaecdloaa
open Go.RowKit
set_option linter.unusedVariables false

/-- the first of the circuits that lies in a set; 0: none -/
def RingIs (C : List Nat) (t r : Nat) : Prop := (∃ k, k < C.length ∧ C.getD k 0 ||| t = t ∧ (∀ i, i < k → ¬ C.getD i 0 ||| t = t) ∧ r = C.getD k 0) ∨ ((∀ i, i < C.length → ¬ C.getD i 0 ||| t = t) ∧ r = 0)

end Go.Proofs.Ytmhjhdgaecdloaa
