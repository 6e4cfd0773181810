
/-
  rotaref.Circuits.
  rotaref.Ring.
-/
import Derived.Test.YtnhpefcjgaimeaaPk29
import Derived.Deep.RegionHeld3
namespace Go.Proofs.Ytnhpefcjgaimeaa
open Go.RowKit
set_option linter.unusedVariables false

/-- not within a basis, and so that each set within it but itself is -/
def circB (m : Nat) (L : List Nat) (s : Nat) : Bool := leastB (those m (fun s => !freeB L s)) s

end Go.Proofs.Ytnhpefcjgaimeaa

namespace Go.Proofs.Ytnhpefcjgaimeaa
open Go.RowKit
set_option linter.unusedVariables false

/-- the first of the circuits that lies in a set; 0: none -/
def RingIs (C : List Nat) (t r : Nat) : Prop := (∃ k, k < C.length ∧ C.getD k 0 ||| t = t ∧ (∀ i, i < k → ¬ C.getD i 0 ||| t = t) ∧ r = C.getD k 0) ∨ ((∀ i, i < C.length → ¬ C.getD i 0 ||| t = t) ∧ r = 0)

end Go.Proofs.Ytnhpefcjgaimeaa
