
/-
  rotaref.Circuits.
-/
import Derived.Test.YtmhjhdgaecdloaaCirc2
import Derived.Deep.RegionHeld3
namespace Go.Proofs.Ytmhjhdgaecdloaa
open Go.RowKit
set_option linter.unusedVariables false

/-- not within a basis, and so that each set within it but itself is -/
def circB (m : Nat) (L : List Nat) (s : Nat) : Bool := leastB (those m (fun s => !freeB L s)) s

end Go.Proofs.Ytmhjhdgaecdloaa
