
/-
  rotaref.Free, rotaref.Least.
  rotaref.Circuits.
-/
import Derived.Test.YtdhmponbakodmaaDoorPk12
import Derived.Deep.RegionHeld3
namespace Go.Proofs.YtdhmponbakodmaaDoor
open Go.RowKit
set_option linter.unusedVariables false

end Go.Proofs.YtdhmponbakodmaaDoor

namespace Go.Proofs.YtdhmponbakodmaaDoor
open Go.RowKit
set_option linter.unusedVariables false

/-- not within a basis, and so that each set within it but itself is -/
def circB (m : Nat) (L : List Nat) (s : Nat) : Bool := leastB (those m (fun s => !freeB L s)) s

end Go.Proofs.YtdhmponbakodmaaDoor
