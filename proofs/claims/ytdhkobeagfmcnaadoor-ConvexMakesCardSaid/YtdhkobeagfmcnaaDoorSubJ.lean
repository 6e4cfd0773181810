
/-
  rotaref.Induced.
-/
import Derived.Test.YtdhkobeagfmcnaaDoorSubI
import Derived.Test.YtdhkobeagfmcnaaDoorBox0
namespace Go.Proofs.YtdhkobeagfmcnaaDoor
open Go.RowKit
set_option linter.unusedVariables false

end Go.Proofs.YtdhkobeagfmcnaaDoor
