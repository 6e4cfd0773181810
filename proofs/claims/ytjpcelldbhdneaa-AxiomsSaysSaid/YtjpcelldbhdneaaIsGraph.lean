
/-
  rotaref.IsGraph.
-/
import Derived.Test.YtjpcelldbhdneaaGraph
namespace Go.Proofs.Ytjpcelldbhdneaa
open Go.RowKit
set_option linter.unusedVariables false

end Go.Proofs.Ytjpcelldbhdneaa
