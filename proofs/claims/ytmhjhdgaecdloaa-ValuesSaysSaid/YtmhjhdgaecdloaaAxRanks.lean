
/-
  axioms.ranks, axioms.Ranks.
-/
import Derived.Test.YtmhjhdgaecdloaaRks
namespace Go.Proofs.Ytmhjhdgaecdloaa
open Go.RowKit
set_option linter.unusedVariables false

end Go.Proofs.Ytmhjhdgaecdloaa
