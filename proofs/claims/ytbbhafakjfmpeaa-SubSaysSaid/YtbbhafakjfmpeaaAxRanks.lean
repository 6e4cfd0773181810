
/-
  axioms.ranks, axioms.Ranks.
-/
import Derived.Test.YtbbhafakjfmpeaaRks
namespace Go.Proofs.Ytbbhafakjfmpeaa
open Go.RowKit
set_option linter.unusedVariables false

end Go.Proofs.Ytbbhafakjfmpeaa
