
/-
  The law's own helpers over matroids, where they answer true: SameMatroid, told.
-/
import Derived.Test.YtbbhafakjfmpeaaBase
import Derived.Test.YtbbhafakjfmpeaaFam2
namespace Go.Proofs.Ytbbhafakjfmpeaa
open Go.RowKit
set_option linter.unusedVariables false

end Go.Proofs.Ytbbhafakjfmpeaa
