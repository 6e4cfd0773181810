
/-
  rotaref.Free, rotaref.Least.
-/
import Derived.Test.YtmhjhdgaecdloaaCirc
import Derived.Test.YtmhjhdgaecdloaaBox1
namespace Go.Proofs.Ytmhjhdgaecdloaa
open Go.RowKit
set_option linter.unusedVariables false

end Go.Proofs.Ytmhjhdgaecdloaa
