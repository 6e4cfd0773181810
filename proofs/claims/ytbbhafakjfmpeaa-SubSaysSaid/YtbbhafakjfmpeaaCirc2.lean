
/-
  rotaref.Free, rotaref.Least.
-/
import Derived.Test.YtbbhafakjfmpeaaCirc
import Derived.Test.YtbbhafakjfmpeaaBox1
namespace Go.Proofs.Ytbbhafakjfmpeaa
open Go.RowKit
set_option linter.unusedVariables false

end Go.Proofs.Ytbbhafakjfmpeaa
