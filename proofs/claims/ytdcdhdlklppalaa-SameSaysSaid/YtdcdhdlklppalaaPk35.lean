
/-
  rotalaw.one, where both sides agree.
-/
import Derived.Test.YtdcdhdlklppalaaPk04
namespace Go.Proofs.Ytdcdhdlklppalaa
open Go.RowKit
set_option linter.unusedVariables false

theorem c_one_yes {B : Nat} {W : World} (u : Later B W) (x : Int) : Calls Try.prog 18 #[.int .i64 x, .int .i64 0, .int .i64 x, .int .i64 0] u.val (Ret B W (.bool true)) := c_one u x 0 x 0 rfl (by rw [if_pos rfl])
theorem c_one_no {B : Nat} {W : World} (u : Later B W) (y e : Int) (he : e ≠ 0) : Calls Try.prog 18 #[.int .i64 0, .int .i64 e, .int .i64 y, .int .i64 e] u.val (Ret B W (.bool true)) := c_one u 0 e y e rfl (by rw [if_neg he])

end Go.Proofs.Ytdcdhdlklppalaa
