
/-
  rotaref.OfRank: the bases of what a function value says the ranks are; rotaref.Spread.
  rotaref.Spread, minors.pressed.
-/
import Derived.Test.YtenbeiafdiifgaaPk13
import Derived.Test.YtenbeiafdiifgaaPk03
import Derived.Test.YtenbeiafdiifgaaPk18
import Derived.Deep.RegionHeld3
namespace Go.Proofs.Ytenbeiafdiifgaa
open Go.RowKit
set_option linter.unusedVariables false

/-- a function value that tells of each set below 2^m a number, in whatever later world -/
def TellsN (B : Nat) (W : World) (k : FuncId) (caps : Array Value) (m : Nat) (r : Nat → Int) : Prop :=
  ∀ (x : Later B W) (v : Later x.val.heap.size x.val) (s : Nat), s < bit m → Calls Try.prog k (#[.int .i64 (s : Int)] ++ caps) v.val (Ret x.val.heap.size x.val (.int .i64 (r s)))

end Go.Proofs.Ytenbeiafdiifgaa

namespace Go.Proofs.Ytenbeiafdiifgaa
open Go.RowKit
set_option linter.unusedVariables false

theorem shr_and (x k : Nat) (hx : x < 256) : bits .and .i64 ((x : Int) / 2 ^ k) 1 = (((x.testBit k).toNat : Nat) : Int) := by
  have e1 : ((x : Int) / 2 ^ k) = ((x / 2 ^ k : Nat) : Int) := by simp
  have h1 : x / 2 ^ k ≤ x := Nat.div_le_self _ _
  rw [e1]
  have := i64_and (x / 2 ^ k) 1 (by omega) (by omega)
  rw [show ((1 : Nat) : Int) = 1 from rfl] at this
  rw [this, Nat.and_one_is_mod, Nat.toNat_testBit]

end Go.Proofs.Ytenbeiafdiifgaa
