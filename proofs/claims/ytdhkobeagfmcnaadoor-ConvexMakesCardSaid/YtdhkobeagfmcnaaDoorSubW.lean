
/-
  rotaref.Slower and sub.Check, the walks.
-/
import Derived.Test.YtdhkobeagfmcnaaDoorSubG
namespace Go.Proofs.YtdhkobeagfmcnaaDoor
open Go.RowKit
set_option linter.unusedVariables false

theorem isFun.bound {n : Int} {f : List Int} (h : isFun n f) (i : Nat) : -1000 ≤ f.getD i 0 ∧ f.getD i 0 ≤ 1000 := by
  by_cases hi : i < f.length
  · exact h.2.2.2.2 i hi
  · have : f.getD i 0 = 0 := by simp [Nat.le_of_not_lt hi]
    rw [this]; omega

end Go.Proofs.YtdhkobeagfmcnaaDoor
