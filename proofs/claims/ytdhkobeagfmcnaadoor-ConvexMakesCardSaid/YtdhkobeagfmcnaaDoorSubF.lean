
/-
  rotaref.IsFunction, sub.form, rotaref.Slower: functions of sets.
-/
import Derived.Test.YtdhkobeagfmcnaaDoorThose
namespace Go.Proofs.YtdhkobeagfmcnaaDoor
open Go.RowKit
set_option linter.unusedVariables false

def inBound (f : List Int) (k : Nat) : Prop := ∀ i, i < k → -1000 ≤ f.getD i 0 ∧ f.getD i 0 ≤ 1000
theorem inBound_step {f : List Int} {k : Nat} (h : inBound f k) (h0 : -1000 ≤ f.getD k 0) (h1 : f.getD k 0 ≤ 1000) : inBound f (k+1) := by
  intro i hi
  by_cases e : i = k
  · subst e; exact ⟨h0, h1⟩
  · exact h i (by omega)
/-- a function of sets: a number of each, 0 of the empty one -/
def isFun (n : Int) (f : List Int) : Prop := 0 ≤ n ∧ n ≤ 8 ∧ f.length = bit n.toNat ∧ f.getD 0 0 = 0 ∧ ∀ i, i < f.length → -1000 ≤ f.getD i 0 ∧ f.getD i 0 ≤ 1000
instance (n f) : Decidable (isFun n f) := by unfold isFun; infer_instance

end Go.Proofs.YtdhkobeagfmcnaaDoor
