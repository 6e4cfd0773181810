
/-
  rotaref.Matroid.
  greedy.basis, greedy.two.
-/
import Derived.Test.YtnhpefcjgaimeaaPk27
namespace Go.Proofs.Ytnhpefcjgaimeaa
open Go.RowKit
set_option linter.unusedVariables false

def subAt (r : Nat → Nat) (s i k : Nat) : Prop := r ((s ||| bit i) ||| (s ||| bit k)) + r ((s ||| bit i) &&& (s ||| bit k)) ≤ r (s ||| bit i) + r (s ||| bit k)
theorem rk_le8 (L : List Nat) (s : Nat) : rk L s ≤ 8 := rkTo_le8 L s L.length

end Go.Proofs.Ytnhpefcjgaimeaa

namespace Go.Proofs.Ytnhpefcjgaimeaa
open Go.RowKit
set_option linter.unusedVariables false

theorem MatIs.zero {n : Int} {l : List Int} (h : MatIs n l 0) : okM n l ∧ Exch (toN l) := by
  by_cases hk : okM n l
  · by_cases hx : Exch (toN l)
    · exact ⟨hk, hx⟩
    · have := h.2.1 hk hx; omega
  · have := h.1 hk; omega

/-- what greedy.two answers -/
def twoE (l : List Int) (e A B : Int) : Int := if e = 0 then (if A ∈ l ∧ B ∈ l then 0 else 1) else e

end Go.Proofs.Ytnhpefcjgaimeaa
