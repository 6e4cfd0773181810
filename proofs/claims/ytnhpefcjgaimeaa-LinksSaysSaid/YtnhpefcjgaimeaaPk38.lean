
/-
  greedy.weights, rotaref.Priced, rotalaw.priced, rotaref.IsOrder.
  axioms.ranks, axioms.Ranks.
-/
import Derived.Test.YtnhpefcjgaimeaaPk36
import Derived.Test.YtnhpefcjgaimeaaPk18
import Derived.Test.YtnhpefcjgaimeaaPk28
import Derived.Test.YtnhpefcjgaimeaaPk37
import Derived.Test.YtnhpefcjgaimeaaPk27
namespace Go.Proofs.Ytnhpefcjgaimeaa
open Go.RowKit
set_option linter.unusedVariables false

/-- what is wrong with weights of m elements -/
def PrcIs (m : Nat) (ws : List Int) (e : Int) : Prop := (ws.length ≠ m → e = 3) ∧ (ws.length = m → (∃ i, i < m ∧ ¬ (-1000 ≤ ws.getD i 0 ∧ ws.getD i 0 ≤ 1000)) → e = 1) ∧ (ws.length = m → (∀ i, i < m → -1000 ≤ ws.getD i 0 ∧ ws.getD i 0 ≤ 1000) → e = 0)
theorem PrcIs.ex (m : Nat) (ws : List Int) : ∃ e, PrcIs m ws e := by
  by_cases h : ws.length = m
  · by_cases h2 : ∀ i, i < m → -1000 ≤ ws.getD i 0 ∧ ws.getD i 0 ≤ 1000
    · exact ⟨0, fun c => absurd h c, fun _ ⟨i, hi, c⟩ => absurd (h2 i hi) c, fun _ _ => rfl⟩
    · exact ⟨1, fun c => absurd h c, fun _ _ => rfl, fun _ c => absurd c h2⟩
  · exact ⟨3, fun _ => rfl, fun c => absurd c h, fun c => absurd c h⟩
theorem PrcIs.ok {m : Nat} {ws : List Int} (h : PrcIs m ws 0) : ws.length = m ∧ ∀ i, i < m → -1000 ≤ ws.getD i 0 ∧ ws.getD i 0 ≤ 1000 := by
  have h1 : ws.length = m := Classical.byContradiction fun c => absurd (h.1 c) (by decide)
  refine ⟨h1, fun i hi => Classical.byContradiction fun c => ?_⟩
  exact absurd (h.2.1 h1 ⟨i, hi, c⟩) (by decide)

end Go.Proofs.Ytnhpefcjgaimeaa

namespace Go.Proofs.Ytnhpefcjgaimeaa
open Go.RowKit
set_option linter.unusedVariables false

end Go.Proofs.Ytnhpefcjgaimeaa
