
/-
  axioms.ranks, axioms.Ranks.
  hall.RadoBar.
-/
import Derived.Test.YtdhmponbakodmaaDoorPk10
import Derived.Deep.CutRange
import Derived.Deep.CutBlock
import Derived.Test.YtdhmponbakodmaaDoorPk08
import Derived.Test.YtdhmponbakodmaaDoorPk17
namespace Go.Proofs.YtdhmponbakodmaaDoor
open Go.RowKit
set_option linter.unusedVariables false

end Go.Proofs.YtdhmponbakodmaaDoor

namespace Go.Proofs.YtdhmponbakodmaaDoor
open Go.RowKit
set_option linter.unusedVariables false

/-- sets that have too little rank together -/
def barC (L ls : List Nat) (s : Nat) : Prop := rk L (sev ls s) < sz s
def BarIs (q : Nat) (P : Nat → Prop) (x e : Int) : Prop := (∃ s : Nat, s < bit q ∧ P s ∧ (∀ z, z < s → ¬ P z) ∧ x = s ∧ e = 0) ∨ ((∀ z, z < bit q → ¬ P z) ∧ x = 0 ∧ e = 5)
theorem BarIs.hit {q : Nat} {P : Nat → Prop} {x e : Int} (h : BarIs q P x e) {s : Nat} (hs : s < bit q) (hp : P s) (hno : ∀ z, z < s → ¬ P z) : x = s ∧ e = 0 := by
  rcases h with ⟨k, h1, h2, h3, h4, h5⟩ | ⟨h1, _⟩
  · have : k = s := by
      rcases Nat.lt_trichotomy k s with c | c | c
      · exact absurd h2 (hno k c)
      · exact c
      · exact absurd hp (h3 s c)
    rw [← this]; exact ⟨h4, h5⟩
  · exact absurd hp (h1 s hs)
theorem BarIs.miss {q : Nat} {P : Nat → Prop} {x e : Int} (h : BarIs q P x e) (hno : ∀ z, z < bit q → ¬ P z) : x = 0 ∧ e = 5 := by
  rcases h with ⟨k, h1, h2, _⟩ | ⟨_, h⟩
  · exact absurd h2 (hno k h1)
  · exact h

end Go.Proofs.YtdhmponbakodmaaDoor
