
/-
  rotaref.Dual, Deleted, Contracted, Cut.
  rotaref.Dual, Deleted, Contracted, Cut.
  rotaref.Closure.
-/
import Derived.Test.YtmcffbmhkbijlaaPk15
import Derived.Test.YtmcffbmhkbijlaaPk11
import Derived.Test.YtmcffbmhkbijlaaPk06
import Derived.Test.YtmcffbmhkbijlaaPk09
import Derived.Test.YtmcffbmhkbijlaaPk03
namespace Go.Proofs.Ytmcffbmhkbijlaa
open Go.RowKit
set_option linter.unusedVariables false

end Go.Proofs.Ytmcffbmhkbijlaa

namespace Go.Proofs.Ytmcffbmhkbijlaa
open Go.RowKit
set_option linter.unusedVariables false

theorem RowAt1.new (w : World) (t : TypeId) (v : Value) : RowAt1 (w.alloc (.cells #[v] t)) w.heap.size t v := heap_alloc_new w _
theorem RowAt1.keepAt {w w' : World} {g B : Nat} {t : TypeId} {v : Value} (h : RowAt1 w g t v) (hb : Below B w w') (hg : g < B) : RowAt1 w' g t v := by
  show w'.heap[g]? = _
  rw [hb.block g hg]; exact h

end Go.Proofs.Ytmcffbmhkbijlaa

namespace Go.Proofs.Ytmcffbmhkbijlaa
open Go.RowKit
set_option linter.unusedVariables false

/-- does one of the first k of some sets add x to a set? -/
def adds (C : List Nat) (s x k : Nat) : Prop := ∃ j, j < k ∧ (C.getD j 0).testBit x = true ∧ C.getD j 0 ||| (s ||| bit x) = s ||| bit x
theorem adds_step {C : List Nat} {s x k : Nat} : adds C s x (k+1) ↔ adds C s x k ∨ ((C.getD k 0).testBit x = true ∧ C.getD k 0 ||| (s ||| bit x) = s ||| bit x) := by
  constructor
  · rintro ⟨j, h1, h2⟩
    by_cases e : j = k
    · subst e; exact .inr h2
    · exact .inl ⟨j, by omega, h2⟩
  · rintro (⟨j, h1, h2⟩ | h)
    · exact ⟨j, by omega, h2⟩
    · exact ⟨k, by omega, h⟩
/-- behind k elements, and c circuits of the next one -/
def RcTo (C : List Nat) (s k c X : Nat) : Prop := ∀ i, i < 8 → (X.testBit i = true ↔ s.testBit i = true ∨ (i < k ∧ adds C s i C.length) ∨ (i = k ∧ adds C s i c))
theorem RcTo.next {C : List Nat} {s k X : Nat} (h : RcTo C s k C.length X) : RcTo C s (k+1) 0 X := fun i hi => by
  rw [h i hi]
  constructor
  · rintro (g | g | g)
    · exact .inl g
    · exact .inr (.inl ⟨by omega, g.2⟩)
    · exact .inr (.inl ⟨by omega, g.2⟩)
  · rintro (g | g | ⟨_, j, hj, _⟩)
    · exact .inl g
    · by_cases e : i = k
      · exact .inr (.inr ⟨e, g.2⟩)
      · exact .inr (.inl ⟨by omega, g.2⟩)
    · omega
theorem RcTo.yes {C : List Nat} {s k c X : Nat} (h : RcTo C s k c X) (h1 : (C.getD c 0).testBit k = true) (h2 : C.getD c 0 ||| (s ||| bit k) = s ||| bit k) : RcTo C s k (c+1) (X ||| bit k) := fun i hi => by
  rw [or_bit_testBit, Bool.or_eq_true, h i hi, decide_eq_true_eq, adds_step]
  constructor
  · rintro ((g | g | g) | rfl)
    · exact .inl g
    · exact .inr (.inl g)
    · exact .inr (.inr ⟨g.1, .inl g.2⟩)
    · exact .inr (.inr ⟨rfl, .inr ⟨h1, h2⟩⟩)
  · rintro (g | g | ⟨rfl, g⟩)
    · exact .inl (.inl g)
    · exact .inl (.inr (.inl g))
    · exact .inr rfl
theorem RcTo.no {C : List Nat} {s k c X : Nat} (h : RcTo C s k c X) (h1 : ¬ ((C.getD c 0).testBit k = true ∧ C.getD c 0 ||| (s ||| bit k) = s ||| bit k)) : RcTo C s k (c+1) X := fun i hi => by
  rw [h i hi, adds_step]
  constructor
  · rintro (g | g | g)
    · exact .inl g
    · exact .inr (.inl g)
    · exact .inr (.inr ⟨g.1, .inl g.2⟩)
  · rintro (g | g | ⟨rfl, g | g⟩)
    · exact .inl g
    · exact .inr (.inl g)
    · exact .inr (.inr ⟨rfl, g⟩)
    · exact absurd g h1

end Go.Proofs.Ytmcffbmhkbijlaa
