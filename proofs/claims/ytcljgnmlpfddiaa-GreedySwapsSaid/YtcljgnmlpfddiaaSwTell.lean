/-
  rotaref.Swapped: its function value.
-/
import Derived.Test.YtcljgnmlpfddiaaSwap
namespace Go.Proofs.Ytcljgnmlpfddiaa
open Go.RowKit
set_option linter.unusedVariables false

theorem nand_zero_sub {a b : Nat} : nand a b = 0 ↔ sub a b := by
  constructor
  · intro h i hi
    have h1 := congrArg (fun x => x.testBit i) h
    simp only [Nat.zero_testBit] at h1
    rw [nand_testBit, hi] at h1
    simpa using h1
  · intro h
    apply Nat.eq_of_testBit_eq
    intro i
    rw [nand_testBit, Nat.zero_testBit]
    cases ha : a.testBit i
    · rfl
    · rw [h i ha]; rfl
theorem add_disjoint {a b : Nat} (ha : a < 256) (hb : b < 256) (h : a &&& b = 0) : a + b = a ||| b := by
  have : ∀ a : Fin 256, ∀ b : Fin 256, a.val &&& b.val = 0 → a.val + b.val = a.val ||| b.val := by decide +kernel
  exact this ⟨a, ha⟩ ⟨b, hb⟩ h
theorem disj_left {A Bb x y : Nat} (h : sub y (nand Bb A)) : nand A x &&& y = 0 := by
  apply Nat.eq_of_testBit_eq
  intro i
  rw [Nat.testBit_and, nand_testBit, Nat.zero_testBit]
  cases hy : y.testBit i
  · simp
  · have := h i hy
    rw [nand_testBit] at this
    simp at this
    simp [this.2]

end Go.Proofs.Ytcljgnmlpfddiaa
