
/-
  The law's own helpers over matroids, where they answer true: SameMatroid, told.
  axioms.exchange.
-/
import Derived.Test.YtnhpefcjgaimeaaPk01
import Derived.Test.YtnhpefcjgaimeaaPk16
import Derived.Test.YtnhpefcjgaimeaaPk04
import Derived.Test.YtnhpefcjgaimeaaPk10
import Derived.Deep.CutRange
import Derived.Deep.CutBlock
namespace Go.Proofs.Ytnhpefcjgaimeaa
open Go.RowKit
set_option linter.unusedVariables false

end Go.Proofs.Ytnhpefcjgaimeaa

namespace Go.Proofs.Ytnhpefcjgaimeaa
open Go.RowKit
set_option linter.unusedVariables false

theorem mem_ints {L : List Nat} {x : Nat} : (x : Int) ∈ ints L ↔ x ∈ L := by
  unfold ints
  rw [List.mem_map]
  constructor
  · rintro ⟨y, hy, e⟩
    have : y = x := by omega
    rw [← this]; exact hy
  · intro h; exact ⟨x, h, rfl⟩
/-- element x of A can be exchanged for one of B -/
def exX (L : List Nat) (A B x : Nat) : Prop := ∃ y, B.testBit y = true ∧ A.testBit y = false ∧ (nand A (bit x) ||| bit y) ∈ L
def exP (L : List Nat) (A B : Nat) : Prop := ∀ x, A.testBit x = true → B.testBit x = false → exX L A B x
def ExO (L : List Nat) (A B t : Nat) : Prop := ∀ x, A.testBit x = true → B.testBit x = false → t.testBit x = false → exX L A B x
def ExI (L : List Nat) (A B e v : Nat) (ok : Bool) : Prop := (ok = true → exX L A B e) ∧ (ok = false → ∀ y, B.testBit y = true → A.testBit y = false → v.testBit y = false → ¬ (nand A (bit e) ||| bit y) ∈ L)
theorem ExI.start (L : List Nat) (A B e : Nat) : ExI L A B e (nand B A) false := ⟨(fun h => by cases h), fun _ y h1 h2 h3 => by rw [nand_testBit, h1, h2] at h3; cases h3⟩
theorem ExI.end {L : List Nat} {A B e v : Nat} {ok : Bool} (h : ExI L A B e v ok) (hv : v = 0 ∨ ok = true) : ok = true ↔ exX L A B e := by
  constructor
  · exact h.1
  · rintro ⟨y, h1, h2, h3⟩
    cases ok with
    | true => rfl
    | false =>
      have hv0 : v = 0 := by simpa using hv
      exact absurd h3 (h.2 rfl y h1 h2 (by rw [hv0]; simp))

end Go.Proofs.Ytnhpefcjgaimeaa
