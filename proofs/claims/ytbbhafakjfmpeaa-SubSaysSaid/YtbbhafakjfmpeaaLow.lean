
/-
  Contracts of the small functions that nearly every statement reaches: All, In, Within, IsSet, Check, IsFamily, Family, Index, Contains, Has, BinarySearch. Each holds in whatever world, at the arguments that its own premises name.
-/
import Derived.Test.YtbbhafakjfmpeaaBase
namespace Go.Proofs.Ytbbhafakjfmpeaa
open Go.RowKit
set_option linter.unusedVariables false

/-- the set of one element -/
def bit (i : Nat) : Nat := 2 ^ i
theorem bit_cast (i : Nat) : ((2 : Int) ^ i) = ((bit i : Nat) : Int) := cast_pow i
theorem bit_le (i : Nat) (h : i ≤ 8) : 1 ≤ bit i ∧ bit i ≤ 256 := pow_le8 i h
theorem bit_lt (i : Nat) (h : i < 8) : 1 ≤ bit i ∧ bit i ≤ 128 := by
  have : ∀ n : Fin 8, 1 ≤ 2 ^ n.val ∧ 2 ^ n.val ≤ 128 := by decide
  exact this ⟨i, h⟩
def all (n : Int) : Int := ((2 ^ n.toNat - 1 : Nat) : Int)
theorem all_nat (n : Nat) : all (n : Int) = ((bit n - 1 : Nat) : Int) := rfl
theorem all_le (n : Int) (h8 : n ≤ 8) : 0 ≤ all n ∧ all n ≤ 255 := by
  have := pow_le8 n.toNat (by omega)
  unfold all; omega

/-- a set of n elements -/
def isSet (n s : Int) : Prop := 0 ≤ n ∧ n ≤ 8 ∧ 0 ≤ s ∧ s ≤ all n
instance (n s : Int) : Decidable (isSet n s) := by unfold isSet; infer_instance

def errno (b : Bool) (e : Int) : Int := if b then 0 else e
theorem errno_ok {p : Prop} [Decidable p] {e : Int} (h : p) : 0 = errno (decide p) e := by simp [errno, h]
theorem errno_bad {p : Prop} [Decidable p] {e : Int} (h : ¬ p) : e = errno (decide p) e := by simp [errno, h]

end Go.Proofs.Ytbbhafakjfmpeaa
