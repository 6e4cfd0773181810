
/-
  Contracts of the small functions that nearly every statement reaches: All, In, Within, IsSet, Check, IsFamily, Family, Index, Contains, Has, BinarySearch. Each holds in whatever world, at the arguments that its own premises name.
-/
import Derived.Test.YtffnpokceomncaaBase
namespace Go.Proofs.Ytffnpokceomncaa
open Go.RowKit
set_option linter.unusedVariables false

/-- the set of one element -/
def bit (i : Nat) : Nat := 2 ^ i
theorem bit_cast (i : Nat) : ((2 : Int) ^ i) = ((bit i : Nat) : Int) := cast_pow i
theorem bit_le (i : Nat) (h : i ≤ 8) : 1 ≤ bit i ∧ bit i ≤ 256 := pow_le8 i h
theorem bit_lt (i : Nat) (h : i < 8) : 1 ≤ bit i ∧ bit i ≤ 128 := by
  have : ∀ n : Fin 8, 1 ≤ 2 ^ n.val ∧ 2 ^ n.val ≤ 128 := by decide
  exact this ⟨i, h⟩
def all (n : Int) : Int := ((2 ^ n.toNat - 1 : Nat) : Int)
theorem all_nat (n : Nat) : all (n : Int) = ((bit n - 1 : Nat) : Int) := rfl
theorem all_le (n : Int) (h8 : n ≤ 8) : 0 ≤ all n ∧ all n ≤ 255 := by
  have := pow_le8 n.toNat (by omega)
  unfold all; omega

set_option maxHeartbeats 400000 in
theorem c_all {B : Nat} {W : World} (u : Later B W) (n : Int) (h0 : 0 ≤ n) (h8 : n ≤ 8) :
    Calls Try.prog 44 #[.int .i64 n] u.val (Ret B W (.int .i64 (all n))) := by
  obtain ⟨m, rfl⟩ := Int.eq_ofNat_of_zero_le h0
  have hb := bit_le m (by omega)
  have hc := bit_cast m
  go_enter Try.func44, Try.ntmps44
  go_wp2
  go_ret
  exact Ret.mk u (vint (by rw [all_nat]; omega))

set_option maxHeartbeats 400000 in
theorem c_in {B : Nat} {W : World} (u : Later B W) (s i : Nat) (_hs : s < 9223372036854775808) (hi : i < 64) :
    Calls Try.prog 38 #[.int .i64 s, .int .i64 i] u.val (Ret B W (.bool (s.testBit i))) := by
  go_enter Try.func38, Try.ntmps38
  go_wp2
  go_ret
  refine Ret.mk u (vbool ?_)
  have e1 : ((s : Int) / 2 ^ i) = ((s / 2 ^ i : Nat) : Int) := by simp
  rw [e1]
  have e2 : (((s / 2 ^ i : Nat) : Int)).tmod 2 = ((s / 2 ^ i % 2 : Nat) : Int) := rfl
  show ((((s / 2 ^ i : Nat) : Int)).tmod 2 == 1) = _
  rw [e2, Nat.testBit_eq_decide_div_mod_eq]
  have : s / 2 ^ i % 2 < 2 := Nat.mod_lt _ (by decide)
  rw [Bool.eq_iff_iff]
  simp
  omega

/-- a set of n elements -/
def isSet (n s : Int) : Prop := 0 ≤ n ∧ n ≤ 8 ∧ 0 ≤ s ∧ s ≤ all n
instance (n s : Int) : Decidable (isSet n s) := by unfold isSet; infer_instance

def errno (b : Bool) (e : Int) : Int := if b then 0 else e
theorem errno_ok {p : Prop} [Decidable p] {e : Int} (h : p) : 0 = errno (decide p) e := by simp [errno, h]
theorem errno_bad {p : Prop} [Decidable p] {e : Int} (h : ¬ p) : e = errno (decide p) e := by simp [errno, h]

end Go.Proofs.Ytffnpokceomncaa
