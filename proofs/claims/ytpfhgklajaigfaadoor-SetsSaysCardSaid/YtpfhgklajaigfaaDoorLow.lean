
/-
  Contracts of the small functions that nearly every statement reaches: All, In, Within, IsSet, Check, IsFamily, Family, Index, Contains, Has, BinarySearch. Each holds in whatever world, at the arguments that its own premises name.
-/
import Derived.Test.YtpfhgklajaigfaaDoorBase
namespace Go.Proofs.YtpfhgklajaigfaaDoor
open Go.RowKit
set_option linter.unusedVariables false

/-- the set of one element -/
def bit (i : Nat) : Nat := 2 ^ i
theorem bit_cast (i : Nat) : ((2 : Int) ^ i) = ((bit i : Nat) : Int) := cast_pow i
theorem bit_le (i : Nat) (h : i ≤ 8) : 1 ≤ bit i ∧ bit i ≤ 256 := pow_le8 i h
theorem bit_lt (i : Nat) (h : i < 8) : 1 ≤ bit i ∧ bit i ≤ 128 := by
  have : ∀ n : Fin 8, 1 ≤ 2 ^ n.val ∧ 2 ^ n.val ≤ 128 := by decide
  exact this ⟨i, h⟩
def all (n : Int) : Int := ((2 ^ n.toNat - 1 : Nat) : Int)
theorem all_nat (n : Nat) : all (n : Int) = ((bit n - 1 : Nat) : Int) := rfl
theorem all_le (n : Int) (h8 : n ≤ 8) : 0 ≤ all n ∧ all n ≤ 255 := by
  have := pow_le8 n.toNat (by omega)
  unfold all; omega

set_option maxHeartbeats 400000 in
theorem c_all {B : Nat} {W : World} (u : Later B W) (n : Int) (h0 : 0 ≤ n) (h8 : n ≤ 8) :
    Calls Tryd.prog 13 #[.int .i64 n] u.val (Ret B W (.int .i64 (all n))) := by
  obtain ⟨m, rfl⟩ := Int.eq_ofNat_of_zero_le h0
  have hb := bit_le m (by omega)
  have hc := bit_cast m
  go_enter Tryd.func13, Tryd.ntmps13
  go_wp2
  go_ret
  exact Ret.mk u (vint (by rw [all_nat]; omega))

set_option maxHeartbeats 400000 in
theorem c_in {B : Nat} {W : World} (u : Later B W) (s i : Nat) (_hs : s < 9223372036854775808) (hi : i < 64) :
    Calls Tryd.prog 16 #[.int .i64 s, .int .i64 i] u.val (Ret B W (.bool (s.testBit i))) := by
  go_enter Tryd.func16, Tryd.ntmps16
  go_wp2
  go_ret
  refine Ret.mk u (vbool ?_)
  have e1 : ((s : Int) / 2 ^ i) = ((s / 2 ^ i : Nat) : Int) := by simp
  rw [e1]
  have e2 : (((s / 2 ^ i : Nat) : Int)).tmod 2 = ((s / 2 ^ i % 2 : Nat) : Int) := rfl
  show ((((s / 2 ^ i : Nat) : Int)).tmod 2 == 1) = _
  rw [e2, Nat.testBit_eq_decide_div_mod_eq]
  have : s / 2 ^ i % 2 < 2 := Nat.mod_lt _ (by decide)
  rw [Bool.eq_iff_iff]
  simp
  omega

/-- a set of n elements -/
def isSet (n s : Int) : Prop := 0 ≤ n ∧ n ≤ 8 ∧ 0 ≤ s ∧ s ≤ all n
instance (n s : Int) : Decidable (isSet n s) := by unfold isSet; infer_instance

set_option maxHeartbeats 400000 in
theorem c_isSet {B : Nat} {W : World} (u : Later B W) (n s : Int) :
    Calls Tryd.prog 5 #[.int .i64 n, .int .i64 s] u.val (Ret B W (.bool (decide (isSet n s)))) := by
  rcases ile 0 n with ⟨g1, d1⟩ | ⟨g1, d1⟩
  · rcases ile n 8 with ⟨g2, d2⟩ | ⟨g2, d2⟩
    · rcases ile 0 s with ⟨g3, d3⟩ | ⟨g3, d3⟩
      · have H := Lib.hid (c_all u n g1 g2)
        go_enter Tryd.func5, Tryd.ntmps5
        go_wp2_with (go_at_call 13; refine H.out.mono ?_; rintro e _ ⟨rfl, v, rfl⟩)
        go_ret
        refine Ret.mk v (vbool ?_)
        refine bool_dec ?_; simp [isSet, g1, g2, g3]
      · go_enter Tryd.func5, Tryd.ntmps5
        go_wp2
        go_ret
        exact Ret.mk u (vbool (dec_false (by unfold isSet; omega)))
    · go_enter Tryd.func5, Tryd.ntmps5
      go_wp2
      go_ret
      exact Ret.mk u (vbool (dec_false (by unfold isSet; omega)))
  · go_enter Tryd.func5, Tryd.ntmps5
    go_wp2
    go_ret
    exact Ret.mk u (vbool (dec_false (by unfold isSet; omega)))

def errno (b : Bool) (e : Int) : Int := if b then 0 else e
theorem errno_ok {p : Prop} [Decidable p] {e : Int} (h : p) : 0 = errno (decide p) e := by simp [errno, h]
theorem errno_bad {p : Prop} [Decidable p] {e : Int} (h : ¬ p) : e = errno (decide p) e := by simp [errno, h]

set_option maxHeartbeats 400000 in
theorem c_setsCheck {B : Nat} {W : World} (u : Later B W) (n s : Int) :
    Calls Tryd.prog 6 #[.int .i64 n, .int .i64 s] u.val (Ret B W (.int .i64 (errno (decide (isSet n s)) 1))) := by
  by_cases h : 0 ≤ n ∧ n ≤ 8
  · obtain ⟨m, rfl⟩ := Int.eq_ofNat_of_zero_le h.1
    have hb := bit_le m (by omega)
    have hc := bit_cast m
    have hall : all (m : Int) = (bit m : Int) - 1 := by rw [all_nat]; omega
    have HA := Lib.hid hall; clear hall
    have h8 : m ≤ 8 := by omega
    clear h
    rcases ilt s 0 with ⟨g3, d3⟩ | ⟨g3, d3⟩ <;> rcases ile (bit m) s with ⟨g4, d4⟩ | ⟨g4, d4⟩
    all_goals
      go_enter Tryd.func6, Tryd.ntmps6
      go_wp2
      all_goals
        go_ret
        refine Ret.mk u (vint ?_)
        have := HA.out
        first | exact errno_ok (by unfold isSet; omega) | exact errno_bad (by unfold isSet; omega)
  · have h' : n < 0 ∨ 8 < n := by omega
    rcases h' with h' | h'
    all_goals
      go_enter Tryd.func6, Tryd.ntmps6
      go_wp2
      all_goals
        go_ret
        exact Ret.mk u (vint (errno_bad (by unfold isSet; omega)))

end Go.Proofs.YtpfhgklajaigfaaDoor
