
/-
  Sets as numbers: what bounds them, elements struck and added, one within another.
-/
import Derived.Test.YtffnpokceomncaaBits
import Derived.Test.YtffnpokceomncaaSets
namespace Go.Proofs.Ytffnpokceomncaa
set_option linter.unusedVariables false

theorem or_lt_bit {m a b : Nat} (ha : a < bit m) (hb : b < bit m) : a ||| b < bit m := Nat.or_lt_two_pow ha hb
theorem and_lt_bit {m a : Nat} (b : Nat) (ha : a < bit m) : a &&& b < bit m := Nat.lt_of_le_of_lt Nat.and_le_left ha
theorem bit_lt_bit {m i : Nat} (h : i < m) : bit i < bit m := by
  unfold bit; exact Nat.pow_lt_pow_right (by decide) h
theorem lt_m_of_testBit {m s i : Nat} (hs : s < bit m) (h : s.testBit i = true) : i < m := by
  apply Classical.byContradiction
  intro hc
  have : s < 2 ^ i := Nat.lt_of_lt_of_le hs (by unfold bit; exact Nat.pow_le_pow_right (by decide) (by omega))
  rw [Nat.testBit_lt_two_pow this] at h
  cases h
theorem nand_bit_lt {t k : Nat} (ht : t < 256) (hk : k < 8) (h : t.testBit k = true) : nand t (bit k) < t := by
  rw [nand_bit t k ht hk h]
  have := bit_le_of_mem t k ht hk h
  have : 0 < bit k := by unfold bit; exact Nat.two_pow_pos k
  omega
theorem nand_testBit_bit (t k i : Nat) : (nand t (bit k)).testBit i = (t.testBit i && !decide (k = i)) := by rw [nand_testBit, testBit_bit]
theorem nand_or_bit {t k : Nat} (h : t.testBit k = true) : nand t (bit k) ||| bit k = t := by
  apply Nat.eq_of_testBit_eq
  intro i
  rw [Nat.testBit_or, nand_testBit_bit, testBit_bit]
  by_cases c : k = i
  · subst c; simp [h]
  · simp [c]
/-- within -/
def sub (s t : Nat) : Prop := ∀ i, s.testBit i = true → t.testBit i = true
theorem exists_diff {s t : Nat} (h : ¬ sub t s) : ∃ k, t.testBit k = true ∧ s.testBit k = false := by
  apply Classical.byContradiction
  intro hc
  apply h
  intro i hi
  cases hs : s.testBit i
  · exact absurd ⟨i, hi, hs⟩ hc
  · rfl
theorem sub_antisymm {s t : Nat} (h1 : sub s t) (h2 : sub t s) : s = t := by
  apply Nat.eq_of_testBit_eq
  intro i
  cases hs : s.testBit i <;> cases ht : t.testBit i
  · rfl
  · have := h2 i ht; rw [hs] at this; cases this
  · have := h1 i hs; rw [ht] at this; cases this
  · rfl

end Go.Proofs.Ytffnpokceomncaa
