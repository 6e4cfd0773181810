
/-
  Plain facts on sets as numbers below 256: the least element, what is left without it, one element in or out. No program in sight.
-/
import Derived.Test.YtffnpokceomncaaLow
namespace Go.Proofs.Ytffnpokceomncaa
set_option linter.unusedVariables false

theorem i64_drop1 (a : Nat) (ha : a < 256) (h0 : 1 ≤ a) : bits .and .i64 (a : Int) ((a : Int) - 1) = ((drop1 a : Nat) : Int) := by
  have : ∀ a : Fin 256, 1 ≤ a.val → bits .and .i64 (a.val : Int) ((a.val : Int) - 1) = ((drop1 a.val : Nat) : Int) := by decide +kernel
  exact this ⟨a, ha⟩ h0

theorem low_facts (t : Nat) (ht : t < 256) (h0 : t ≠ 0) : ∃ e, e < 8 ∧ low t = bit e ∧ t.testBit e = true ∧ (∀ i, i < 8 → (drop1 t).testBit i = (t.testBit i && decide (i ≠ e))) ∧ (∀ i, i < 8 → t.testBit i = true → e ≤ i) ∧ drop1 t < t := by
  have : ∀ t : Fin 256, t.val ≠ 0 → ∃ e : Fin 8, low t.val = bit e.val ∧ t.val.testBit e.val = true ∧ (∀ i : Fin 8, (drop1 t.val).testBit i.val = (t.val.testBit i.val && decide (i.val ≠ e.val))) ∧ (∀ i : Fin 8, t.val.testBit i.val = true → e.val ≤ i.val) ∧ drop1 t.val < t.val := by decide +kernel
  obtain ⟨e, h1, h2, h3, h4, h5⟩ := this ⟨t, ht⟩ h0
  exact ⟨e.val, e.isLt, h1, h2, fun i hi => h3 ⟨i, hi⟩, fun i hi => h4 ⟨i, hi⟩, h5⟩
theorem low_lt (t : Nat) (ht : t < 256) : low t < 256 := nand_lt _ _ 8 ht
theorem drop1_lt (t : Nat) (ht : t < 256) : drop1 t < 256 := Nat.lt_of_le_of_lt Nat.and_le_left ht

/-- out of a set: its number less -/
theorem nand_bit (s e : Nat) (hs : s < 256) (he : e < 8) (h : s.testBit e = true) : nand s (bit e) = s - bit e := by
  have : ∀ s : Fin 256, ∀ e : Fin 8, s.val.testBit e.val = true → nand s.val (bit e.val) = s.val - bit e.val := by decide +kernel
  exact this ⟨s, hs⟩ ⟨e, he⟩ h
theorem or_bit (s e : Nat) (hs : s < 256) (he : e < 8) (h : s.testBit e = false) : s ||| bit e = s + bit e := by
  have : ∀ s : Fin 256, ∀ e : Fin 8, s.val.testBit e.val = false → s.val ||| bit e.val = s.val + bit e.val := by decide +kernel
  exact this ⟨s, hs⟩ ⟨e, he⟩ h
theorem bit_le_of_mem (s e : Nat) (hs : s < 256) (he : e < 8) (h : s.testBit e = true) : bit e ≤ s := by
  have : ∀ s : Fin 256, ∀ e : Fin 8, s.val.testBit e.val = true → bit e.val ≤ s.val := by decide +kernel
  exact this ⟨s, hs⟩ ⟨e, he⟩ h
theorem testBit_bit (e i : Nat) : (bit e).testBit i = decide (e = i) := by unfold bit; rw [Nat.testBit_two_pow]
theorem testBit_hi (s i : Nat) (hs : s < 256) (hi : 8 ≤ i) : s.testBit i = false :=
  Nat.testBit_lt_two_pow (Nat.lt_of_lt_of_le hs (by
    have : (2:Nat) ^ 8 ≤ 2 ^ i := Nat.pow_le_pow_right (by decide) hi
    omega))
theorem lt_of_testBit {s i : Nat} (hs : s < 256) (h : s.testBit i = true) : i < 8 := by
  by_cases hi : i < 8
  · exact hi
  · rw [testBit_hi s i hs (by omega)] at h; cases h
theorem eq_of_bits {a b : Nat} (ha : a < 256) (hb : b < 256) (h : ∀ i, i < 8 → a.testBit i = b.testBit i) : a = b := by
  apply Nat.eq_of_testBit_eq
  intro i
  by_cases hi : i < 8
  · exact h i hi
  · rw [testBit_hi a i ha (by omega), testBit_hi b i hb (by omega)]
theorem or_lt (a b : Nat) (ha : a < 256) (hb : b < 256) : a ||| b < 256 := Nat.or_lt_two_pow (n := 8) ha hb
theorem bit_lt256 (e : Nat) (h : e < 8) : bit e < 256 := by have := bit_lt e h; omega
theorem eq_zero_of_bits {a : Nat} (ha : a < 256) (h : ∀ i, i < 8 → a.testBit i = false) : a = 0 :=
  eq_of_bits ha (by decide) (fun i hi => by rw [h i hi]; simp)
theorem exists_bit {a : Nat} (ha : a < 256) (h : a ≠ 0) : ∃ i, i < 8 ∧ a.testBit i = true := by
  obtain ⟨e, he, _, h2, _⟩ := low_facts a ha h
  exact ⟨e, he, h2⟩
/-- a set of n elements has no element from n on -/
theorem lt_pow_iff (n s : Nat) (hn : n ≤ 8) (hs : s < 256) : s < bit n ↔ ∀ i, i < 8 → s.testBit i = true → i < n := by
  have : ∀ n : Fin 9, ∀ s : Fin 256, s.val < bit n.val ↔ ∀ i : Fin 8, s.val.testBit i.val = true → i.val < n.val := by decide +kernel
  have := this ⟨n, by omega⟩ ⟨s, hs⟩
  rw [this]
  exact ⟨fun h i hi => h ⟨i, hi⟩, fun h i => h i.val i.isLt⟩
theorem testBit_all (n i : Nat) : (bit n - 1).testBit i = decide (i < n) := by unfold bit; exact Nat.testBit_two_pow_sub_one ..
/-- a is within b -/
theorem or_eq_iff {a b : Nat} : a ||| b = b ↔ ∀ i, a.testBit i = true → b.testBit i = true := by
  constructor
  · intro h i hi; rw [← h, Nat.testBit_or, hi]; rfl
  · intro h
    apply Nat.eq_of_testBit_eq
    intro i
    rw [Nat.testBit_or]
    cases ha : a.testBit i
    · simp
    · simp [h i ha]
theorem and_eq_zero_iff {a b : Nat} : a &&& b = 0 ↔ ∀ i, a.testBit i = true → b.testBit i = false := by
  constructor
  · intro h i hi
    have := congrArg (fun x => x.testBit i) h
    simpa [Nat.testBit_and, hi] using this
  · intro h
    apply Nat.eq_of_testBit_eq
    intro i
    rw [Nat.testBit_and, Nat.zero_testBit]
    cases ha : a.testBit i
    · simp
    · simp [h i ha]

/-- s >> i & 1 -/
theorem i64_bit (s i : Nat) (hs : s < 256) (hi : i < 8) : bits .and .i64 ((s : Int) / ((bit i : Nat) : Int)) 1 = (((s.testBit i).toNat : Nat) : Int) := by
  have : ∀ s : Fin 256, ∀ i : Fin 8, bits .and .i64 (((s.val / bit i.val : Nat) : Int)) 1 = (((s.val.testBit i.val).toNat : Nat) : Int) := by decide +kernel
  rw [← this ⟨s, hs⟩ ⟨i, hi⟩, Int.natCast_ediv]
theorem testBit_low {t e i : Nat} (h : low t = bit e) : (low t).testBit i = decide (e = i) := by rw [h, testBit_bit]
theorem and_low_zero {a t e : Nat} (h : low t = bit e) : (a &&& low t = 0) ↔ a.testBit e = false := by
  rw [h, and_eq_zero_iff]
  constructor
  · intro h
    cases hb : a.testBit e
    · rfl
    · have := h e hb; rw [testBit_bit] at this; simp at this
  · intro h i hi
    rw [testBit_bit]
    by_cases c : e = i
    · subst c; rw [h] at hi; cases hi
    · simp [c]
/-- a set of what is so -/
theorem exists_set (P : Nat → Prop) : ∃ X, X < 256 ∧ ∀ i, i < 8 → (X.testBit i = true ↔ P i) := by
  have step : ∀ k, k ≤ 8 → ∃ X, X < 256 ∧ ∀ i, i < 8 → (X.testBit i = true ↔ (i < k ∧ P i)) := by
    intro k
    induction k with
    | zero => intro _; exact ⟨0, by decide, fun i _ => by simp⟩
    | succ k ih =>
      intro hk
      obtain ⟨X, hX, h⟩ := ih (by omega)
      by_cases hp : P k
      · refine ⟨X ||| bit k, or_lt _ _ hX (bit_lt256 k (by omega)), fun i hi => ?_⟩
        rw [Nat.testBit_or, testBit_bit]
        by_cases c : k = i
        · subst c; simp [hp]
        · simp only [c, decide_false, Bool.or_false]
          rw [h i hi]
          constructor
          · rintro ⟨a, b⟩; exact ⟨by omega, b⟩
          · rintro ⟨a, b⟩; exact ⟨by omega, b⟩
      · refine ⟨X, hX, fun i hi => ?_⟩
        rw [h i hi]
        constructor
        · rintro ⟨a, b⟩; exact ⟨by omega, b⟩
        · rintro ⟨a, b⟩
          by_cases c : i = k
          · subst c; exact absurd b hp
          · exact ⟨by omega, b⟩
  obtain ⟨X, hX, h⟩ := step 8 (Nat.le_refl _)
  exact ⟨X, hX, fun i hi => by rw [h i hi]; exact ⟨fun x => x.2, fun x => ⟨hi, x⟩⟩⟩

end Go.Proofs.Ytffnpokceomncaa
