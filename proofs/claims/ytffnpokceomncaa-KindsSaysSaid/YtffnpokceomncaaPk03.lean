
/-
  rotaref.IsFunction, sub.form, rotaref.Slower: functions of sets.
  Sets as numbers: what bounds them, elements struck and added, one within another.
  A function of sets is submodular at any two sets as soon as it is so at any set and two further elements. No program in sight.
-/
import Derived.Test.YtffnpokceomncaaPk02
import Derived.Test.YtffnpokceomncaaPk01
namespace Go.Proofs.Ytffnpokceomncaa
open Go.RowKit
set_option linter.unusedVariables false

def inBound (f : List Int) (k : Nat) : Prop := ∀ i, i < k → -1000 ≤ f.getD i 0 ∧ f.getD i 0 ≤ 1000
theorem inBound_step {f : List Int} {k : Nat} (h : inBound f k) (h0 : -1000 ≤ f.getD k 0) (h1 : f.getD k 0 ≤ 1000) : inBound f (k+1) := by
  intro i hi
  by_cases e : i = k
  · subst e; exact ⟨h0, h1⟩
  · exact h i (by omega)
/-- a function of sets: a number of each, 0 of the empty one -/
def isFun (n : Int) (f : List Int) : Prop := 0 ≤ n ∧ n ≤ 8 ∧ f.length = bit n.toNat ∧ f.getD 0 0 = 0 ∧ ∀ i, i < f.length → -1000 ≤ f.getD i 0 ∧ f.getD i 0 ≤ 1000
instance (n f) : Decidable (isFun n f) := by unfold isFun; infer_instance

end Go.Proofs.Ytffnpokceomncaa

namespace Go.Proofs.Ytffnpokceomncaa
set_option linter.unusedVariables false

theorem or_lt_bit {m a b : Nat} (ha : a < bit m) (hb : b < bit m) : a ||| b < bit m := Nat.or_lt_two_pow ha hb
theorem and_lt_bit {m a : Nat} (b : Nat) (ha : a < bit m) : a &&& b < bit m := Nat.lt_of_le_of_lt Nat.and_le_left ha
theorem bit_lt_bit {m i : Nat} (h : i < m) : bit i < bit m := by
  unfold bit; exact Nat.pow_lt_pow_right (by decide) h
theorem lt_m_of_testBit {m s i : Nat} (hs : s < bit m) (h : s.testBit i = true) : i < m := by
  apply Classical.byContradiction
  intro hc
  have : s < 2 ^ i := Nat.lt_of_lt_of_le hs (by unfold bit; exact Nat.pow_le_pow_right (by decide) (by omega))
  rw [Nat.testBit_lt_two_pow this] at h
  cases h
theorem nand_bit_lt {t k : Nat} (ht : t < 256) (hk : k < 8) (h : t.testBit k = true) : nand t (bit k) < t := by
  rw [nand_bit t k ht hk h]
  have := bit_le_of_mem t k ht hk h
  have : 0 < bit k := by unfold bit; exact Nat.two_pow_pos k
  omega
theorem nand_testBit_bit (t k i : Nat) : (nand t (bit k)).testBit i = (t.testBit i && !decide (k = i)) := by rw [nand_testBit, testBit_bit]
theorem nand_or_bit {t k : Nat} (h : t.testBit k = true) : nand t (bit k) ||| bit k = t := by
  apply Nat.eq_of_testBit_eq
  intro i
  rw [Nat.testBit_or, nand_testBit_bit, testBit_bit]
  by_cases c : k = i
  · subst c; simp [h]
  · simp [c]
/-- within -/
def sub (s t : Nat) : Prop := ∀ i, s.testBit i = true → t.testBit i = true
theorem exists_diff {s t : Nat} (h : ¬ sub t s) : ∃ k, t.testBit k = true ∧ s.testBit k = false := by
  apply Classical.byContradiction
  intro hc
  apply h
  intro i hi
  cases hs : s.testBit i
  · exact absurd ⟨i, hi, hs⟩ hc
  · rfl
theorem sub_antisymm {s t : Nat} (h1 : sub s t) (h2 : sub t s) : s = t := by
  apply Nat.eq_of_testBit_eq
  intro i
  cases hs : s.testBit i <;> cases ht : t.testBit i
  · rfl
  · have := h2 i ht; rw [hs] at this; cases this
  · have := h1 i hs; rw [ht] at this; cases this
  · rfl

end Go.Proofs.Ytffnpokceomncaa

namespace Go.Proofs.Ytffnpokceomncaa
set_option linter.unusedVariables false

/-- at any two sets -/
def slowAt (f : List Int) (s t : Nat) : Prop := f.getD (s ||| t) 0 + f.getD (s &&& t) 0 ≤ f.getD s 0 + f.getD t 0
def Slow (f : List Int) : Prop := ∀ s, s < f.length → ∀ t, t < s → slowAt f s t
/-- at a set and two further elements -/
def locAt (f : List Int) (s i k : Nat) : Prop := s.testBit i = false → s.testBit k = false → f.getD (s ||| bit i ||| bit k) 0 + f.getD s 0 ≤ f.getD (s ||| bit i) 0 + f.getD (s ||| bit k) 0
def Local (f : List Int) (m : Nat) : Prop := ∀ s, s < f.length → ∀ i, i < m → ∀ k, k < i → locAt f s i k

theorem loc_sym {f : List Int} {m : Nat} (h : Local f m) {s : Nat} (hs : s < f.length) {i k : Nat} (hi : i < m) (hk : k < m) (hne : i ≠ k) : locAt f s i k := by
  rcases Nat.lt_or_gt_of_ne hne with hlt | hlt
  · intro h1 h2
    have := h s hs k hk i hlt h2 h1
    have e : s ||| bit i ||| bit k = s ||| bit k ||| bit i := by rw [Nat.or_assoc, Nat.or_comm (bit i), ← Nat.or_assoc]
    rw [e]; omega
  · exact h s hs i hi k hlt

/-- what an element adds falls as the set grows -/
theorem marg {f : List Int} {m : Nat} (hm : m ≤ 8) (hl : f.length = bit m) (h : Local f m) (i : Nat) (hi : i < m) : ∀ t, t < bit m → t.testBit i = false → ∀ s, sub s t → f.getD (t ||| bit i) 0 - f.getD t 0 ≤ f.getD (s ||| bit i) 0 - f.getD s 0 := by
  intro t
  induction t using Nat.strongRecOn with
  | _ t ih =>
  intro ht hti s hst
  have hb := bit_le m hm
  by_cases hts : sub t s
  · rw [sub_antisymm hst hts]; omega
  · obtain ⟨k, hk1, hk2⟩ := exists_diff hts
    have hkm := lt_m_of_testBit ht hk1
    have hlt := nand_bit_lt (by omega) (by omega) hk1
    have hik : i ≠ k := by rintro rfl; rw [hti] at hk1; cases hk1
    have ti : (nand t (bit k)).testBit i = false := by rw [nand_testBit_bit, hti]; rfl
    have tk : (nand t (bit k)).testBit k = false := by rw [nand_testBit_bit]; simp
    have h1 := ih (nand t (bit k)) hlt (by omega) ti s (by
      intro j hj
      rw [nand_testBit_bit, hst j hj]
      by_cases c : k = j
      · subst c; rw [hk2] at hj; cases hj
      · simp [c])
    have h2 := loc_sym h (s := nand t (bit k)) (by omega) hkm hi (Ne.symm hik) tk ti
    rw [nand_or_bit hk1] at h2
    omega

theorem slow_of_local {f : List Int} {m : Nat} (hm : m ≤ 8) (hl : f.length = bit m) (h : Local f m) (t : Nat) (ht : t < bit m) : ∀ s, s < bit m → slowAt f s t := by
  intro s
  induction s using Nat.strongRecOn with
  | _ s ih =>
  intro hs
  have hb := bit_le m hm
  by_cases hst : sub s t
  · have e1 : s ||| t = t := or_eq_iff.2 hst
    have e2 : s &&& t = s := by
      apply Nat.eq_of_testBit_eq
      intro i
      rw [Nat.testBit_and]
      cases hi : s.testBit i
      · rfl
      · rw [hst i hi]; rfl
    unfold slowAt
    rw [e1, e2]; omega
  · obtain ⟨k, hk1, hk2⟩ := exists_diff hst
    have hkm := lt_m_of_testBit hs hk1
    have hlt := nand_bit_lt (by omega) (by omega) hk1
    have h1 := ih _ hlt (by omega)
    have h2 := marg hm hl h k hkm (nand s (bit k) ||| t) (or_lt_bit (by omega) ht) (by rw [Nat.testBit_or, nand_testBit_bit, hk2]; simp) (nand s (bit k)) (by intro j hj; rw [Nat.testBit_or, hj]; rfl)
    have e1 : nand s (bit k) ||| t ||| bit k = s ||| t := by rw [Nat.or_assoc, Nat.or_comm t, ← Nat.or_assoc, nand_or_bit hk1]
    have e2 : nand s (bit k) &&& t = s &&& t := by
      apply Nat.eq_of_testBit_eq
      intro i
      rw [Nat.testBit_and, Nat.testBit_and, nand_testBit_bit]
      by_cases c : k = i
      · subst c; rw [hk2]; simp
      · simp [c]
    rw [e1, nand_or_bit hk1] at h2
    unfold slowAt at h1 ⊢
    rw [e2] at h1
    omega

theorem local_of_slow {f : List Int} {m : Nat} (hm : m ≤ 8) (hl : f.length = bit m) (h : Slow f) : Local f m := by
  intro s hs i hi k hk h1 h2
  have hbi := bit_lt_bit hi
  have hbk := bit_lt_bit (show k < m by omega)
  have hlt : s ||| bit k < s ||| bit i := by
    have hb := bit_le m hm
    rw [or_bit s k (by omega) (by omega) h2, or_bit s i (by omega) (by omega) h1]
    have := bit_lt_bit hk
    omega
  have := h (s ||| bit i) (by rw [hl]; exact or_lt_bit (by omega) hbi) (s ||| bit k) hlt
  have e1 : s ||| bit i ||| (s ||| bit k) = s ||| bit i ||| bit k := by
    apply Nat.eq_of_testBit_eq
    intro j
    simp only [Nat.testBit_or]
    cases s.testBit j <;> simp
  have e2 : (s ||| bit i) &&& (s ||| bit k) = s := by
    apply Nat.eq_of_testBit_eq
    intro j
    simp only [Nat.testBit_or, Nat.testBit_and, testBit_bit]
    by_cases c : i = j
    · by_cases d : k = j
      · omega
      · simp only [c, d, decide_true, decide_false, Bool.or_true, Bool.or_false, Bool.true_and]
    · simp only [c, decide_false, Bool.or_false]
      cases s.testBit j <;> simp
  unfold slowAt at this
  rw [e1, e2] at this
  exact this

/-- what the check of a function answers -/
def SlwIs (n : Int) (f : List Int) (e : Int) : Prop := (¬ isFun n f → e = 1) ∧ (isFun n f → ¬ Slow f → e = 3) ∧ (isFun n f → Slow f → e = 0)
theorem SlwIs.ex (n : Int) (f : List Int) : ∃ e, SlwIs n f e := by
  by_cases h : isFun n f
  · by_cases g : Slow f
    · exact ⟨0, fun x => absurd h x, fun _ x => absurd g x, fun _ _ => rfl⟩
    · exact ⟨3, fun x => absurd h x, fun _ _ => rfl, fun _ x => absurd x g⟩
  · exact ⟨1, fun _ => rfl, fun x => absurd x h, fun x => absurd x h⟩
theorem SlwIs.zero {n : Int} {f : List Int} (h : SlwIs n f 0) : isFun n f ∧ Slow f := by
  by_cases a : isFun n f
  · by_cases b : Slow f
    · exact ⟨a, b⟩
    · have := h.2.1 a b; omega
  · have := h.1 a; omega
theorem isFun.len {m : Nat} {f : List Int} (h : isFun (m : Int) f) : f.length = bit m := by simpa using h.2.2.1
theorem slow_iff {m : Nat} {f : List Int} (h : isFun (m : Int) f) : Slow f ↔ Local f m := by
  have hm : m ≤ 8 := by have := h.2.1; omega
  constructor
  · exact local_of_slow hm h.len
  · intro g s hs t ht
    have := h.len
    exact slow_of_local hm h.len g t (by omega) s (by omega)

end Go.Proofs.Ytffnpokceomncaa
