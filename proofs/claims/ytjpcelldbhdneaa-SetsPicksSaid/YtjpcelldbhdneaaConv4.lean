
/-
  convex.right, convex.Hull, convex.Extreme, rotaref.Ends.
-/
import Derived.Test.YtjpcelldbhdneaaConv3
namespace Go.Proofs.Ytjpcelldbhdneaa
open Go.RowKit
set_option linter.unusedVariables false

/-- what is wrong with a family and a set -/
def RightIs (n : Int) (l : List Int) (s e : Int) : Prop := ∃ c, ChkIs n l c ∧ e = if c = 0 then errno (decide (isSet n s)) 1 else c
theorem RightIs.ok {n : Int} {l : List Int} {s : Int} (h : RightIs n l s 0) : isFam n l ∧ Good n l ∧ isSet n s := by
  obtain ⟨c, hc, e⟩ := h
  split at e
  · rename_i h0
    subst h0
    have hf : isFam n l := by
      by_cases hf : isFam n l
      · exact hf
      · have := hc.1 hf; omega
    have hg : Good n l := by
      by_cases hg : Good n l
      · exact hg
      · have := hc.2.1 hf hg; omega
    refine ⟨hf, hg, ?_⟩
    by_cases hs : isSet n s
    · exact hs
    · simp [errno, hs] at e
  · rename_i h0; exact absurd e.symm h0

/-- a set of n elements, as a number -/
theorem isSet_nat {n s : Int} (h : isSet n s) : ∃ m t : Nat, n = m ∧ s = t ∧ m ≤ 8 ∧ t < bit m ∧ t < 256 := by
  obtain ⟨h0, h8, h1, h2⟩ := h
  have hb := bit_le n.toNat (by omega)
  refine ⟨n.toNat, s.toNat, by omega, by omega, by omega, ?_, ?_⟩
  · unfold all at h2; unfold bit; unfold bit at hb; omega
  · unfold all at h2; unfold bit at hb; omega

/-- the extreme elements of a set -/
def ExtIs (m : Nat) (l : List Int) (s X : Nat) : Prop := X < 256 ∧ ∀ i, i < 8 → (X.testBit i = true ↔ (s.testBit i = true ∧ (hullOf m l (s - bit i)).testBit i = false))
theorem ExtIs.ex (m : Nat) (l : List Int) (s : Nat) : ∃ X, ExtIs m l s X := exists_set _
theorem ExtIs.uniq {m : Nat} {l : List Int} {s X Y : Nat} (h : ExtIs m l s X) (k : ExtIs m l s Y) : X = Y := by
  refine eq_of_bits h.1 k.1 (fun i hi => ?_)
  rw [Bool.eq_iff_iff, h.2 i hi, k.2 i hi]
/-- .. of those that t no longer has -/
def extTo (m : Nat) (l : List Int) (s t x : Nat) : Prop := x < 256 ∧ ∀ i, i < 8 → (x.testBit i = true ↔ (s.testBit i = true ∧ t.testBit i = false ∧ (hullOf m l (s - bit i)).testBit i = false))
theorem extTo_start (m : Nat) (l : List Int) (s : Nat) : extTo m l s s 0 := ⟨by decide, fun i _ => by
  rw [Nat.zero_testBit]
  constructor
  · intro h; cases h
  · rintro ⟨h1, h2, _⟩; rw [h1] at h2; cases h2⟩
theorem extTo_end {m : Nat} {l : List Int} {s x : Nat} (h : extTo m l s 0 x) : ExtIs m l s x := ⟨h.1, fun i hi => by rw [h.2 i hi]; simp⟩
theorem extTo_hit {m : Nat} {l : List Int} {s t x : Nat} (hs : s < 256) (ht : t < 256) (h0 : t ≠ 0) (hsub : subBits t s) (h : extTo m l s t x) (hh : hullOf m l (nand s (low t)) &&& low t = 0) : extTo m l s (drop1 t) (x ||| low t) := by
  obtain ⟨e, he, h1, h2, h3, _⟩ := low_facts t ht h0
  have hse := hsub e he h2
  rw [and_low_zero h1, h1, nand_bit s e hs he hse] at hh
  refine ⟨or_lt _ _ h.1 (low_lt t ht), fun i hi => ?_⟩
  rw [Nat.testBit_or, testBit_low h1, h3 i hi]
  by_cases c : e = i
  · subst c; simp [hse, hh]
  · have c' : i ≠ e := fun h => c h.symm
    simp only [c, c', decide_false, Bool.or_false, decide_true, Bool.and_true, ne_eq, not_false_eq_true]
    exact h.2 i hi
theorem extTo_miss {m : Nat} {l : List Int} {s t x : Nat} (hs : s < 256) (ht : t < 256) (h0 : t ≠ 0) (hsub : subBits t s) (h : extTo m l s t x) (hh : ¬ hullOf m l (nand s (low t)) &&& low t = 0) : extTo m l s (drop1 t) x := by
  obtain ⟨e, he, h1, h2, h3, _⟩ := low_facts t ht h0
  have hse := hsub e he h2
  rw [and_low_zero h1, h1, nand_bit s e hs he hse] at hh
  refine ⟨h.1, fun i hi => ?_⟩
  rw [h3 i hi]
  by_cases c : i = e
  · subst c
    have := h.2 i hi
    rw [this]; simp [h2, hh]
  · simp only [c, decide_true, Bool.and_true, ne_eq, not_false_eq_true]
    exact h.2 i hi

/-- .. of those below k -/
def extK (m : Nat) (l : List Int) (s k x : Nat) : Prop := x < 256 ∧ ∀ i, i < 8 → (x.testBit i = true ↔ (i < k ∧ s.testBit i = true ∧ (hullOf m l (s - bit i)).testBit i = false))
theorem extK_hit {m : Nat} {l : List Int} {s k x : Nat} (hk : k < 8) (h : extK m l s k x) (h1 : s.testBit k = true) (h2 : (hullOf m l (s - bit k)).testBit k = false) : extK m l s (k + 1) (x ||| bit k) :=
  ⟨or_lt _ _ h.1 (bit_lt256 k hk), fun i hi => by
    rw [Nat.testBit_or, testBit_bit]
    by_cases c : k = i
    · subst c; simp [h1, h2]
    · simp only [c, decide_false, Bool.or_false]
      rw [h.2 i hi]
      constructor
      · rintro ⟨a, b⟩; exact ⟨by omega, b⟩
      · rintro ⟨a, b⟩; exact ⟨by omega, b⟩⟩
theorem extK_miss {m : Nat} {l : List Int} {s k x : Nat} (h : extK m l s k x) (h1 : ¬ (s.testBit k = true ∧ (hullOf m l (s - bit k)).testBit k = false)) : extK m l s (k + 1) x :=
  ⟨h.1, fun i hi => by
    rw [h.2 i hi]
    constructor
    · rintro ⟨a, b⟩; exact ⟨by omega, b⟩
    · rintro ⟨a, b⟩
      by_cases c : i = k
      · subst c; exact absurd b h1
      · exact ⟨by omega, b⟩⟩
theorem extK_end {m : Nat} {l : List Int} {s x : Nat} (hm : m ≤ 8) (hs : s < bit m) (h : extK m l s m x) : ExtIs m l s x := by
  have hb := bit_le m hm
  have hlt := (lt_pow_iff m s hm (by omega)).1 hs
  refine ⟨h.1, fun i hi => ?_⟩
  rw [h.2 i hi]
  constructor
  · rintro ⟨_, b⟩; exact b
  · rintro b; exact ⟨hlt i hi b.1, b⟩

end Go.Proofs.Ytjpcelldbhdneaa
