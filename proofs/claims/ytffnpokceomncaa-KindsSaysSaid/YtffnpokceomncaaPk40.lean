
/-
  rotaref.Antimatroid says of a family what convex.Check says (ChkIs).
  Hull and Extreme: convex.hull, convex.Hull, convex.Extreme, rotaref.Hull, rotaref.Ends, convex.right: of a family of sets of n elements and a set of n elements.
  convex.right, convex.Hull, convex.Extreme, rotaref.Ends.
-/
import Derived.Test.YtffnpokceomncaaPk39
namespace Go.Proofs.Ytffnpokceomncaa
open Go.RowKit
set_option linter.unusedVariables false

/-- the elements below k have been gone through -/
def downK (l : List Int) (s k : Nat) : Prop := s = 0 ∨ ∃ e, e < k ∧ s.testBit e = true ∧ ((s : Int) - (bit e : Int)) ∈ l
theorem downK_start (l : List Int) (s : Nat) : downK l s 0 ↔ s = 0 := by
  constructor
  · rintro (h | ⟨e, he, _⟩)
    · exact h
    · omega
  · exact .inl
theorem downK_step (l : List Int) (s k : Nat) : downK l s (k + 1) ↔ downK l s k ∨ (s.testBit k = true ∧ ((s : Int) - (bit k : Int)) ∈ l) := by
  constructor
  · rintro (h | ⟨e, he, a, b⟩)
    · exact .inl (.inl h)
    · by_cases c : e = k
      · subst c; exact .inr ⟨a, b⟩
      · exact .inl (.inr ⟨e, by omega, a, b⟩)
  · rintro ((h | ⟨e, he, a, b⟩) | ⟨a, b⟩)
    · exact .inl h
    · exact .inr ⟨e, by omega, a, b⟩
    · exact .inr ⟨k, by omega, a, b⟩
theorem downK_end {l : List Int} {s m : Nat} (hm : m ≤ 8) (hs : s < bit m) : downK l s m ↔ down l s := by
  have hb := bit_le m hm
  have hlt := (lt_pow_iff m s hm (by omega)).1 hs
  constructor
  · rintro (h | ⟨e, he, a, b⟩)
    · exact .inl h
    · have := bit_le_of_mem s e (by omega) (by omega) a
      refine .inr ⟨e, by omega, a, ?_⟩
      rw [show ((s - bit e : Nat) : Int) = (s : Int) - (bit e : Int) by omega]; exact b
  · rintro (h | ⟨e, he, a, b⟩)
    · exact .inl h
    · have := bit_le_of_mem s e (by omega) (by omega) a
      refine .inr ⟨e, hlt e he a, a, ?_⟩
      rw [show ((s - bit e : Nat) : Int) = (s : Int) - (bit e : Int) by omega] at b; exact b

/-- what has been seen of the first k sets: each by itself, and with those ahead of it -/
def seenToC (l : List Int) (k : Nat) : Prop := ∀ j, j < k → ∀ s : Nat, l.getD j 0 = s → down l s ∧ ∀ i, i < j → ∀ t : Nat, l.getD i 0 = t → ((s ||| t : Nat) : Int) ∈ l
theorem seenToC_step {l : List Int} {k s : Nat} (h : seenToC l k) (hk : l.getD k 0 = s) (hd : down l s) (hj : ∀ i, i < k → ∀ t : Nat, l.getD i 0 = t → ((s ||| t : Nat) : Int) ∈ l) : seenToC l (k + 1) := by
  intro j hj' s' hs'
  by_cases e : j = k
  · subst e
    have : s' = s := by rw [hk] at hs'; omega
    subst this; exact ⟨hd, hj⟩
  · exact h j (by omega) s' hs'
theorem seenToC_good {n : Int} {l : List Int} (hf : isFam n l) (h1 : (0 : Int) ∈ l) (h2 : all n ∈ l) (h : seenToC l l.length) : Good n l := by
  refine good_end h1 h2 (fun j hj s hs => ⟨(h j hj s hs).1, joins_end (fun i hi t ht => ?_)⟩)
  by_cases c : i < j
  · exact (h j hj s hs).2 i c t ht
  · by_cases c2 : i = j
    · subst c2
      have : t = s := by rw [hs] at ht; omega
      subst this
      rw [Nat.or_self]
      have : l.getD i 0 ∈ l := by simp [hi]
      rw [ht] at this; exact this
    · rw [Nat.or_comm]; exact (h i hi t ht).2 j (by omega) s hs

end Go.Proofs.Ytffnpokceomncaa

namespace Go.Proofs.Ytffnpokceomncaa
open Go.RowKit
set_option linter.unusedVariables false

/-- what the sets of a list have together that have nothing of s: the first k -/
def orTo (l : List Int) (s : Nat) : Nat → Nat
  | 0 => 0
  | k + 1 => if (l.getD k 0).toNat &&& s = 0 then orTo l s k ||| (l.getD k 0).toNat else orTo l s k
theorem orTo_lt {n : Int} {l : List Int} (h : isFam n l) (s k : Nat) (hk : k ≤ l.length) : orTo l s k < 256 := by
  induction k with
  | zero => show 0 < 256; decide
  | succ k ih =>
    obtain ⟨t, ht, h256, _⟩ := fam_nat h (i := k) (by omega)
    unfold orTo
    split
    · exact or_lt _ _ (ih (by omega)) (by rw [ht]; exact h256)
    · exact ih (by omega)
theorem orTo_step {l : List Int} {s k t : Nat} (ht : l.getD k 0 = t) : orTo l s (k + 1) = if t &&& s = 0 then orTo l s k ||| t else orTo l s k := by
  show (if (l.getD k 0).toNat &&& s = 0 then orTo l s k ||| (l.getD k 0).toNat else orTo l s k) = _
  rw [ht]; rfl
def hullOf (n : Nat) (l : List Int) (s : Nat) : Nat := nand (bit n - 1) (orTo l s l.length)
theorem hullOf_lt (n : Nat) (l : List Int) (s : Nat) (hn : n ≤ 8) : hullOf n l s < 256 := by
  have := bit_le n hn
  exact nand_lt _ _ 8 (by show bit n - 1 < 256; omega)

theorem within_all {m t s : Nat} (hm : m ≤ 8) (hs : s < bit m) (ht : t < bit m) : (s ||| (bit m - 1 - t) = bit m - 1 - t) ↔ t &&& s = 0 := by
  have hb := bit_le m hm
  have : ∀ m : Fin 9, ∀ t : Fin 256, t.val < bit m.val → bit m.val - 1 - t.val = nand (bit m.val - 1) t.val := by decide +kernel
  rw [this ⟨m, by omega⟩ ⟨t, by omega⟩ ht, or_eq_iff, and_eq_zero_iff]
  have hlt := (lt_pow_iff m s hm (by omega)).1 hs
  constructor
  · intro h i hi
    cases hsi : s.testBit i
    · rfl
    · have := h i hsi
      rw [nand_testBit, hi] at this
      simp at this
  · intro h i hi
    rw [nand_testBit, testBit_all]
    have h8 := lt_of_testBit (show s < 256 by omega) hi
    have h1 := hlt i h8 hi
    cases hti : t.testBit i
    · simp [h1]
    · rw [h i hti] at hi; cases hi
theorem all_sub {m t : Nat} (hm : m ≤ 8) (ht : t < bit m) : bit m - 1 - t = nand (bit m - 1) t := by
  have hb := bit_le m hm
  have : ∀ m : Fin 9, ∀ t : Fin 256, t.val < bit m.val → bit m.val - 1 - t.val = nand (bit m.val - 1) t.val := by decide +kernel
  exact this ⟨m, by omega⟩ ⟨t, by omega⟩ ht
theorem nand_or (a b c : Nat) : nand a (b ||| c) = nand a b &&& nand a c := by
  apply Nat.eq_of_testBit_eq
  intro i
  rw [nand_testBit, Nat.testBit_or, Nat.testBit_and, nand_testBit, nand_testBit]
  cases a.testBit i <;> cases b.testBit i <;> cases c.testBit i <;> rfl

end Go.Proofs.Ytffnpokceomncaa

namespace Go.Proofs.Ytffnpokceomncaa
open Go.RowKit
set_option linter.unusedVariables false

/-- what is wrong with a family and a set -/
def RightIs (n : Int) (l : List Int) (s e : Int) : Prop := ∃ c, ChkIs n l c ∧ e = if c = 0 then errno (decide (isSet n s)) 1 else c
theorem RightIs.ok {n : Int} {l : List Int} {s : Int} (h : RightIs n l s 0) : isFam n l ∧ Good n l ∧ isSet n s := by
  obtain ⟨c, hc, e⟩ := h
  split at e
  · rename_i h0
    subst h0
    have hf : isFam n l := by
      by_cases hf : isFam n l
      · exact hf
      · have := hc.1 hf; omega
    have hg : Good n l := by
      by_cases hg : Good n l
      · exact hg
      · have := hc.2.1 hf hg; omega
    refine ⟨hf, hg, ?_⟩
    by_cases hs : isSet n s
    · exact hs
    · simp [errno, hs] at e
  · rename_i h0; exact absurd e.symm h0

/-- a set of n elements, as a number -/
theorem isSet_nat {n s : Int} (h : isSet n s) : ∃ m t : Nat, n = m ∧ s = t ∧ m ≤ 8 ∧ t < bit m ∧ t < 256 := by
  obtain ⟨h0, h8, h1, h2⟩ := h
  have hb := bit_le n.toNat (by omega)
  refine ⟨n.toNat, s.toNat, by omega, by omega, by omega, ?_, ?_⟩
  · unfold all at h2; unfold bit; unfold bit at hb; omega
  · unfold all at h2; unfold bit at hb; omega

/-- the extreme elements of a set -/
def ExtIs (m : Nat) (l : List Int) (s X : Nat) : Prop := X < 256 ∧ ∀ i, i < 8 → (X.testBit i = true ↔ (s.testBit i = true ∧ (hullOf m l (s - bit i)).testBit i = false))
theorem ExtIs.ex (m : Nat) (l : List Int) (s : Nat) : ∃ X, ExtIs m l s X := exists_set _
theorem ExtIs.uniq {m : Nat} {l : List Int} {s X Y : Nat} (h : ExtIs m l s X) (k : ExtIs m l s Y) : X = Y := by
  refine eq_of_bits h.1 k.1 (fun i hi => ?_)
  rw [Bool.eq_iff_iff, h.2 i hi, k.2 i hi]
/-- .. of those that t no longer has -/
def extTo (m : Nat) (l : List Int) (s t x : Nat) : Prop := x < 256 ∧ ∀ i, i < 8 → (x.testBit i = true ↔ (s.testBit i = true ∧ t.testBit i = false ∧ (hullOf m l (s - bit i)).testBit i = false))
theorem extTo_start (m : Nat) (l : List Int) (s : Nat) : extTo m l s s 0 := ⟨by decide, fun i _ => by
  rw [Nat.zero_testBit]
  constructor
  · intro h; cases h
  · rintro ⟨h1, h2, _⟩; rw [h1] at h2; cases h2⟩
theorem extTo_end {m : Nat} {l : List Int} {s x : Nat} (h : extTo m l s 0 x) : ExtIs m l s x := ⟨h.1, fun i hi => by rw [h.2 i hi]; simp⟩
theorem extTo_hit {m : Nat} {l : List Int} {s t x : Nat} (hs : s < 256) (ht : t < 256) (h0 : t ≠ 0) (hsub : subBits t s) (h : extTo m l s t x) (hh : hullOf m l (nand s (low t)) &&& low t = 0) : extTo m l s (drop1 t) (x ||| low t) := by
  obtain ⟨e, he, h1, h2, h3, _⟩ := low_facts t ht h0
  have hse := hsub e he h2
  rw [and_low_zero h1, h1, nand_bit s e hs he hse] at hh
  refine ⟨or_lt _ _ h.1 (low_lt t ht), fun i hi => ?_⟩
  rw [Nat.testBit_or, testBit_low h1, h3 i hi]
  by_cases c : e = i
  · subst c; simp [hse, hh]
  · have c' : i ≠ e := fun h => c h.symm
    simp only [c, c', decide_false, Bool.or_false, decide_true, Bool.and_true, ne_eq, not_false_eq_true]
    exact h.2 i hi
theorem extTo_miss {m : Nat} {l : List Int} {s t x : Nat} (hs : s < 256) (ht : t < 256) (h0 : t ≠ 0) (hsub : subBits t s) (h : extTo m l s t x) (hh : ¬ hullOf m l (nand s (low t)) &&& low t = 0) : extTo m l s (drop1 t) x := by
  obtain ⟨e, he, h1, h2, h3, _⟩ := low_facts t ht h0
  have hse := hsub e he h2
  rw [and_low_zero h1, h1, nand_bit s e hs he hse] at hh
  refine ⟨h.1, fun i hi => ?_⟩
  rw [h3 i hi]
  by_cases c : i = e
  · subst c
    have := h.2 i hi
    rw [this]; simp [h2, hh]
  · simp only [c, decide_true, Bool.and_true, ne_eq, not_false_eq_true]
    exact h.2 i hi

/-- .. of those below k -/
def extK (m : Nat) (l : List Int) (s k x : Nat) : Prop := x < 256 ∧ ∀ i, i < 8 → (x.testBit i = true ↔ (i < k ∧ s.testBit i = true ∧ (hullOf m l (s - bit i)).testBit i = false))
theorem extK_hit {m : Nat} {l : List Int} {s k x : Nat} (hk : k < 8) (h : extK m l s k x) (h1 : s.testBit k = true) (h2 : (hullOf m l (s - bit k)).testBit k = false) : extK m l s (k + 1) (x ||| bit k) :=
  ⟨or_lt _ _ h.1 (bit_lt256 k hk), fun i hi => by
    rw [Nat.testBit_or, testBit_bit]
    by_cases c : k = i
    · subst c; simp [h1, h2]
    · simp only [c, decide_false, Bool.or_false]
      rw [h.2 i hi]
      constructor
      · rintro ⟨a, b⟩; exact ⟨by omega, b⟩
      · rintro ⟨a, b⟩; exact ⟨by omega, b⟩⟩
theorem extK_miss {m : Nat} {l : List Int} {s k x : Nat} (h : extK m l s k x) (h1 : ¬ (s.testBit k = true ∧ (hullOf m l (s - bit k)).testBit k = false)) : extK m l s (k + 1) x :=
  ⟨h.1, fun i hi => by
    rw [h.2 i hi]
    constructor
    · rintro ⟨a, b⟩; exact ⟨by omega, b⟩
    · rintro ⟨a, b⟩
      by_cases c : i = k
      · subst c; exact absurd b h1
      · exact ⟨by omega, b⟩⟩
theorem extK_end {m : Nat} {l : List Int} {s x : Nat} (hm : m ≤ 8) (hs : s < bit m) (h : extK m l s m x) : ExtIs m l s x := by
  have hb := bit_le m hm
  have hlt := (lt_pow_iff m s hm (by omega)).1 hs
  refine ⟨h.1, fun i hi => ?_⟩
  rw [h.2 i hi]
  constructor
  · rintro ⟨_, b⟩; exact b
  · rintro b; exact ⟨hlt i hi b.1, b⟩

end Go.Proofs.Ytffnpokceomncaa
