
/-
  convex.Check and rotaref.Antimatroid: both say the same of a family (ChkIs): 1, it is no family; 3, it is no antimatroid; 0.
  rotaref.Antimatroid says of a family what convex.Check says (ChkIs).
-/
import Derived.Test.YtenbeiafdiifgaaPk07
import Derived.Test.YtenbeiafdiifgaaPk02
namespace Go.Proofs.Ytenbeiafdiifgaa
open Go.RowKit
set_option linter.unusedVariables false

/-- a number of a family is a set -/
theorem fam_nat {n : Int} {l : List Int} (h : isFam n l) {i : Nat} (hi : i < l.length) : ∃ s : Nat, l.getD i 0 = s ∧ s < 256 ∧ (s : Int) ≤ all n ∧ (s : Int) ∈ l := by
  obtain ⟨h0, h1, _⟩ := h.2.2 i hi
  have := (all_le n h.2.1).2
  refine ⟨(l.getD i 0).toNat, by omega, by omega, by omega, ?_⟩
  rw [Int.toNat_of_nonneg h0]
  simp [hi]
theorem mem_idx {l : List Int} {x : Int} (h : x ∈ l) : ∃ i, i < l.length ∧ l.getD i 0 = x := by
  obtain ⟨i, hi, e⟩ := List.getElem_of_mem h
  exact ⟨i, hi, by simp [hi, e]⟩
theorem fam_mem {n : Int} {l : List Int} (h : isFam n l) {x : Int} (hx : x ∈ l) : 0 ≤ x ∧ x ≤ all n := by
  obtain ⟨i, hi, e⟩ := mem_idx hx
  have := h.2.2 i hi
  rw [e] at this
  exact ⟨this.1, this.2.1⟩

def down (l : List Int) (s : Nat) : Prop := s = 0 ∨ ∃ e, e < 8 ∧ s.testBit e = true ∧ ((s - bit e : Nat) : Int) ∈ l
def joinsAt (l : List Int) (s : Nat) : Prop := ∀ t : Nat, (t : Int) ∈ l → ((s ||| t : Nat) : Int) ∈ l
def Good (n : Int) (l : List Int) : Prop := (0 : Int) ∈ l ∧ all n ∈ l ∧ ∀ s : Nat, (s : Int) ∈ l → down l s ∧ joinsAt l s
/-- what the check of a family answers -/
def ChkIs (n : Int) (l : List Int) (e : Int) : Prop := (¬ isFam n l → e = 1) ∧ (isFam n l → ¬ Good n l → e = 3) ∧ (isFam n l → Good n l → e = 0)
theorem ChkIs.ex (n : Int) (l : List Int) : ∃ e, ChkIs n l e := by
  by_cases h : isFam n l
  · by_cases g : Good n l
    · exact ⟨0, fun x => absurd h x, fun _ x => absurd g x, fun _ _ => rfl⟩
    · exact ⟨3, fun x => absurd h x, fun _ _ => rfl, fun _ x => absurd x g⟩
  · exact ⟨1, fun _ => rfl, fun x => absurd x h, fun x => absurd x h⟩

/-- first and last of a family -/
theorem fam_first {n : Int} {l : List Int} (h : isFam n l) : (0 : Int) ∈ l ↔ 0 < l.length ∧ l.getD 0 0 = 0 := by
  constructor
  · intro hm
    obtain ⟨i, hi, e⟩ := mem_idx hm
    refine ⟨by omega, ?_⟩
    by_cases c : i = 0
    · rw [c] at e; exact e
    · have := h.2.2.rising 0 i (by omega) hi
      have := (h.2.2 0 (by omega)).1
      omega
  · rintro ⟨h1, h2⟩
    have : l.getD 0 0 ∈ l := by simp [h1]
    rw [h2] at this; exact this
theorem fam_last {n : Int} {l : List Int} (h : isFam n l) : all n ∈ l ↔ 0 < l.length ∧ l.getD (l.length - 1) 0 = all n := by
  constructor
  · intro hm
    obtain ⟨i, hi, e⟩ := mem_idx hm
    refine ⟨by omega, ?_⟩
    by_cases c : i = l.length - 1
    · rw [c] at e; exact e
    · have := h.2.2.rising i (l.length - 1) (by omega) (by omega)
      have := (h.2.2 (l.length - 1) (by omega)).2.1
      omega
  · rintro ⟨h1, h2⟩
    have : l.getD (l.length - 1) 0 ∈ l := by simp [show l.length - 1 < l.length by omega]
    rw [h2] at this; exact this

/-- the bits that have been gone through: those of s that t no longer has -/
def downTo (l : List Int) (s t : Nat) : Prop := s = 0 ∨ ∃ e, e < 8 ∧ s.testBit e = true ∧ t.testBit e = false ∧ ((s - bit e : Nat) : Int) ∈ l
def subBits (t s : Nat) : Prop := ∀ i, i < 8 → t.testBit i = true → s.testBit i = true
theorem subBits_refl (s : Nat) : subBits s s := fun _ _ h => h
theorem subBits_drop {t s : Nat} (ht : t < 256) (h0 : t ≠ 0) (h : subBits t s) : subBits (drop1 t) s := by
  obtain ⟨e, he, _, h2, h3, _⟩ := low_facts t ht h0
  intro i hi hb
  rw [h3 i hi] at hb
  exact h i hi (by simp at hb; exact hb.1)
theorem downTo_start (l : List Int) (s : Nat) : downTo l s s ↔ s = 0 := by
  constructor
  · rintro (h | ⟨e, _, h1, h2, _⟩)
    · exact h
    · rw [h1] at h2; cases h2
  · exact .inl
theorem downTo_end (l : List Int) (s : Nat) : downTo l s 0 ↔ down l s := by
  unfold downTo down
  simp
/-- one step of the walk over the bits of s -/
theorem downTo_step {l : List Int} {s t : Nat} (hs : s < 256) (ht : t < 256) (h0 : t ≠ 0) (hsub : subBits t s) : downTo l s (drop1 t) ↔ downTo l s t ∨ ((nand s (low t) : Nat) : Int) ∈ l := by
  obtain ⟨e, he, h1, h2, h3, h4, _⟩ := low_facts t ht h0
  have hse := hsub e he h2
  rw [h1, nand_bit s e hs he hse]
  unfold downTo
  constructor
  · rintro (h | ⟨i, hi, a, b, c⟩)
    · exact .inl (.inl h)
    · rw [h3 i hi] at b
      by_cases hie : i = e
      · subst hie; exact .inr c
      · simp [hie] at b
        exact .inl (.inr ⟨i, hi, a, b, c⟩)
  · rintro ((h | ⟨i, hi, a, b, c⟩) | h)
    · exact .inl h
    · exact .inr ⟨i, hi, a, by rw [h3 i hi, b]; rfl, c⟩
    · exact .inr ⟨e, he, hse, by rw [h3 e he]; simp, h⟩

theorem joins_step {l : List Int} {s : Nat} {k : Nat} {t : Nat} (h : ∀ j, j < k → ∀ t : Nat, l.getD j 0 = t → ((s ||| t : Nat) : Int) ∈ l) (hk : l.getD k 0 = t) (hm : ((s ||| t : Nat) : Int) ∈ l) : ∀ j, j < k + 1 → ∀ t : Nat, l.getD j 0 = t → ((s ||| t : Nat) : Int) ∈ l := by
  intro j hj t' ht'
  by_cases e : j = k
  · subst e; rw [hk] at ht'; have : t' = t := by omega
    rw [this]; exact hm
  · exact h j (by omega) t' ht'
theorem joins_end {l : List Int} {s : Nat} (h : ∀ j, j < l.length → ∀ t : Nat, l.getD j 0 = t → ((s ||| t : Nat) : Int) ∈ l) : joinsAt l s := by
  intro t ht
  obtain ⟨j, hj, e⟩ := mem_idx ht
  exact h j hj t e
theorem good_end {n : Int} {l : List Int} (h1 : (0 : Int) ∈ l) (h2 : all n ∈ l) (h : ∀ j, j < l.length → ∀ s : Nat, l.getD j 0 = s → down l s ∧ joinsAt l s) : Good n l := by
  refine ⟨h1, h2, fun s hs => ?_⟩
  obtain ⟨j, hj, e⟩ := mem_idx hs
  exact h j hj s e
theorem good_step {l : List Int} {k s : Nat} (h : ∀ j, j < k → ∀ s : Nat, l.getD j 0 = s → down l s ∧ joinsAt l s) (hk : l.getD k 0 = s) (hs : down l s ∧ joinsAt l s) : ∀ j, j < k + 1 → ∀ s : Nat, l.getD j 0 = s → down l s ∧ joinsAt l s := by
  intro j hj t ht
  by_cases e : j = k
  · subst e; rw [hk] at ht; have : t = s := by omega
    rw [this]; exact hs
  · exact h j (by omega) t ht

end Go.Proofs.Ytenbeiafdiifgaa

namespace Go.Proofs.Ytenbeiafdiifgaa
open Go.RowKit
set_option linter.unusedVariables false

/-- the elements below k have been gone through -/
def downK (l : List Int) (s k : Nat) : Prop := s = 0 ∨ ∃ e, e < k ∧ s.testBit e = true ∧ ((s : Int) - (bit e : Int)) ∈ l
theorem downK_start (l : List Int) (s : Nat) : downK l s 0 ↔ s = 0 := by
  constructor
  · rintro (h | ⟨e, he, _⟩)
    · exact h
    · omega
  · exact .inl
theorem downK_step (l : List Int) (s k : Nat) : downK l s (k + 1) ↔ downK l s k ∨ (s.testBit k = true ∧ ((s : Int) - (bit k : Int)) ∈ l) := by
  constructor
  · rintro (h | ⟨e, he, a, b⟩)
    · exact .inl (.inl h)
    · by_cases c : e = k
      · subst c; exact .inr ⟨a, b⟩
      · exact .inl (.inr ⟨e, by omega, a, b⟩)
  · rintro ((h | ⟨e, he, a, b⟩) | ⟨a, b⟩)
    · exact .inl h
    · exact .inr ⟨e, by omega, a, b⟩
    · exact .inr ⟨k, by omega, a, b⟩
theorem downK_end {l : List Int} {s m : Nat} (hm : m ≤ 8) (hs : s < bit m) : downK l s m ↔ down l s := by
  have hb := bit_le m hm
  have hlt := (lt_pow_iff m s hm (by omega)).1 hs
  constructor
  · rintro (h | ⟨e, he, a, b⟩)
    · exact .inl h
    · have := bit_le_of_mem s e (by omega) (by omega) a
      refine .inr ⟨e, by omega, a, ?_⟩
      rw [show ((s - bit e : Nat) : Int) = (s : Int) - (bit e : Int) by omega]; exact b
  · rintro (h | ⟨e, he, a, b⟩)
    · exact .inl h
    · have := bit_le_of_mem s e (by omega) (by omega) a
      refine .inr ⟨e, hlt e he a, a, ?_⟩
      rw [show ((s - bit e : Nat) : Int) = (s : Int) - (bit e : Int) by omega] at b; exact b

/-- what has been seen of the first k sets: each by itself, and with those ahead of it -/
def seenToC (l : List Int) (k : Nat) : Prop := ∀ j, j < k → ∀ s : Nat, l.getD j 0 = s → down l s ∧ ∀ i, i < j → ∀ t : Nat, l.getD i 0 = t → ((s ||| t : Nat) : Int) ∈ l
theorem seenToC_step {l : List Int} {k s : Nat} (h : seenToC l k) (hk : l.getD k 0 = s) (hd : down l s) (hj : ∀ i, i < k → ∀ t : Nat, l.getD i 0 = t → ((s ||| t : Nat) : Int) ∈ l) : seenToC l (k + 1) := by
  intro j hj' s' hs'
  by_cases e : j = k
  · subst e
    have : s' = s := by rw [hk] at hs'; omega
    subst this; exact ⟨hd, hj⟩
  · exact h j (by omega) s' hs'
theorem seenToC_good {n : Int} {l : List Int} (hf : isFam n l) (h1 : (0 : Int) ∈ l) (h2 : all n ∈ l) (h : seenToC l l.length) : Good n l := by
  refine good_end h1 h2 (fun j hj s hs => ⟨(h j hj s hs).1, joins_end (fun i hi t ht => ?_)⟩)
  by_cases c : i < j
  · exact (h j hj s hs).2 i c t ht
  · by_cases c2 : i = j
    · subst c2
      have : t = s := by rw [hs] at ht; omega
      subst this
      rw [Nat.or_self]
      have : l.getD i 0 ∈ l := by simp [hi]
      rw [ht] at this; exact this
    · rw [Nat.or_comm]; exact (h i hi t ht).2 j (by omega) s hs

end Go.Proofs.Ytenbeiafdiifgaa
