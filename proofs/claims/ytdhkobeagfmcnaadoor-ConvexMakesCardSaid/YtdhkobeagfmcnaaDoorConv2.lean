
/-
  rotaref.Antimatroid says of a family what convex.Check says (ChkIs).
-/
import Derived.Test.YtdhkobeagfmcnaaDoorConv
namespace Go.Proofs.YtdhkobeagfmcnaaDoor
open Go.RowKit
set_option linter.unusedVariables false

/-- the elements below k have been gone through -/
def downK (l : List Int) (s k : Nat) : Prop := s = 0 ∨ ∃ e, e < k ∧ s.testBit e = true ∧ ((s : Int) - (bit e : Int)) ∈ l
theorem downK_start (l : List Int) (s : Nat) : downK l s 0 ↔ s = 0 := by
  constructor
  · rintro (h | ⟨e, he, _⟩)
    · exact h
    · omega
  · exact .inl
theorem downK_step (l : List Int) (s k : Nat) : downK l s (k + 1) ↔ downK l s k ∨ (s.testBit k = true ∧ ((s : Int) - (bit k : Int)) ∈ l) := by
  constructor
  · rintro (h | ⟨e, he, a, b⟩)
    · exact .inl (.inl h)
    · by_cases c : e = k
      · subst c; exact .inr ⟨a, b⟩
      · exact .inl (.inr ⟨e, by omega, a, b⟩)
  · rintro ((h | ⟨e, he, a, b⟩) | ⟨a, b⟩)
    · exact .inl h
    · exact .inr ⟨e, by omega, a, b⟩
    · exact .inr ⟨k, by omega, a, b⟩
theorem downK_end {l : List Int} {s m : Nat} (hm : m ≤ 8) (hs : s < bit m) : downK l s m ↔ down l s := by
  have hb := bit_le m hm
  have hlt := (lt_pow_iff m s hm (by omega)).1 hs
  constructor
  · rintro (h | ⟨e, he, a, b⟩)
    · exact .inl h
    · have := bit_le_of_mem s e (by omega) (by omega) a
      refine .inr ⟨e, by omega, a, ?_⟩
      rw [show ((s - bit e : Nat) : Int) = (s : Int) - (bit e : Int) by omega]; exact b
  · rintro (h | ⟨e, he, a, b⟩)
    · exact .inl h
    · have := bit_le_of_mem s e (by omega) (by omega) a
      refine .inr ⟨e, hlt e he a, a, ?_⟩
      rw [show ((s - bit e : Nat) : Int) = (s : Int) - (bit e : Int) by omega] at b; exact b

/-- what has been seen of the first k sets: each by itself, and with those ahead of it -/
def seenTo (l : List Int) (k : Nat) : Prop := ∀ j, j < k → ∀ s : Nat, l.getD j 0 = s → down l s ∧ ∀ i, i < j → ∀ t : Nat, l.getD i 0 = t → ((s ||| t : Nat) : Int) ∈ l
theorem seenTo_step {l : List Int} {k s : Nat} (h : seenTo l k) (hk : l.getD k 0 = s) (hd : down l s) (hj : ∀ i, i < k → ∀ t : Nat, l.getD i 0 = t → ((s ||| t : Nat) : Int) ∈ l) : seenTo l (k + 1) := by
  intro j hj' s' hs'
  by_cases e : j = k
  · subst e
    have : s' = s := by rw [hk] at hs'; omega
    subst this; exact ⟨hd, hj⟩
  · exact h j (by omega) s' hs'
theorem seenTo_good {n : Int} {l : List Int} (hf : isFam n l) (h1 : (0 : Int) ∈ l) (h2 : all n ∈ l) (h : seenTo l l.length) : Good n l := by
  refine good_end h1 h2 (fun j hj s hs => ⟨(h j hj s hs).1, joins_end (fun i hi t ht => ?_)⟩)
  by_cases c : i < j
  · exact (h j hj s hs).2 i c t ht
  · by_cases c2 : i = j
    · subst c2
      have : t = s := by rw [hs] at ht; omega
      subst this
      rw [Nat.or_self]
      have : l.getD i 0 ∈ l := by simp [hi]
      rw [ht] at this; exact this
    · rw [Nat.or_comm]; exact (h i hi t ht).2 j (by omega) s hs

end Go.Proofs.YtdhkobeagfmcnaaDoor
