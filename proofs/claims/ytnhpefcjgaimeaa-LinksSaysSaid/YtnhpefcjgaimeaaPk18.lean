
/-
  axioms.Check.
  hall.Check, rotaref.Lists, rotaref.Several.
-/
import Derived.Test.YtnhpefcjgaimeaaPk17
import Derived.Deep.CutRange
import Derived.Deep.CutBlock
import Derived.IntWalk
namespace Go.Proofs.Ytnhpefcjgaimeaa
open Go.RowKit
set_option linter.unusedVariables false

def toN (l : List Int) : List Nat := l.map Int.toNat
theorem toN_len (l : List Int) : (toN l).length = l.length := by simp [toN]
theorem toN_getD (l : List Int) (i : Nat) : (toN l).getD i 0 = (l.getD i 0).toNat := by
  unfold toN
  by_cases h : i < l.length
  · simp [h]
  · simp [h]
theorem ints_toN {l : List Int} (h : ∀ i, i < l.length → 0 ≤ l.getD i 0) : ints (toN l) = l := by
  apply List.ext_getElem
  · simp [ints, toN]
  · intro i h1 h2
    have := h i h2
    simp [h2] at this
    simp [ints, toN]
    omega
theorem fam_ints {n : Int} {l : List Int} (h : isFam n l) : ints (toN l) = l := ints_toN (fun i hi => (h.2.2 i hi).1)
theorem fam_lt {n : Int} {l : List Int} (h : isFam n l) : ∀ b, b ∈ toN l → b < bit n.toNat := by
  intro b hb
  obtain ⟨i, hi, e⟩ := List.getElem_of_mem hb
  have hi' : i < l.length := by rw [toN_len] at hi; exact hi
  have h1 := h.2.2 i hi'
  have h2 : b = (l.getD i 0).toNat := by rw [← toN_getD, ← e]; simp [hi]
  have h3 := bit_le n.toNat (by have := h.2.1; omega)
  have h4 : all n = ((bit n.toNat - 1 : Nat) : Int) := rfl
  rw [h4] at h1
  omega
/-- a family of sets of one size, not none -/
def okM (n : Int) (l : List Int) : Prop := isFam n l ∧ l ≠ [] ∧ ∀ i, i < (toN l).length → sz ((toN l).getD i 0) = sz ((toN l).getD 0 0)
/-- what the check of a matroid answers -/
def MatIs (n : Int) (l : List Int) (e : Int) : Prop := (¬ okM n l → e = 1) ∧ (okM n l → ¬ Exch (toN l) → e = 3) ∧ (okM n l → Exch (toN l) → e = 0)
theorem MatIs.ex (n : Int) (l : List Int) : ∃ e, MatIs n l e := by
  by_cases h : okM n l
  · by_cases g : Exch (toN l)
    · exact ⟨0, fun x => absurd h x, fun _ x => absurd g x, fun _ _ => rfl⟩
    · exact ⟨3, fun x => absurd h x, fun _ _ => rfl, fun _ x => absurd x g⟩
  · exact ⟨1, fun _ => rfl, fun x => absurd x h, fun x => absurd x h⟩
theorem exch_getD {L : List Nat} : Exch L ↔ ∀ i, i < L.length → ∀ j, j < L.length → exP L (L.getD i 0) (L.getD j 0) := by
  constructor
  · intro h i hi j hj
    have h1 : L.getD i 0 ∈ L := by simp [hi]
    have h2 : L.getD j 0 ∈ L := by simp [hj]
    exact h _ h1 _ h2
  · intro h A hA B hB
    obtain ⟨i, hi, e1⟩ := List.getElem_of_mem hA
    obtain ⟨j, hj, e2⟩ := List.getElem_of_mem hB
    have := h i hi j hj
    have e3 : L.getD i 0 = A := by simp [hi, e1]
    have e4 : L.getD j 0 = B := by simp [hj, e2]
    rw [e3, e4] at this
    exact this
theorem okM.fam8 {n : Int} {l : List Int} (h : okM n l) : Fam8 (toN l) (sz ((toN l).getD 0 0)) where
  lt := fun b hb => by
    have := fam_lt h.1 b hb
    have h3 := bit_le n.toNat (by have := h.1.2.1; omega)
    omega
  eq := fun b hb => by
    obtain ⟨i, hi, e⟩ := List.getElem_of_mem hb
    have := h.2.2 i hi
    have e3 : (toN l).getD i 0 = b := by simp [hi, e]
    rw [e3] at this
    exact this

end Go.Proofs.Ytnhpefcjgaimeaa

namespace Go.Proofs.Ytnhpefcjgaimeaa
open Go.RowKit
set_option linter.unusedVariables false

/-- a list of sets of n elements -/
def okL (n : Int) (l : List Int) : Prop := 0 ≤ n ∧ n ≤ 8 ∧ ∀ i, i < l.length → isSet n (l.getD i 0)
/-- what the check of a list of sets answers -/
def LisIs (n : Int) (l : List Int) (e : Int) : Prop := (¬ okL n l → e = 1) ∧ (okL n l → 8 < l.length → e = 2) ∧ (okL n l → l.length ≤ 8 → e = 0)
theorem LisIs.ex (n : Int) (l : List Int) : ∃ e, LisIs n l e := by
  by_cases h : okL n l
  · by_cases g : l.length ≤ 8
    · exact ⟨0, fun x => absurd h x, fun _ x => by omega, fun _ _ => rfl⟩
    · exact ⟨2, fun x => absurd h x, fun _ _ => rfl, fun _ x => absurd x g⟩
  · exact ⟨1, fun _ => rfl, fun x => absurd x h, fun x => absurd x h⟩
theorem LisIs.zero {n : Int} {l : List Int} (h : LisIs n l 0) : okL n l ∧ l.length ≤ 8 := by
  by_cases hk : okL n l
  · by_cases g : l.length ≤ 8
    · exact ⟨hk, g⟩
    · have := h.2.1 hk (by omega); omega
  · have := h.1 hk; omega

/-- several sets of a list together -/
def sevTo (ls : List Nat) (s : Nat) : Nat → Nat
  | 0 => 0
  | k + 1 => if s.testBit k = true then sevTo ls s k ||| ls.getD k 0 else sevTo ls s k
theorem sevTo_lt {ls : List Nat} {m : Nat} (h : ∀ k, k < ls.length → ls.getD k 0 < bit m) (s : Nat) {k : Nat} (hk : k ≤ ls.length) : sevTo ls s k < bit m := by
  induction k with
  | zero => show 0 < 2 ^ m; exact Nat.pow_pos (by decide)
  | succ k ih =>
    unfold sevTo
    split
    · exact Nat.or_lt_two_pow (ih (by omega)) (h k (by omega))
    · exact ih (by omega)
def sev (ls : List Nat) (s : Nat) : Nat := sevTo ls s ls.length

end Go.Proofs.Ytnhpefcjgaimeaa
