
/-
  axioms.exchange.
  axioms.Check.
-/
import Derived.Test.YtpkjpmkmcffkhaaPk04
import Derived.Test.YtpkjpmkmcffkhaaPk22
import Derived.Test.YtpkjpmkmcffkhaaPk08
import Derived.Deep.CutRange
import Derived.Deep.CutBlock
namespace Go.Proofs.Ytpkjpmkmcffkhaa
open Go.RowKit
set_option linter.unusedVariables false

theorem mem_ints {L : List Nat} {x : Nat} : (x : Int) ∈ ints L ↔ x ∈ L := by
  unfold ints
  rw [List.mem_map]
  constructor
  · rintro ⟨y, hy, e⟩
    have : y = x := by omega
    rw [← this]; exact hy
  · intro h; exact ⟨x, h, rfl⟩
/-- element x of A can be exchanged for one of B -/
def exX (L : List Nat) (A B x : Nat) : Prop := ∃ y, B.testBit y = true ∧ A.testBit y = false ∧ (nand A (bit x) ||| bit y) ∈ L
def exP (L : List Nat) (A B : Nat) : Prop := ∀ x, A.testBit x = true → B.testBit x = false → exX L A B x
def ExO (L : List Nat) (A B t : Nat) : Prop := ∀ x, A.testBit x = true → B.testBit x = false → t.testBit x = false → exX L A B x
def ExI (L : List Nat) (A B e v : Nat) (ok : Bool) : Prop := (ok = true → exX L A B e) ∧ (ok = false → ∀ y, B.testBit y = true → A.testBit y = false → v.testBit y = false → ¬ (nand A (bit e) ||| bit y) ∈ L)
theorem ExI.start (L : List Nat) (A B e : Nat) : ExI L A B e (nand B A) false := ⟨(fun h => by cases h), fun _ y h1 h2 h3 => by rw [nand_testBit, h1, h2] at h3; cases h3⟩
theorem ExI.end {L : List Nat} {A B e v : Nat} {ok : Bool} (h : ExI L A B e v ok) (hv : v = 0 ∨ ok = true) : ok = true ↔ exX L A B e := by
  constructor
  · exact h.1
  · rintro ⟨y, h1, h2, h3⟩
    cases ok with
    | true => rfl
    | false =>
      have hv0 : v = 0 := by simpa using hv
      exact absurd h3 (h.2 rfl y h1 h2 (by rw [hv0]; simp))

end Go.Proofs.Ytpkjpmkmcffkhaa

namespace Go.Proofs.Ytpkjpmkmcffkhaa
open Go.RowKit
set_option linter.unusedVariables false

def toN (l : List Int) : List Nat := l.map Int.toNat
theorem toN_len (l : List Int) : (toN l).length = l.length := by simp [toN]
theorem toN_getD (l : List Int) (i : Nat) : (toN l).getD i 0 = (l.getD i 0).toNat := by
  unfold toN
  by_cases h : i < l.length
  · simp [h]
  · simp [h]
theorem ints_toN {l : List Int} (h : ∀ i, i < l.length → 0 ≤ l.getD i 0) : ints (toN l) = l := by
  apply List.ext_getElem
  · simp [ints, toN]
  · intro i h1 h2
    have := h i h2
    simp [h2] at this
    simp [ints, toN]
    omega
theorem fam_ints {n : Int} {l : List Int} (h : isFam n l) : ints (toN l) = l := ints_toN (fun i hi => (h.2.2 i hi).1)
theorem fam_lt {n : Int} {l : List Int} (h : isFam n l) : ∀ b, b ∈ toN l → b < bit n.toNat := by
  intro b hb
  obtain ⟨i, hi, e⟩ := List.getElem_of_mem hb
  have hi' : i < l.length := by rw [toN_len] at hi; exact hi
  have h1 := h.2.2 i hi'
  have h2 : b = (l.getD i 0).toNat := by rw [← toN_getD, ← e]; simp [hi]
  have h3 := bit_le n.toNat (by have := h.2.1; omega)
  have h4 : all n = ((bit n.toNat - 1 : Nat) : Int) := rfl
  rw [h4] at h1
  omega
/-- a family of sets of one size, not none -/
def okM (n : Int) (l : List Int) : Prop := isFam n l ∧ l ≠ [] ∧ ∀ i, i < (toN l).length → sz ((toN l).getD i 0) = sz ((toN l).getD 0 0)
/-- what the check of a matroid answers -/
def MatIs (n : Int) (l : List Int) (e : Int) : Prop := (¬ okM n l → e = 1) ∧ (okM n l → ¬ Exch (toN l) → e = 3) ∧ (okM n l → Exch (toN l) → e = 0)
theorem MatIs.ex (n : Int) (l : List Int) : ∃ e, MatIs n l e := by
  by_cases h : okM n l
  · by_cases g : Exch (toN l)
    · exact ⟨0, fun x => absurd h x, fun _ x => absurd g x, fun _ _ => rfl⟩
    · exact ⟨3, fun x => absurd h x, fun _ _ => rfl, fun _ x => absurd x g⟩
  · exact ⟨1, fun _ => rfl, fun x => absurd x h, fun x => absurd x h⟩
theorem exch_getD {L : List Nat} : Exch L ↔ ∀ i, i < L.length → ∀ j, j < L.length → exP L (L.getD i 0) (L.getD j 0) := by
  constructor
  · intro h i hi j hj
    have h1 : L.getD i 0 ∈ L := by simp [hi]
    have h2 : L.getD j 0 ∈ L := by simp [hj]
    exact h _ h1 _ h2
  · intro h A hA B hB
    obtain ⟨i, hi, e1⟩ := List.getElem_of_mem hA
    obtain ⟨j, hj, e2⟩ := List.getElem_of_mem hB
    have := h i hi j hj
    have e3 : L.getD i 0 = A := by simp [hi, e1]
    have e4 : L.getD j 0 = B := by simp [hj, e2]
    rw [e3, e4] at this
    exact this
theorem okM.fam8 {n : Int} {l : List Int} (h : okM n l) : Fam8 (toN l) (sz ((toN l).getD 0 0)) where
  lt := fun b hb => by
    have := fam_lt h.1 b hb
    have h3 := bit_le n.toNat (by have := h.1.2.1; omega)
    omega
  eq := fun b hb => by
    obtain ⟨i, hi, e⟩ := List.getElem_of_mem hb
    have := h.2.2 i hi
    have e3 : (toN l).getD i 0 = b := by simp [hi, e]
    rw [e3] at this
    exact this

end Go.Proofs.Ytpkjpmkmcffkhaa
