
/-
  rotaref.Free, rotaref.Least: their function values.
  rotaref.Free, rotaref.Least.
  rotaref.Circuits.
-/
import Derived.Test.YtffnpokceomncaaPk14
import Derived.Test.YtffnpokceomncaaPk10
import Derived.Deep.RegionHeld3
namespace Go.Proofs.Ytffnpokceomncaa
open Go.RowKit
set_option linter.unusedVariables false

/-- within a basis -/
def freeB (L : List Nat) (s : Nat) : Bool := L.any (fun b => decide (s ||| b = b))
theorem freeB_iff {L : List Nat} {s : Nat} : freeB L s = true ↔ Ind L s := by
  unfold freeB Ind
  rw [List.any_eq_true]
  constructor
  · rintro ⟨b, hb, h⟩
    exact ⟨b, hb, or_eq_iff.1 (by simpa using h)⟩
  · rintro ⟨b, hb, h⟩
    exact ⟨b, hb, by simpa using or_eq_iff.2 h⟩
theorem any_getD {L : List Nat} {p : Nat → Bool} : L.any p = true ↔ ∃ i, i < L.length ∧ p (L.getD i 0) = true := by
  rw [List.any_eq_true]
  constructor
  · rintro ⟨x, hx, h⟩
    obtain ⟨i, hi, e⟩ := List.getElem_of_mem hx
    exact ⟨i, hi, by rw [show L.getD i 0 = x by simp [hi, e]]; exact h⟩
  · rintro ⟨i, hi, h⟩
    exact ⟨L.getD i 0, by simp [hi], h⟩

/-- of a family's sets: one within which no other one lies -/
def leastB (M : List Nat) (s : Nat) : Bool := decide (s ∈ M) && M.all (fun x => decide (x = s) || !decide (x ||| s = s))
theorem all_getD {L : List Nat} {p : Nat → Bool} : L.all p = true ↔ ∀ i, i < L.length → p (L.getD i 0) = true := by
  rw [List.all_eq_true]
  constructor
  · intro h i hi; exact h _ (by simp [hi])
  · intro h x hx
    obtain ⟨i, hi, e⟩ := List.getElem_of_mem hx
    have := h i hi
    rwa [show L.getD i 0 = x by simp [hi, e]] at this

end Go.Proofs.Ytffnpokceomncaa

namespace Go.Proofs.Ytffnpokceomncaa
open Go.RowKit
set_option linter.unusedVariables false

end Go.Proofs.Ytffnpokceomncaa

namespace Go.Proofs.Ytffnpokceomncaa
open Go.RowKit
set_option linter.unusedVariables false

/-- not within a basis, and so that each set within it but itself is -/
def circB (m : Nat) (L : List Nat) (s : Nat) : Bool := leastB (those m (fun s => !freeB L s)) s

end Go.Proofs.Ytffnpokceomncaa
