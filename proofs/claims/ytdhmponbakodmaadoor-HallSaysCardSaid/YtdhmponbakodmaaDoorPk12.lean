
/-
  rotaref.Free, rotaref.Least: their function values.
  Boxes of one cell.
-/
import Derived.Test.YtdhmponbakodmaaDoorPk11
import Derived.Test.YtdhmponbakodmaaDoorPk03
import Derived.Test.YtdhmponbakodmaaDoorPk07
namespace Go.Proofs.YtdhmponbakodmaaDoor
open Go.RowKit
set_option linter.unusedVariables false

/-- within a basis -/
def freeB (L : List Nat) (s : Nat) : Bool := L.any (fun b => decide (s ||| b = b))
theorem freeB_iff {L : List Nat} {s : Nat} : freeB L s = true ↔ Ind L s := by
  unfold freeB Ind
  rw [List.any_eq_true]
  constructor
  · rintro ⟨b, hb, h⟩
    exact ⟨b, hb, or_eq_iff.1 (by simpa using h)⟩
  · rintro ⟨b, hb, h⟩
    exact ⟨b, hb, by simpa using or_eq_iff.2 h⟩
theorem any_getD {L : List Nat} {p : Nat → Bool} : L.any p = true ↔ ∃ i, i < L.length ∧ p (L.getD i 0) = true := by
  rw [List.any_eq_true]
  constructor
  · rintro ⟨x, hx, h⟩
    obtain ⟨i, hi, e⟩ := List.getElem_of_mem hx
    exact ⟨i, hi, by rw [show L.getD i 0 = x by simp [hi, e]]; exact h⟩
  · rintro ⟨i, hi, h⟩
    exact ⟨L.getD i 0, by simp [hi], h⟩

/-- of a family's sets: one within which no other one lies -/
def leastB (M : List Nat) (s : Nat) : Bool := decide (s ∈ M) && M.all (fun x => decide (x = s) || !decide (x ||| s = s))
theorem all_getD {L : List Nat} {p : Nat → Bool} : L.all p = true ↔ ∀ i, i < L.length → p (L.getD i 0) = true := by
  rw [List.all_eq_true]
  constructor
  · intro h i hi; exact h _ (by simp [hi])
  · intro h x hx
    obtain ⟨i, hi, e⟩ := List.getElem_of_mem hx
    have := h i hi
    rwa [show L.getD i 0 = x by simp [hi, e]] at this

end Go.Proofs.YtdhmponbakodmaaDoor

namespace Go.Proofs.YtdhmponbakodmaaDoor
open Go.RowKit
set_option linter.unusedVariables false

/-- a box of one cell -/
def RowAt1 (w : World) (g : Nat) (t : TypeId) (v : Value) : Prop := w.heap[g]? = some (.cells #[v] t (0, 0))
theorem RowAt1.c0 {w : World} {g : Nat} {t : TypeId} {v : Value} (h : RowAt1 w g t v) : w.cell? ⟨g, 0, none⟩ = some v := by rw [cell_of_row w g 0 _ _ _ h]; rfl
theorem RowAt1.lt {w : World} {g : Nat} {t : TypeId} {v : Value} (h : RowAt1 w g t v) : g < w.heap.size := by
  have h' : w.heap[g]? = _ := h
  exact (Array.getElem?_eq_some_iff.1 h').1
theorem RowAt1.keep {w w' : World} {g : Nat} {t : TypeId} {v : Value} (h : RowAt1 w g t v) (hb : Below w.heap.size w w') : RowAt1 w' g t v := by
  show w'.heap[g]? = _
  rw [hb.block g h.lt]; exact h

theorem row1_under {w : World} {g : Nat} {t : TypeId} {v : Value} (h : RowAt1 w g t v) (o : Obj) : RowAt1 (w.alloc o) g t v := h.keep ((Below.refl _ _).alloc (Nat.le_refl _) _)
theorem two_under {w : World} {g : Nat} {t : TypeId} {x y : Value} (h : Two w g t x y) (o : Obj) : Two (w.alloc o) g t x y := h.keep ((Below.refl _ _).alloc (Nat.le_refl _) _)

theorem own_some {B : Nat} {w : World} {ad : Option Addr} {cap : Nat} {xs : List Int} (h : Own B w ad cap xs) (hne : xs ≠ []) : ∃ g, ad = some ⟨g, 0, none⟩ := by
  rcases h.2 with ⟨e, hn0⟩ | ⟨g, c, cur, e, _⟩
  · exact absurd (List.length_eq_zero_iff.1 hn0) hne
  · exact ⟨g, by simp only [Value.slice.injEq] at e; exact e.1⟩


end Go.Proofs.YtdhmponbakodmaaDoor
