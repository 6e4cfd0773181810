
/-
  Boxes of one cell.
-/
import Derived.Test.YtenbeiafdiifgaaPk03
import Derived.Test.YtenbeiafdiifgaaPk08
namespace Go.Proofs.Ytenbeiafdiifgaa
open Go.RowKit
set_option linter.unusedVariables false

/-- a box of one cell -/
def RowAt1 (w : World) (g : Nat) (t : TypeId) (v : Value) : Prop := w.heap[g]? = some (.cells #[v] t (0, 0))
theorem RowAt1.c0 {w : World} {g : Nat} {t : TypeId} {v : Value} (h : RowAt1 w g t v) : w.cell? ⟨g, 0, none⟩ = some v := by rw [cell_of_row w g 0 _ _ _ h]; rfl
theorem RowAt1.lt {w : World} {g : Nat} {t : TypeId} {v : Value} (h : RowAt1 w g t v) : g < w.heap.size := by
  have h' : w.heap[g]? = _ := h
  exact (Array.getElem?_eq_some_iff.1 h').1
theorem RowAt1.keep {w w' : World} {g : Nat} {t : TypeId} {v : Value} (h : RowAt1 w g t v) (hb : Below w.heap.size w w') : RowAt1 w' g t v := by
  show w'.heap[g]? = _
  rw [hb.block g h.lt]; exact h

theorem row1_under {w : World} {g : Nat} {t : TypeId} {v : Value} (h : RowAt1 w g t v) (o : Obj) : RowAt1 (w.alloc o) g t v := h.keep ((Below.refl _ _).alloc (Nat.le_refl _) _)
theorem two_under {w : World} {g : Nat} {t : TypeId} {x y : Value} (h : Two w g t x y) (o : Obj) : Two (w.alloc o) g t x y := h.keep ((Below.refl _ _).alloc (Nat.le_refl _) _)

theorem own_some {B : Nat} {w : World} {ad : Option Addr} {cap : Nat} {xs : List Int} (h : Own B w ad cap xs) (hne : xs ≠ []) : ∃ g, ad = some ⟨g, 0, none⟩ := by
  rcases h.2 with ⟨e, hn0⟩ | ⟨g, c, cur, e, _⟩
  · exact absurd (List.length_eq_zero_iff.1 hn0) hne
  · exact ⟨g, by simp only [Value.slice.injEq] at e; exact e.1⟩


end Go.Proofs.Ytenbeiafdiifgaa
