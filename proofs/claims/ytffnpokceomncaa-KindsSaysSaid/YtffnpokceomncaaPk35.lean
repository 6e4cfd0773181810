
/-
  minors.made.
  minors.Dual.
  minors.right, kept, made.
-/
import Derived.Test.YtffnpokceomncaaPk34
import Derived.Test.YtffnpokceomncaaPk11
import Derived.Test.YtffnpokceomncaaPk17
import Derived.Test.YtffnpokceomncaaPk13
namespace Go.Proofs.Ytffnpokceomncaa
open Go.RowKit
set_option linter.unusedVariables false

theorem Own.far {B : Nat} {w : World} {ad : Option Addr} {cap : Nat} {xs : List Int} (h : Own B w ad cap xs) : ∀ off, ad ≠ some ⟨w.heap.size, off, none⟩ := fun off e => by
  rcases h.open with ⟨e1, _, _⟩ | ⟨g, cur, e1, h1, h2, _⟩
  · rw [e1] at e; cases e
  · rw [e1] at e
    cases e
    have := (Array.getElem?_eq_some_iff.1 h2).1
    omega

end Go.Proofs.Ytffnpokceomncaa

namespace Go.Proofs.Ytffnpokceomncaa
open Go.RowKit
set_option linter.unusedVariables false

/-- a matroid whose bases lie in a row of the call's own, and an error -/
def MatTO (B : Nat) (n : Int) (xs : List Int) (er : Int) (v : Value) (w : World) : Prop := ∃ ad cp, v = .tuple #[.agg #[.int .i64 n, .slice ad xs.length cp], .int .i64 er] ∧ Own B w ad cp xs
theorem MatTO.no {B : Nat} {e : Int} {w : World} : MatTO B 0 [] e (.tuple #[.agg #[.int .i64 0, .slice none 0 0], .int .i64 e]) w := ⟨none, 0, rfl, Own.nil _ _⟩
theorem take_map_step (f : Nat → Nat) (L : List Nat) {k : Nat} (hk : k < L.length) : (L.take (k + 1)).map f = (L.take k).map f ++ [f (L.getD k 0)] := by
  rw [List.take_add_one, List.getElem?_eq_getElem hk, List.map_append]
  have : L.getD k 0 = L[k] := by simp [hk]
  rw [this]
  rfl

end Go.Proofs.Ytffnpokceomncaa

namespace Go.Proofs.Ytffnpokceomncaa
open Go.RowKit
set_option linter.unusedVariables false

theorem growL_step (key : Nat → Int) (L : List Nat) (k : Nat) : growL key L (k + 1) = if (growL key L k).2 < key (L.getD k 0) then ([L.getD k 0], key (L.getD k 0)) else if key (L.getD k 0) = (growL key L k).2 then ((growL key L k).1 ++ [L.getD k 0], (growL key L k).2) else growL key L k := rfl

end Go.Proofs.Ytffnpokceomncaa
