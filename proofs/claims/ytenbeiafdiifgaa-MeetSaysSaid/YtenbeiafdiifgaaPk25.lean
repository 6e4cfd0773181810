
/-
  axioms.family and its kinds: Independents, Circuits, Flats, Hyperplanes.
  The kinds of sets that axioms.family is asked for: Independents, Circuits, Flats, Hyperplanes.
-/
import Derived.Deep.CutRange
import Derived.Deep.CutBlock
import Derived.Test.YtenbeiafdiifgaaPk13
import Derived.Test.YtenbeiafdiifgaaPk18
import Derived.Test.YtenbeiafdiifgaaPk09
namespace Go.Proofs.Ytenbeiafdiifgaa
open Go.RowKit
set_option linter.unusedVariables false

/-- a result: a list of the call's own, and an error -/
def ListO (B : Nat) (xs : List Int) (e : Int) (v : Value) (w : World) : Prop := ∃ ad cp, v = .tuple #[.slice ad xs.length cp, .int .i64 e] ∧ Own B w ad cp xs
theorem ListO.e {B : Nat} {xs : List Int} {e : Int} {v : Value} {w : World} (h : ListO B xs e v w) : ListE xs e v w := by
  obtain ⟨ad, cp, rfl, ho⟩ := h
  exact ⟨_, rfl, Reads.of_own ho⟩
theorem listE_of {B : Nat} {W : World} {P : Program} {f : FuncId} {args : Array Value} {w : World} {xs : List Int} {e : Int} {B' : Nat} (h : Calls P f args w (RetP B W (ListO B' xs e))) : Calls P f args w (RetP B W (ListE xs e)) := h.mono fun _ _ ⟨v, h1, h2, h3⟩ => ⟨v, h1, h2.e, h3⟩

/-- a function value that tells of a table of ranks and a set whether the set is of a kind -/
def TellsR (B : Nat) (W : World) (m : Nat) (L : List Nat) (k : FuncId) (caps : Array Value) (p : Nat → Bool) : Prop :=
  ∀ (x : Later B W) (g c : Nat), g < x.val.heap.size → ITab x.val g (bit m) (fun j => (rk L j : Int)) → ∀ (v : Later x.val.heap.size x.val) (s : Nat), s < bit m → Calls Try.prog k (#[.slice (some ⟨g, 0, none⟩) (bit m) c, .int .i64 (s : Int)] ++ caps) v.val (Ret x.val.heap.size x.val (.bool (p s)))

end Go.Proofs.Ytenbeiafdiifgaa

namespace Go.Proofs.Ytenbeiafdiifgaa
open Go.RowKit
set_option linter.unusedVariables false

end Go.Proofs.Ytenbeiafdiifgaa
