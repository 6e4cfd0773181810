
/-
  sub.Induced, the walk.
-/
import Derived.Test.YtdhkobeagfmcnaaDoorSubK
import Derived.Laws.ResultCell
namespace Go.Proofs.YtdhkobeagfmcnaaDoor
open Go.RowKit
set_option linter.unusedVariables false

/-- a result: a matroid (none where the error is not 0) and the error -/
def MatE (n : Int) (xs : List Int) (k : Int) (v : Value) (w : World) : Prop := ∃ b, v = .tuple #[.agg #[.int .i64 (if k = 0 then n else 0), b], .int .i64 k] ∧ Reads w.heap.size w b (if k = 0 then xs else [])
def RetMatE (B : Nat) (W : World) (n : Int) (xs : List Int) (k : Int) : Ending → World → Prop := RetP B W (MatE n xs k)
theorem MatE.no {n : Int} {xs : List Int} {k : Int} (hk : k ≠ 0) (w : World) : MatE n xs k (.tuple #[.agg #[.int .i64 0, .slice none 0 0], .int .i64 k]) w :=
  ⟨_, by rw [if_neg hk], by rw [if_neg hk]; exact Reads.nil _ _⟩

end Go.Proofs.YtdhkobeagfmcnaaDoor
