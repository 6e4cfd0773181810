
/-
  sub.Induced, the walk.
-/
import Derived.Test.YtjpcelldbhdneaaSubK
import Derived.Laws.ResultCell
namespace Go.Proofs.Ytjpcelldbhdneaa
open Go.RowKit
set_option linter.unusedVariables false

theorem Two.keep_at {w w' : World} {g B : Nat} {t : TypeId} {a b : Value} (h : Two w g t a b) (hb : Below B w w') (hg : g < B) : Two w' g t a b := by
  show w'.heap[g]? = _
  rw [hb.block g hg]; exact h

theorem results_two {fn : Func} {p x : Tmp} {ty : TypeId} (h : fn.results = #[.cell p ty, .tmp x]) {P : Program} (tmps : Array Value) (w : World) (g : Nat) {t : TypeId} {a b : Value} {fs : Array Field}
    (hp : tmps.getD p undef = .pointer (some ⟨g, 0, none⟩)) (hT : Two w g t a b)
    (hu : P.underlying ty = some (.struct fs)) (hi : (P.info? ty).map (·.size) = some 2) :
    (results fn tmps).run P w = .ok (.tuple #[.agg #[a, b], tmps.getD x undef]) w := by
  have hl := run_loadVar_row (P := P) w g t ty #[a, b] (0, 0) _ hT hu rfl hi
  rw [results_cell_tmp h, hp]
  simp [asAddr, Result.andThen, hl]

/-- a result: a matroid (none where the error is not 0) and the error -/
def MatE (n : Int) (xs : List Int) (k : Int) (v : Value) (w : World) : Prop := ∃ b, v = .tuple #[.agg #[.int .i64 (if k = 0 then n else 0), b], .int .i64 k] ∧ Reads w.heap.size w b (if k = 0 then xs else [])
def RetMatE (B : Nat) (W : World) (n : Int) (xs : List Int) (k : Int) : Ending → World → Prop := RetP B W (MatE n xs k)
theorem MatE.no {n : Int} {xs : List Int} {k : Int} (hk : k ≠ 0) (w : World) : MatE n xs k (.tuple #[.agg #[.int .i64 0, .slice none 0 0], .int .i64 k]) w :=
  ⟨_, by rw [if_neg hk], by rw [if_neg hk]; exact Reads.nil _ _⟩

end Go.Proofs.Ytjpcelldbhdneaa
