
/-
  slices.Sort, Compact, Clone at lists of numbers, over rows of the call's own.
  Structs of several cells in a block of their own; the results of functions that hand back a struct and an error.
  minors.made.
-/
import Derived.Test.YtmcffbmhkbijlaaPk12
import Derived.Sort.OwnSortedInts
import Derived.Test.YtmcffbmhkbijlaaPk08
import Derived.Laws.ResultCell
import Derived.Test.YtmcffbmhkbijlaaPk10
namespace Go.Proofs.Ytmcffbmhkbijlaa
open Go.RowKit Go.Sort
set_option linter.unusedVariables false

/-- what a row of the call's own is -/
theorem Own.open {B : Nat} {w : World} {ad : Option Addr} {cap : Nat} {xs : List Int} (h : Own B w ad cap xs) : (ad = none ∧ cap = 0 ∧ xs = []) ∨ ∃ g cur, ad = some ⟨g, 0, none⟩ ∧ B ≤ g ∧ w.heap[g]? = some (.cells cur 3 (0, 0)) ∧ xs.length ≤ cap ∧ cap ≤ maxLen ∧ cur.size = cap * 1 ∧ cur.toList.take (xs.length * 1) = xs.map (Value.int .i64) := by
  rcases h.2 with ⟨e, hn⟩ | ⟨g, c, cur, e, h1, h2, h3, h4, h5, h6⟩
  · left
    simp only [Value.slice.injEq] at e
    exact ⟨e.1, e.2.2, List.length_eq_zero_iff.1 hn⟩
  · right
    simp only [Value.slice.injEq] at e
    obtain ⟨e1, _, e3⟩ := e
    subst e3
    exact ⟨g, cur, e1, h1, h2, h3, h4, h5, h6⟩
theorem Own.first {B : Nat} {w : World} {ad : Option Addr} {cap : Nat} {xs ys : List Int} (h : Own B w ad cap (xs ++ ys)) : Own B w ad cap xs := by
  rcases h.open with ⟨rfl, rfl, e⟩ | ⟨g, cur, rfl, h1, h2, h3, h4, h5, h6⟩
  · have : xs = [] := by
      cases xs with
      | nil => rfl
      | cons a t => cases e
    subst this
    exact Own.nil _ _
  · have hlen : xs.length ≤ (xs ++ ys).length := by simp
    refine ⟨by simp, .inr ⟨g, cap, cur, rfl, h1, h2, by omega, h4, h5, ?_⟩⟩
    have h7 := congrArg (List.take xs.length) h6
    rw [List.take_take, List.map_append] at h7
    rw [Nat.mul_one]
    rw [Nat.mul_one, Nat.min_eq_left hlen] at h7
    rw [h7, List.take_append_of_le_length (by simp)]
    exact List.take_of_length_le (by simp)

theorem cpt_len (xs : List Int) : (cpt xs).length ≤ xs.length := by
  rw [cpt_eq, List.length_map]
  have := List.length_filter_le (fun j => decide (j = 0 ∨ xs.getD j 0 ≠ xs.getD (j - 1) 0)) (List.range xs.length)
  simpa using this
end Go.Proofs.Ytmcffbmhkbijlaa

namespace Go.Proofs.Ytmcffbmhkbijlaa
open Go.RowKit
set_option linter.unusedVariables false

def RowL (w : World) (g : Nat) (t : TypeId) (vs : List Value) : Prop := w.heap[g]? = some (.cells vs.toArray t (0, 0))
namespace RowL
variable {w : World} {g : Nat} {t : TypeId} {vs : List Value}
theorem new (w : World) (t : TypeId) (vs : List Value) : RowL (w.alloc (.cells vs.toArray t)) w.heap.size t vs := heap_alloc_new w _
theorem cell (h : RowL w g t vs) {i : Nat} {x : Value} (hx : vs[i]? = some x) : w.cell? ⟨g, i, none⟩ = some x := by
  rw [cell_of_row w g i _ _ _ h]
  simpa using hx
theorem fz (h : RowL w g t vs) (i : Nat) : w.frozen? ⟨g, i, none⟩ = false := by
  have h' : w.heap[g]? = _ := h
  unfold World.frozen?
  rw [h']; simp
theorem lt (h : RowL w g t vs) : g < w.heap.size := by
  have h' : w.heap[g]? = _ := h
  exact (Array.getElem?_eq_some_iff.1 h').1
theorem keep_at {w' : World} {B : Nat} (h : RowL w g t vs) (hb : Below B w w') (hg : g < B) : RowL w' g t vs := by
  show w'.heap[g]? = _
  rw [hb.block g hg]; exact h
theorem keep {w' : World} (h : RowL w g t vs) (hb : Below w.heap.size w w') : RowL w' g t vs := h.keep_at hb h.lt
theorem set (h : RowL w g t vs) (i : Nat) (x : Value) : RowL (w.setCell ⟨g, i, none⟩ x) g t (vs.set i x) := by
  have h' : w.heap[g]? = _ := h
  simp only [RowL, World.setCell, Array.getElem?_modify, h']
  simp [List.setIfInBounds_toArray]
end RowL
theorem results_row {fn : Func} {p x : Tmp} {ty : TypeId} (h : fn.results = #[.cell p ty, .tmp x]) {P : Program} (tmps : Array Value) (w : World) (g : Nat) {t : TypeId} {vs : List Value} {fs : Array Field}
    (hp : tmps.getD p undef = .pointer (some ⟨g, 0, none⟩)) (hT : RowL w g t vs)
    (hu : P.underlying ty = some (.struct fs)) (hi : (P.info? ty).map (·.size) = some vs.length) :
    (results fn tmps).run P w = .ok (.tuple #[.agg vs.toArray, tmps.getD x undef]) w := by
  have hl := run_loadVar_row (P := P) w g t ty vs.toArray (0, 0) _ hT hu rfl (by simpa using hi)
  rw [results_cell_tmp h, hp]
  simp [asAddr, Result.andThen, hl]
theorem later_set {B : Nat} {W w : World} (h : ∃ u : Later B W, u.val = w) {g i : Nat} (hg : B ≤ g) (x : Value) : ∃ u : Later B W, u.val = w.setCell ⟨g, i, none⟩ x := by
  obtain ⟨u, rfl⟩ := h
  exact ⟨u.set ⟨g, i, none⟩ hg x, rfl⟩
/-- a call from a later world: its end is later too, and all that the world had stands -/
def ThreadP {B : Nat} {W : World} (v : Later B W) (Q : Value → World → Prop) : Ending → World → Prop := fun e w' => ∃ (v' : Later B W) (x : Value), e = .returned x ∧ w' = v'.val ∧ Q x v'.val ∧ Below v.val.heap.size v.val v'.val
theorem threadP {P : Program} {f : FuncId} {args : Array Value} {B : Nat} {W : World} {Q : Value → World → Prop} (v : Later B W) (h : Calls P f args v.val (RetP v.val.heap.size v.val Q)) : Calls P f args v.val (ThreadP v Q) := h.mono (by
  rintro e _ ⟨x, rfl, hq, y, rfl⟩
  exact ⟨v.up y, x, rfl, rfl, hq, y.below⟩)
theorem Own.le {B : Nat} {w : World} {ad : Option Addr} {cap : Nat} {xs : List Int} (h : Own B w ad cap xs) : xs.length ≤ cap := by
  rcases h.2 with ⟨e, hn⟩ | ⟨g, c, cur, e, h1, h2, h3, h4, h5, h6⟩
  · omega
  · simp only [Value.slice.injEq] at e
    omega

end Go.Proofs.Ytmcffbmhkbijlaa

namespace Go.Proofs.Ytmcffbmhkbijlaa
open Go.RowKit
set_option linter.unusedVariables false

theorem Own.far {B : Nat} {w : World} {ad : Option Addr} {cap : Nat} {xs : List Int} (h : Own B w ad cap xs) : ∀ off, ad ≠ some ⟨w.heap.size, off, none⟩ := fun off e => by
  rcases h.open with ⟨e1, _, _⟩ | ⟨g, cur, e1, h1, h2, _⟩
  · rw [e1] at e; cases e
  · rw [e1] at e
    cases e
    have := (Array.getElem?_eq_some_iff.1 h2).1
    omega

end Go.Proofs.Ytmcffbmhkbijlaa
