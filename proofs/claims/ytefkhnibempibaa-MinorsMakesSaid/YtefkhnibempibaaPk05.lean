
/-
  Structs of several cells in a block of their own; the results of functions that hand back a struct and an error.
  Sets as numbers: what bounds them, elements struck and added, one within another.
-/
import Derived.Test.YtefkhnibempibaaPk04
import Derived.Laws.ResultCell
import Derived.Test.YtefkhnibempibaaPk02
import Derived.Test.YtefkhnibempibaaPk03
namespace Go.Proofs.Ytefkhnibempibaa
open Go.RowKit
set_option linter.unusedVariables false

def RowL (w : World) (g : Nat) (t : TypeId) (vs : List Value) : Prop := w.heap[g]? = some (.cells vs.toArray t (0, 0))
namespace RowL
variable {w : World} {g : Nat} {t : TypeId} {vs : List Value}
theorem new (w : World) (t : TypeId) (vs : List Value) : RowL (w.alloc (.cells vs.toArray t)) w.heap.size t vs := heap_alloc_new w _
theorem cell (h : RowL w g t vs) {i : Nat} {x : Value} (hx : vs[i]? = some x) : w.cell? ⟨g, i, none⟩ = some x := by
  rw [cell_of_row w g i _ _ _ h]
  simpa using hx
theorem fz (h : RowL w g t vs) (i : Nat) : w.frozen? ⟨g, i, none⟩ = false := by
  have h' : w.heap[g]? = _ := h
  unfold World.frozen?
  rw [h']; simp
theorem lt (h : RowL w g t vs) : g < w.heap.size := by
  have h' : w.heap[g]? = _ := h
  exact (Array.getElem?_eq_some_iff.1 h').1
theorem keep_at {w' : World} {B : Nat} (h : RowL w g t vs) (hb : Below B w w') (hg : g < B) : RowL w' g t vs := by
  show w'.heap[g]? = _
  rw [hb.block g hg]; exact h
theorem keep {w' : World} (h : RowL w g t vs) (hb : Below w.heap.size w w') : RowL w' g t vs := h.keep_at hb h.lt
theorem set (h : RowL w g t vs) (i : Nat) (x : Value) : RowL (w.setCell ⟨g, i, none⟩ x) g t (vs.set i x) := by
  have h' : w.heap[g]? = _ := h
  simp only [RowL, World.setCell, Array.getElem?_modify, h']
  simp [List.setIfInBounds_toArray]
end RowL
theorem results_row {fn : Func} {p x : Tmp} {ty : TypeId} (h : fn.results = #[.cell p ty, .tmp x]) {P : Program} (tmps : Array Value) (w : World) (g : Nat) {t : TypeId} {vs : List Value} {fs : Array Field}
    (hp : tmps.getD p undef = .pointer (some ⟨g, 0, none⟩)) (hT : RowL w g t vs)
    (hu : P.underlying ty = some (.struct fs)) (hi : (P.info? ty).map (·.size) = some vs.length) :
    (results fn tmps).run P w = .ok (.tuple #[.agg vs.toArray, tmps.getD x undef]) w := by
  have hl := run_loadVar_row (P := P) w g t ty vs.toArray (0, 0) _ hT hu rfl (by simpa using hi)
  rw [results_cell_tmp h, hp]
  simp [asAddr, Result.andThen, hl]
theorem later_set {B : Nat} {W w : World} (h : ∃ u : Later B W, u.val = w) {g i : Nat} (hg : B ≤ g) (x : Value) : ∃ u : Later B W, u.val = w.setCell ⟨g, i, none⟩ x := by
  obtain ⟨u, rfl⟩ := h
  exact ⟨u.set ⟨g, i, none⟩ hg x, rfl⟩
/-- a call from a later world: its end is later too, and all that the world had stands -/
def ThreadP {B : Nat} {W : World} (v : Later B W) (Q : Value → World → Prop) : Ending → World → Prop := fun e w' => ∃ (v' : Later B W) (x : Value), e = .returned x ∧ w' = v'.val ∧ Q x v'.val ∧ Below v.val.heap.size v.val v'.val
theorem threadP {P : Program} {f : FuncId} {args : Array Value} {B : Nat} {W : World} {Q : Value → World → Prop} (v : Later B W) (h : Calls P f args v.val (RetP v.val.heap.size v.val Q)) : Calls P f args v.val (ThreadP v Q) := h.mono (by
  rintro e _ ⟨x, rfl, hq, y, rfl⟩
  exact ⟨v.up y, x, rfl, rfl, hq, y.below⟩)
theorem Own.le {B : Nat} {w : World} {ad : Option Addr} {cap : Nat} {xs : List Int} (h : Own B w ad cap xs) : xs.length ≤ cap := by
  rcases h.2 with ⟨e, hn⟩ | ⟨g, c, cur, e, h1, h2, h3, h4, h5, h6⟩
  · omega
  · simp only [Value.slice.injEq] at e
    omega

end Go.Proofs.Ytefkhnibempibaa

namespace Go.Proofs.Ytefkhnibempibaa
set_option linter.unusedVariables false

theorem or_lt_bit {m a b : Nat} (ha : a < bit m) (hb : b < bit m) : a ||| b < bit m := Nat.or_lt_two_pow ha hb
theorem and_lt_bit {m a : Nat} (b : Nat) (ha : a < bit m) : a &&& b < bit m := Nat.lt_of_le_of_lt Nat.and_le_left ha
theorem bit_lt_bit {m i : Nat} (h : i < m) : bit i < bit m := by
  unfold bit; exact Nat.pow_lt_pow_right (by decide) h
theorem lt_m_of_testBit {m s i : Nat} (hs : s < bit m) (h : s.testBit i = true) : i < m := by
  apply Classical.byContradiction
  intro hc
  have : s < 2 ^ i := Nat.lt_of_lt_of_le hs (by unfold bit; exact Nat.pow_le_pow_right (by decide) (by omega))
  rw [Nat.testBit_lt_two_pow this] at h
  cases h
theorem nand_bit_lt {t k : Nat} (ht : t < 256) (hk : k < 8) (h : t.testBit k = true) : nand t (bit k) < t := by
  rw [nand_bit t k ht hk h]
  have := bit_le_of_mem t k ht hk h
  have : 0 < bit k := by unfold bit; exact Nat.two_pow_pos k
  omega
theorem nand_testBit_bit (t k i : Nat) : (nand t (bit k)).testBit i = (t.testBit i && !decide (k = i)) := by rw [nand_testBit, testBit_bit]
theorem nand_or_bit {t k : Nat} (h : t.testBit k = true) : nand t (bit k) ||| bit k = t := by
  apply Nat.eq_of_testBit_eq
  intro i
  rw [Nat.testBit_or, nand_testBit_bit, testBit_bit]
  by_cases c : k = i
  · subst c; simp [h]
  · simp [c]
/-- within -/
def sub (s t : Nat) : Prop := ∀ i, s.testBit i = true → t.testBit i = true
theorem exists_diff {s t : Nat} (h : ¬ sub t s) : ∃ k, t.testBit k = true ∧ s.testBit k = false := by
  apply Classical.byContradiction
  intro hc
  apply h
  intro i hi
  cases hs : s.testBit i
  · exact absurd ⟨i, hi, hs⟩ hc
  · rfl
theorem sub_antisymm {s t : Nat} (h1 : sub s t) (h2 : sub t s) : s = t := by
  apply Nat.eq_of_testBit_eq
  intro i
  cases hs : s.testBit i <;> cases ht : t.testBit i
  · rfl
  · have := h2 i ht; rw [hs] at this; cases this
  · have := h1 i hs; rw [ht] at this; cases this
  · rfl

end Go.Proofs.Ytefkhnibempibaa
