
/-
  slices.IndexFunc, slices.ContainsFunc over lists of numbers, at function values that tell; rows of the call's own, written at a place.
-/
import Derived.Test.YtmhjhdgaecdloaaRowL
import Derived.Test.YtmhjhdgaecdloaaThose
import Derived.Test.YtmhjhdgaecdloaaTabs
namespace Go.Proofs.Ytmhjhdgaecdloaa
open Go.RowKit
set_option linter.unusedVariables false

/-- a function value that tells of a list's elements whether they are of a kind, in whatever later world -/
def TellsE (B : Nat) (W : World) (k : FuncId) (caps : Array Value) (l : List Int) (p : Int → Bool) : Prop :=
  ∀ (v : Later B W) (i : Nat), i < l.length → Calls Try.prog k (#[.int .i64 (l.getD i 0)] ++ caps) v.val (Ret B W (.bool (p (l.getD i 0))))

theorem any_getI {l : List Int} {p : Int → Bool} : l.any p = true ↔ ∃ i, i < l.length ∧ p (l.getD i 0) = true := by
  rw [List.any_eq_true]
  constructor
  · rintro ⟨x, hx, h⟩
    obtain ⟨i, hi, e⟩ := List.getElem_of_mem hx
    exact ⟨i, hi, by simpa [hi, e] using h⟩
  · rintro ⟨i, hi, h⟩
    exact ⟨l.getD i 0, by simp [hi], h⟩

/-- a write at a place of a row of the call's own -/
theorem Own.put {B : Nat} {w : World} {g cap : Nat} {xs : List Int} (h : Own B w (some ⟨g, 0, none⟩) cap xs) {i : Nat} (hi : i < xs.length) (x : Int) : Own B (w.setCell ⟨g, i, none⟩ (.int .i64 x)) (some ⟨g, 0, none⟩) cap (xs.set i x) := by
  rcases h.2 with ⟨e, hn⟩ | ⟨g', c, cur, e, h1, h2, h3, h4, h5, h6⟩
  · cases e
  · simp only [Value.slice.injEq, Option.some.injEq, Addr.mk.injEq] at e
    obtain ⟨⟨e1, _⟩, _, e3⟩ := e
    subst e1; subst e3
    refine ⟨by simp, .inr ⟨g, cap, cur.setIfInBounds i (.int .i64 x), by simp, h1, ?_, by simpa using h3, h4, by simpa using h5, ?_⟩⟩
    · have h' : w.heap[g]? = _ := h2
      simp only [World.setCell, Array.getElem?_modify, h']
      simp
    · rw [Nat.mul_one] at h6 ⊢
      rw [List.length_set, Array.toList_setIfInBounds, List.map_set, ← h6, List.take_set]
theorem Own.cellAt {B : Nat} {w : World} {g cap : Nat} {xs : List Int} (h : Own B w (some ⟨g, 0, none⟩) cap xs) {i : Nat} (hi : i < xs.length) : w.cell? ⟨g, i, none⟩ = some (.int .i64 (xs.getD i 0)) := by
  obtain ⟨b, off, e, _, hc⟩ := h.reads (by rintro rfl; simp at hi)
  simp only [Option.some.injEq, Addr.mk.injEq] at e
  obtain ⟨rfl, rfl, _⟩ := e
  have := hc i hi
  rwa [Nat.zero_add] at this
theorem Own.fz {B : Nat} {w : World} {g cap : Nat} {xs : List Int} (h : Own B w (some ⟨g, 0, none⟩) cap xs) (i : Nat) : w.frozen? ⟨g, i, none⟩ = false := by
  rcases h.2 with ⟨e, hn⟩ | ⟨g', c, cur, e, h1, h2, h3, h4, h5, h6⟩
  · cases e
  · simp only [Value.slice.injEq, Option.some.injEq, Addr.mk.injEq] at e
    obtain ⟨⟨e1, _⟩, _⟩ := e
    subst e1
    have h' : w.heap[g]? = _ := h2
    unfold World.frozen?
    rw [h']; simp
theorem Own.base {B : Nat} {w : World} {g cap : Nat} {xs : List Int} (h : Own B w (some ⟨g, 0, none⟩) cap xs) : B ≤ g := by
  rcases h.2 with ⟨e, hn⟩ | ⟨g', c, cur, e, h1, h2, h3, h4, h5, h6⟩
  · cases e
  · simp only [Value.slice.injEq, Option.some.injEq, Addr.mk.injEq] at e
    obtain ⟨⟨e1, _⟩, _⟩ := e
    subst e1
    exact h1
theorem tabL_set (n : Nat) (A A' : Nat → Int) {i : Nat} (hi : i < n) (v : Int) (e : ∀ j, j < n → A' j = if j = i then v else A j) : (tabL n A).set i v = tabL n A' := by
  apply List.ext_getElem
  · simp [tabL]
  · intro j h1 h2
    have hj : j < n := by simpa [tabL] using h2
    simp only [tabL, List.getElem_set, List.getElem_map, List.getElem_range]
    rw [e j hj]
    by_cases c : j = i
    · subst c; simp
    · rw [if_neg (Ne.symm c), if_neg c]



end Go.Proofs.Ytmhjhdgaecdloaa
