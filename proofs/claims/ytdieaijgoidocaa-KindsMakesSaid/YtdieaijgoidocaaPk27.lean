
/-
  slices.Sort, Compact, Clone at lists of numbers, over rows of the call's own.
  minors.made.
  minors.Dual.
-/
import Derived.Test.YtdieaijgoidocaaPk26
import Derived.Sort.OwnSortedInts
import Derived.Test.YtdieaijgoidocaaPk11
import Derived.Test.YtdieaijgoidocaaPk17
import Derived.Test.YtdieaijgoidocaaPk13
namespace Go.Proofs.Ytdieaijgoidocaa
open Go.RowKit Go.Sort
set_option linter.unusedVariables false

/-- what a row of the call's own is -/
theorem Own.open {B : Nat} {w : World} {ad : Option Addr} {cap : Nat} {xs : List Int} (h : Own B w ad cap xs) : (ad = none ∧ cap = 0 ∧ xs = []) ∨ ∃ g cur, ad = some ⟨g, 0, none⟩ ∧ B ≤ g ∧ w.heap[g]? = some (.cells cur 3 (0, 0)) ∧ xs.length ≤ cap ∧ cap ≤ maxLen ∧ cur.size = cap * 1 ∧ cur.toList.take (xs.length * 1) = xs.map (Value.int .i64) := by
  rcases h.2 with ⟨e, hn⟩ | ⟨g, c, cur, e, h1, h2, h3, h4, h5, h6⟩
  · left
    simp only [Value.slice.injEq] at e
    exact ⟨e.1, e.2.2, List.length_eq_zero_iff.1 hn⟩
  · right
    simp only [Value.slice.injEq] at e
    obtain ⟨e1, _, e3⟩ := e
    subst e3
    exact ⟨g, cur, e1, h1, h2, h3, h4, h5, h6⟩
theorem Own.first {B : Nat} {w : World} {ad : Option Addr} {cap : Nat} {xs ys : List Int} (h : Own B w ad cap (xs ++ ys)) : Own B w ad cap xs := by
  rcases h.open with ⟨rfl, rfl, e⟩ | ⟨g, cur, rfl, h1, h2, h3, h4, h5, h6⟩
  · have : xs = [] := by
      cases xs with
      | nil => rfl
      | cons a t => cases e
    subst this
    exact Own.nil _ _
  · have hlen : xs.length ≤ (xs ++ ys).length := by simp
    refine ⟨by simp, .inr ⟨g, cap, cur, rfl, h1, h2, by omega, h4, h5, ?_⟩⟩
    have h7 := congrArg (List.take xs.length) h6
    rw [List.take_take, List.map_append] at h7
    rw [Nat.mul_one]
    rw [Nat.mul_one, Nat.min_eq_left hlen] at h7
    rw [h7, List.take_append_of_le_length (by simp)]
    exact List.take_of_length_le (by simp)

theorem cpt_len (xs : List Int) : (cpt xs).length ≤ xs.length := by
  rw [cpt_eq, List.length_map]
  have := List.length_filter_le (fun j => decide (j = 0 ∨ xs.getD j 0 ≠ xs.getD (j - 1) 0)) (List.range xs.length)
  simpa using this
theorem c_clone {B : Nat} {W : World} (u : Later B W) (xs : List Int) (a : Option Addr) (cap : Nat) (h : IntsAt B W a xs) (hlen : xs.length ≤ 17592186044416) :
    Calls Try.prog 45 #[.slice a xs.length cap] u.val (RetOwn B W xs) := by
  cases a with
  | none =>
    have : xs = [] := by
      by_cases e : xs = []
      · exact e
      · obtain ⟨b, off, e2, _⟩ := h e; cases e2
    subst this
    refine (Try.slices_Clone_int_nil 0 cap u.val).mono ?_
    rintro e w ⟨rfl, rfl⟩
    exact RetP.mk u ⟨none, 0, rfl, Own.nil _ _⟩
  | some p =>
    have fin : ∀ (v' : Value) (w' : World), w'.ownsRow u.val.heap.size 3 1 v' xs.length (xs.map (Value.int .i64)) → Below u.val.heap.size u.val w' → RetOwn B W xs (.returned v') w' := by
      intro v' w' ho hb
      have hsz : u.val.heap.size ≤ w'.heap.size := hb.size
      refine ⟨v', rfl, ?_, ⟨w', u.below.trans (hb.mono u.size), Nat.le_trans u.size hsz⟩, rfl⟩
      have ho' := ho
      rcases ho.2 with ⟨e, hn⟩ | ⟨g, c, cur, e, h1, h2, h3, h4, h5, h6⟩
      · subst e
        have : xs = [] := List.length_eq_zero_iff.1 hn
        subst this
        exact ⟨none, 0, rfl, Own.nil _ _⟩
      · subst e
        exact ⟨some ⟨g, 0, none⟩, c, rfl, ho.1, .inr ⟨g, c, cur, rfl, Nat.le_trans u.size h1, h2, h3, h4, h5, h6⟩⟩
    by_cases hx : xs = []
    · subst hx
      refine (Try.slices_Clone_int_zero p cap u.val).mono ?_
      rintro e w ⟨v', rfl, ho, _, hb⟩
      exact fin v' w ho hb
    · obtain ⟨b, off, e2, hbB, hc⟩ := h hx
      simp only [Option.some.injEq] at e2
      subst e2
      refine (Try.slices_Clone_int b off xs.length cap xs u.val (Nat.le_refl _) (by omega) (fun j hj => by rw [u.cell (a := ⟨b, off + j, none⟩) hbB]; exact hc j hj)).mono ?_
      rintro e w ⟨v', rfl, ho, _, hb⟩
      rw [List.take_length] at ho
      exact fin v' w ho hb

end Go.Proofs.Ytdieaijgoidocaa

namespace Go.Proofs.Ytdieaijgoidocaa
open Go.RowKit
set_option linter.unusedVariables false

theorem Own.far {B : Nat} {w : World} {ad : Option Addr} {cap : Nat} {xs : List Int} (h : Own B w ad cap xs) : ∀ off, ad ≠ some ⟨w.heap.size, off, none⟩ := fun off e => by
  rcases h.open with ⟨e1, _, _⟩ | ⟨g, cur, e1, h1, h2, _⟩
  · rw [e1] at e; cases e
  · rw [e1] at e
    cases e
    have := (Array.getElem?_eq_some_iff.1 h2).1
    omega

end Go.Proofs.Ytdieaijgoidocaa

namespace Go.Proofs.Ytdieaijgoidocaa
open Go.RowKit
set_option linter.unusedVariables false

/-- a matroid whose bases lie in a row of the call's own, and an error -/
def MatTO (B : Nat) (n : Int) (xs : List Int) (er : Int) (v : Value) (w : World) : Prop := ∃ ad cp, v = .tuple #[.agg #[.int .i64 n, .slice ad xs.length cp], .int .i64 er] ∧ Own B w ad cp xs
theorem MatTO.no {B : Nat} {e : Int} {w : World} : MatTO B 0 [] e (.tuple #[.agg #[.int .i64 0, .slice none 0 0], .int .i64 e]) w := ⟨none, 0, rfl, Own.nil _ _⟩
theorem take_map_step (f : Nat → Nat) (L : List Nat) {k : Nat} (hk : k < L.length) : (L.take (k + 1)).map f = (L.take k).map f ++ [f (L.getD k 0)] := by
  rw [List.take_add_one, List.getElem?_eq_getElem hk, List.map_append]
  have : L.getD k 0 = L[k] := by simp [hk]
  rw [this]
  rfl

end Go.Proofs.Ytdieaijgoidocaa
