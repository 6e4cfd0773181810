
/-
  slices.Sort, Compact, Clone at lists of numbers, over rows of the call's own.
-/
import Derived.Test.YtjpcelldbhdneaaShelf
import Derived.Test.YtjpcelldbhdneaaRise
import Derived.Sort.OwnSortedInts
namespace Go.Proofs.Ytjpcelldbhdneaa
open Go.RowKit Go.Sort
set_option linter.unusedVariables false

/-- what a row of the call's own is -/
theorem Own.open {B : Nat} {w : World} {ad : Option Addr} {cap : Nat} {xs : List Int} (h : Own B w ad cap xs) : (ad = none ∧ cap = 0 ∧ xs = []) ∨ ∃ g cur, ad = some ⟨g, 0, none⟩ ∧ B ≤ g ∧ w.heap[g]? = some (.cells cur 3 (0, 0)) ∧ xs.length ≤ cap ∧ cap ≤ maxLen ∧ cur.size = cap * 1 ∧ cur.toList.take (xs.length * 1) = xs.map (Value.int .i64) := by
  rcases h.2 with ⟨e, hn⟩ | ⟨g, c, cur, e, h1, h2, h3, h4, h5, h6⟩
  · left
    simp only [Value.slice.injEq] at e
    exact ⟨e.1, e.2.2, List.length_eq_zero_iff.1 hn⟩
  · right
    simp only [Value.slice.injEq] at e
    obtain ⟨e1, _, e3⟩ := e
    subst e3
    exact ⟨g, cur, e1, h1, h2, h3, h4, h5, h6⟩
theorem Own.first {B : Nat} {w : World} {ad : Option Addr} {cap : Nat} {xs ys : List Int} (h : Own B w ad cap (xs ++ ys)) : Own B w ad cap xs := by
  rcases h.open with ⟨rfl, rfl, e⟩ | ⟨g, cur, rfl, h1, h2, h3, h4, h5, h6⟩
  · have : xs = [] := by
      cases xs with
      | nil => rfl
      | cons a t => cases e
    subst this
    exact Own.nil _ _
  · have hlen : xs.length ≤ (xs ++ ys).length := by simp
    refine ⟨by simp, .inr ⟨g, cap, cur, rfl, h1, h2, by omega, h4, h5, ?_⟩⟩
    have h7 := congrArg (List.take xs.length) h6
    rw [List.take_take, List.map_append] at h7
    rw [Nat.mul_one]
    rw [Nat.mul_one, Nat.min_eq_left hlen] at h7
    rw [h7, List.take_append_of_le_length (by simp)]
    exact List.take_of_length_le (by simp)

theorem c_sort {B : Nat} {W : World} (u : Later B W) (xs : List Int) (ad : Option Addr) (cap : Nat) (ho : Own B u.val ad cap xs) (hlen : xs.length ≤ 17592186044416) :
    Calls Try.prog 108 #[.slice ad xs.length cap] u.val (fun e w' => e = .returned (.tuple #[]) ∧ ∃ v : Later B W, w' = v.val ∧ Own B v.val ad cap (srt xs) ∧ (∀ k, k < u.val.heap.size → (∀ off, ad ≠ some ⟨k, off, none⟩) → v.val.heap[k]? = u.val.heap[k]?)) := by
  rcases ho.open with ⟨rfl, rfl, rfl⟩ | ⟨g, cur, rfl, h1, h2, h3, h4, h5, h6⟩
  · refine (Try.slices_Sort_int_none none 0 u.val).mono ?_
    rintro e w ⟨rfl, rfl⟩
    exact ⟨rfl, u, rfl, by have : srt [] = [] := by simp [srt]
                           rw [this]; exact Own.nil _ _, fun k hk _ => rfl⟩
  · have hH := holds_of_blockI (ss := xs) h2 (by simpa using h6)
    have hg : g < u.val.heap.size := (Array.getElem?_eq_some_iff.1 h2).1
    refine (Try.slices_Sort_int g 0 cap xs u.val hH hg (by omega)).mono ?_
    rintro e w ⟨rfl, n, os, rfl⟩
    have hgr := grownBy_sortedI (w := u.val) (g := g) (n := n) (os := os) (srt xs).toArray
    refine ⟨rfl, ⟨_, own_below u.below u.size ho hgr, Nat.le_trans u.size hgr.size⟩, rfl, ?_, fun k hk hne => hgr.block k hk (fun e => hne 0 (by cases e; rfl))⟩
    have := ownsRow_sortedI (n := n) (os := os) (ss := xs) (ts := srt xs) (srt_len xs) h1 h2 h3 h4 h5
    show World.ownsRow _ B 3 1 (.slice _ (srt xs).length cap) (srt xs).length _
    rw [srt_len]
    exact this

theorem cpt_len (xs : List Int) : (cpt xs).length ≤ xs.length := by
  rw [cpt_eq, List.length_map]
  have := List.length_filter_le (fun j => decide (j = 0 ∨ xs.getD j 0 ≠ xs.getD (j - 1) 0)) (List.range xs.length)
  simpa using this
theorem c_compact {B : Nat} {W : World} (u : Later B W) (xs : List Int) (ad : Option Addr) (cap : Nat) (ho : Own B u.val ad cap xs) :
    Calls Try.prog 177 #[.slice ad xs.length cap] u.val (fun e w' => e = .returned (.slice ad (cpt xs).length cap) ∧ ∃ v : Later B W, w' = v.val ∧ Own B v.val ad cap (cpt xs) ∧ (∀ k, k < u.val.heap.size → (∀ off, ad ≠ some ⟨k, off, none⟩) → v.val.heap[k]? = u.val.heap[k]?)) := by
  rcases ho.open with ⟨rfl, rfl, rfl⟩ | ⟨g, cur, rfl, h1, h2, h3, h4, h5, h6⟩
  · refine (Try.slices_Compact_int_empty none 0 u.val).mono ?_
    rintro e w ⟨rfl, rfl⟩
    exact ⟨rfl, u, rfl, Own.nil _ _, fun k hk _ => rfl⟩
  · have hH := holds_of_blockI (ss := xs) h2 (by simpa using h6)
    have hl := cpt_len xs
    refine (Try.slices_Compact_int g 0 cap xs u.val hH (by unfold maxLen at h4; omega) h3).mono ?_
    rintro e w ⟨rfl, q, rfl⟩
    have hgr := grownBy_sortedI (w := u.val) (g := g) (n := q) (os := #[]) (cpt xs ++ List.replicate (xs.length - (cpt xs).length) 0).toArray
    have hlen : (cpt xs ++ List.replicate (xs.length - (cpt xs).length) 0).length = xs.length := by simp; omega
    have hown := ownsRow_sortedI (n := q) (os := #[]) (ss := xs) (ts := cpt xs ++ List.replicate (xs.length - (cpt xs).length) 0) hlen h1 h2 h3 h4 h5
    have e0 : ∀ w : World, grow w #[] = w := fun w => by simp [grow]
    rw [e0] at hgr hown
    refine ⟨rfl, ⟨_, own_below u.below u.size ho hgr, Nat.le_trans u.size hgr.size⟩, rfl, ?_, fun k hk hne => hgr.block k hk (fun e => hne 0 (by cases e; rfl))⟩
    have h7 : Own B (putRow (Value.int .i64) (Sort.ahead u.val q) g 0 (cpt xs ++ List.replicate (xs.length - (cpt xs).length) 0).toArray) (some ⟨g, 0, none⟩) cap (cpt xs ++ List.replicate (xs.length - (cpt xs).length) 0) := by
      show World.ownsRow _ B 3 1 (.slice _ _ cap) _ _
      rw [hlen]
      exact hown
    exact h7.first

theorem c_clone {B : Nat} {W : World} (u : Later B W) (xs : List Int) (a : Option Addr) (cap : Nat) (h : IntsAt B W a xs) (hlen : xs.length ≤ 17592186044416) :
    Calls Try.prog 176 #[.slice a xs.length cap] u.val (RetOwn B W xs) := by
  cases a with
  | none =>
    have : xs = [] := by
      by_cases e : xs = []
      · exact e
      · obtain ⟨b, off, e2, _⟩ := h e; cases e2
    subst this
    refine (Try.slices_Clone_int_nil 0 cap u.val).mono ?_
    rintro e w ⟨rfl, rfl⟩
    exact RetP.mk u ⟨none, 0, rfl, Own.nil _ _⟩
  | some p =>
    have fin : ∀ (v' : Value) (w' : World), w'.ownsRow u.val.heap.size 3 1 v' xs.length (xs.map (Value.int .i64)) → Below u.val.heap.size u.val w' → RetOwn B W xs (.returned v') w' := by
      intro v' w' ho hb
      have hsz : u.val.heap.size ≤ w'.heap.size := hb.size
      refine ⟨v', rfl, ?_, ⟨w', u.below.trans (hb.mono u.size), Nat.le_trans u.size hsz⟩, rfl⟩
      have ho' := ho
      rcases ho.2 with ⟨e, hn⟩ | ⟨g, c, cur, e, h1, h2, h3, h4, h5, h6⟩
      · subst e
        have : xs = [] := List.length_eq_zero_iff.1 hn
        subst this
        exact ⟨none, 0, rfl, Own.nil _ _⟩
      · subst e
        exact ⟨some ⟨g, 0, none⟩, c, rfl, ho.1, .inr ⟨g, c, cur, rfl, Nat.le_trans u.size h1, h2, h3, h4, h5, h6⟩⟩
    by_cases hx : xs = []
    · subst hx
      refine (Try.slices_Clone_int_zero p cap u.val).mono ?_
      rintro e w ⟨v', rfl, ho, _, hb⟩
      exact fin v' w ho hb
    · obtain ⟨b, off, e2, hbB, hc⟩ := h hx
      simp only [Option.some.injEq] at e2
      subst e2
      refine (Try.slices_Clone_int b off xs.length cap xs u.val (Nat.le_refl _) (by omega) (fun j hj => by rw [u.cell (a := ⟨b, off + j, none⟩) hbB]; exact hc j hj)).mono ?_
      rintro e w ⟨v', rfl, ho, _, hb⟩
      rw [List.take_length] at ho
      exact fin v' w ho hb

end Go.Proofs.Ytjpcelldbhdneaa
