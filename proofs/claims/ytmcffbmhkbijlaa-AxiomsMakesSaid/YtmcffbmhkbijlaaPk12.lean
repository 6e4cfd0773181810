
/-
  The greatest sets of a kind, gathered in one pass, are those of greatest size. No program in sight.
  slices.Sort, Clone, Compact at []int: the shelf's contracts at this program (printed by lay-shelf.mjs and lay-plain.mjs; numbers by name, so that it serves any seat).
  Rising lists, plainly: a rising list is told by its members; a sorted list without its doubles is the list of all sets that are in it.
-/
import Derived.Test.YtmcffbmhkbijlaaPk02
import Derived.Shelf.Sort.Plain
import Derived.Ground.Names2Prog
import Derived.Shelf.Slices.Clone
import Derived.Shelf.Slices.CompactI
import Derived.Shelf.Slices.In.SortNone
import Derived.Test.YtmcffbmhkbijlaaProg
import Derived.Lib.SlicesCompact
namespace Go.Proofs.Ytmcffbmhkbijlaa
set_option linter.unusedVariables false

/-- the sets and their size behind k sets of the pass; -1: none yet -/
def grow (p : Nat → Bool) : Nat → List Nat × Int
  | 0 => ([], -1)
  | k + 1 => if p k = true ∧ (grow p k).2 ≤ sz k then (if (grow p k).2 < sz k then ([k], (sz k : Int)) else ((grow p k).1 ++ [k], (grow p k).2)) else grow p k
theorem grow_no {p : Nat → Bool} {k : Nat} (h : ¬ (p k = true ∧ (grow p k).2 ≤ sz k)) : grow p (k+1) = grow p k := by
  show (if _ then _ else _) = _
  rw [if_neg h]
theorem grow_new {p : Nat → Bool} {k : Nat} (h : p k = true) (g : (grow p k).2 < sz k) : grow p (k+1) = ([k], (sz k : Int)) := by
  show (if _ then (if _ then _ else _) else _) = _
  rw [if_pos ⟨h, by omega⟩, if_pos g]
theorem grow_more {p : Nat → Bool} {k : Nat} (h : p k = true) (g : (grow p k).2 = sz k) : grow p (k+1) = ((grow p k).1 ++ [k], (grow p k).2) := by
  show (if _ then (if _ then _ else _) else _) = _
  rw [if_pos ⟨h, by omega⟩, if_neg (by omega)]
theorem grow_bound (p : Nat → Bool) (k : Nat) : -1 ≤ (grow p k).2 ∧ (grow p k).2 ≤ 8 ∧ (grow p k).1.length ≤ k := by
  induction k with
  | zero => simp [grow]
  | succ k ih =>
    have := sz_le k
    by_cases h : p k = true ∧ (grow p k).2 ≤ sz k
    · by_cases g : (grow p k).2 < sz k
      · rw [grow_new h.1 g]; simp; omega
      · rw [grow_more h.1 (by omega)]; simp; omega
    · rw [grow_no h]; omega
theorem mostTo_snoc (l : List Nat) (x k : Nat) (h : k ≤ l.length) : mostTo (l ++ [x]) k = mostTo l k := by
  induction k with
  | zero => rfl
  | succ k ih =>
    show max _ _ = max _ _
    rw [ih (by omega)]
    have : (l ++ [x]).getD k 0 = l.getD k 0 := by
      rw [List.getD_eq_getElem?_getD, List.getElem?_append_left (by omega), List.getD_eq_getElem?_getD]
    rw [this]
theorem mostTo_snoc_all (l : List Nat) (x : Nat) : mostTo (l ++ [x]) (l ++ [x]).length = max (mostTo l l.length) (sz x) := by
  have e : (l ++ [x]).length = l.length + 1 := by simp
  rw [e]
  show max _ _ = max _ _
  rw [mostTo_snoc l x _ (Nat.le_refl _)]
  have : (l ++ [x]).getD l.length 0 = x := by simp
  rw [this]
theorem most_ge_mem {l : List Nat} {x : Nat} (h : x ∈ l) : sz x ≤ mostTo l l.length := by
  obtain ⟨i, hi, e⟩ := List.getElem_of_mem h
  have := mostTo_ge l hi
  have e2 : l.getD i 0 = x := by simp [hi, e]
  rw [e2] at this
  exact this
theorem grow_is (p : Nat → Bool) (k : Nat) : (grow p k).1 = biggest (thoseTo p k) ∧ (grow p k).2 = if thoseTo p k = [] then -1 else (mostTo (thoseTo p k) (thoseTo p k).length : Int) := by
  induction k with
  | zero => simp [grow, thoseTo, biggest, biggestTo]
  | succ k ih =>
    obtain ⟨h1, h2⟩ := ih
    by_cases hp : p k = true
    · rw [thoseTo_step, if_pos hp]
      generalize thoseTo p k = l at *
      have hne : l ++ [k] ≠ [] := by simp
      rw [if_neg hne, mostTo_snoc_all, biggest_eq, mostTo_snoc_all, List.filter_append]
      rw [biggest_eq] at h1
      by_cases hl : l = []
      · subst hl
        rw [if_pos rfl] at h2
        rw [grow_new hp (by omega)]
        simp [mostTo]
      · rw [if_neg hl] at h2
        by_cases g1 : (grow p k).2 < sz k
        · rw [grow_new hp g1, show max (mostTo l l.length) (sz k) = sz k by omega]
          refine ⟨?_, rfl⟩
          have : l.filter (fun s => sz s == sz k) = [] := by
            rw [List.filter_eq_nil_iff]
            intro x hx
            have := most_ge_mem hx
            simp; omega
          rw [this]
          simp
        · by_cases g2 : (grow p k).2 = sz k
          · rw [grow_more hp g2, show max (mostTo l l.length) (sz k) = mostTo l l.length by omega]
            refine ⟨?_, h2⟩
            rw [h1]
            have : (sz k == mostTo l l.length) = true := by simp; omega
            simp [this]
          · rw [grow_no (by omega), show max (mostTo l l.length) (sz k) = mostTo l l.length by omega]
            refine ⟨?_, h2⟩
            rw [h1]
            have : (sz k == mostTo l l.length) = false := by simp; omega
            simp [this]
    · rw [grow_no (fun h => hp h.1), thoseTo_step, if_neg hp]
      exact ⟨h1, h2⟩
theorem grow_all (p : Nat → Bool) (m : Nat) : (grow p (bit m)).1 = biggest (those m p) := (grow_is p (bit m)).1

end Go.Proofs.Ytmcffbmhkbijlaa

namespace Go.Proofs
open Go.Shelf
end Go.Proofs

namespace Go.Proofs.Ytmcffbmhkbijlaa
set_option linter.unusedVariables false

theorem pw_ext : ∀ {l1 l2 : List Int}, l1.Pairwise (· < ·) → l2.Pairwise (· < ·) → (∀ x, x ∈ l1 ↔ x ∈ l2) → l1 = l2
  | [], [], _, _, _ => rfl
  | [], b :: s, _, _, h => by have := (h b).2 List.mem_cons_self; cases this
  | a :: t, [], _, _, h => by have := (h a).1 List.mem_cons_self; cases this
  | a :: t, b :: s, h1, h2, h => by
    rw [List.pairwise_cons] at h1 h2
    have hab : a = b := by
      rcases List.mem_cons.1 ((h a).1 List.mem_cons_self) with e | e
      · exact e
      · rcases List.mem_cons.1 ((h b).2 List.mem_cons_self) with g | g
        · exact g.symm
        · have := h2.1 a e
          have := h1.1 b g
          omega
    subst hab
    have ht : t = s := pw_ext h1.2 h2.2 (fun x => by
      constructor
      · intro hx
        rcases List.mem_cons.1 ((h x).1 (List.mem_cons_of_mem _ hx)) with e | e
        · have := h1.1 x hx; omega
        · exact e
      · intro hx
        rcases List.mem_cons.1 ((h x).2 (List.mem_cons_of_mem _ hx)) with e | e
        · have := h2.1 x hx; omega
        · exact e)
    rw [ht]
theorem those_pw (m : Nat) (p : Nat → Bool) : (ints (those m p)).Pairwise (· < ·) := by
  unfold ints those
  rw [List.pairwise_map]
  refine (List.Pairwise.filter p List.pairwise_lt_range).imp ?_
  intro a b h
  omega
/-- sorted, as slices.Sort has it -/
def srt (l : List Int) : List Int := l.mergeSort fun x y => decide (x ≤ y)
theorem srt_len (l : List Int) : (srt l).length = l.length := List.length_mergeSort _
theorem srt_mem {l : List Int} {x : Int} : x ∈ srt l ↔ x ∈ l := List.mem_mergeSort
theorem srt_pw (l : List Int) : (srt l).Pairwise (· ≤ ·) := by
  have h := List.pairwise_mergeSort (le := fun x y : Int => decide (x ≤ y)) (fun a b c h1 h2 => by simp at *; omega) (fun a b => by simp; omega) l
  exact h.imp (fun h => by simpa using h)
/-- without doubles, as slices.Compact has it -/
def cpt (l : List Int) : List Int := Lib.compact l
theorem pw_get {l : List Int} (h : l.Pairwise (· ≤ ·)) {i j : Nat} (hij : i ≤ j) (hj : j < l.length) : l.getD i 0 ≤ l.getD j 0 := by
  by_cases e : i = j
  · subst e; exact Int.le_refl _
  · have := List.pairwise_iff_getElem.1 h i j (by omega) hj (by omega)
    have h1 : l.getD i 0 = l[i] := by simp [show i < l.length by omega]
    have h2 : l.getD j 0 = l[j] := by simp [hj]
    rw [h1, h2]; exact this
theorem arr_get (l : List Int) {i : Nat} (h : i < l.length) : l.toArray[i]! = l.getD i 0 := by
  simp [h]
theorem cpt_eq (l : List Int) : cpt l = ((List.range l.length).filter (fun j => decide (j = 0 ∨ l.getD j 0 ≠ l.getD (j - 1) 0))).map (fun j => l.getD j 0) := by
  unfold cpt Lib.compact Lib.compactUpTo
  have h1 : (List.range l.length).filter (Lib.keeps l.toArray) = (List.range l.length).filter (fun j => decide (j = 0 ∨ l.getD j 0 ≠ l.getD (j - 1) 0)) := List.filter_congr (fun j hj => by
    have hj' : j < l.length := by simpa using hj
    unfold Lib.keeps
    rw [arr_get l hj', arr_get l (show j - 1 < l.length by omega)])
  rw [h1]
  refine List.map_congr_left (fun j hj => ?_)
  have hj' : j < l.length := by
    have := (List.mem_filter.1 hj).1
    simpa using this
  exact arr_get l hj'
theorem cpt_pw {l : List Int} (h : l.Pairwise (· ≤ ·)) : (cpt l).Pairwise (· < ·) := by
  rw [cpt_eq, List.pairwise_map]
  have hp : ((List.range l.length).filter (fun j => decide (j = 0 ∨ l.getD j 0 ≠ l.getD (j - 1) 0))).Pairwise (· < ·) := List.Pairwise.filter _ List.pairwise_lt_range
  refine List.Pairwise.imp_of_mem (fun {a b} ha hb hab => ?_) hp
  have hb1 := List.mem_filter.1 hb
  have hbl : b < l.length := by simpa using hb1.1
  have hbk : b = 0 ∨ l.getD b 0 ≠ l.getD (b - 1) 0 := of_decide_eq_true hb1.2
  have h1 := pw_get h (show a ≤ b - 1 by omega) (by omega)
  have h2 := pw_get h (show b - 1 ≤ b by omega) hbl
  rcases hbk with e | e
  · omega
  · omega
theorem cpt_mem {l : List Int} {x : Int} : x ∈ cpt l ↔ x ∈ l := by
  rw [cpt_eq, List.mem_map]
  constructor
  · rintro ⟨j, hj, rfl⟩
    have hj' : j < l.length := by
      have := (List.mem_filter.1 hj).1
      simpa using this
    simp [hj']
  · intro hx
    -- the first place that holds x
    have key : ∀ n, n ≤ l.length → (∃ j, j < n ∧ l.getD j 0 = x) → ∃ j, j < l.length ∧ l.getD j 0 = x ∧ (j = 0 ∨ l.getD (j - 1) 0 ≠ x) := by
      intro n
      induction n with
      | zero => rintro _ ⟨j, hj, _⟩; omega
      | succ n ih =>
        rintro hn ⟨j, hj, e⟩
        by_cases c : ∃ j, j < n ∧ l.getD j 0 = x
        · exact ih (by omega) c
        · have hjn : j = n := by
            by_cases e2 : j < n
            · exact absurd ⟨j, e2, e⟩ c
            · omega
          subst hjn
          refine ⟨j, by omega, e, ?_⟩
          by_cases e3 : j = 0
          · exact .inl e3
          · exact .inr (fun h => c ⟨j - 1, by omega, h⟩)
    obtain ⟨i, hi, e⟩ := List.getElem_of_mem hx
    obtain ⟨j, h1, h2, h3⟩ := key l.length (Nat.le_refl _) ⟨i, hi, by simp [hi, e]⟩
    refine ⟨j, List.mem_filter.2 ⟨by simpa using h1, decide_eq_true ?_⟩, h2⟩
    rcases h3 with h3 | h3
    · exact .inl h3
    · exact .inr (by rw [h2]; exact fun h => h3 h.symm)
theorem mem_ints2 {l : List Nat} {x : Int} : x ∈ ints l ↔ ∃ n, n ∈ l ∧ x = (n : Int) := by
  unfold ints
  rw [List.mem_map]
  constructor
  · rintro ⟨n, h, rfl⟩; exact ⟨n, h, rfl⟩
  · rintro ⟨n, h, rfl⟩; exact ⟨n, h, rfl⟩
/-- sorted, without doubles: all sets that are in the list -/
theorem cpt_srt {m : Nat} {l : List Nat} (h : ∀ s, s ∈ l → s < bit m) : cpt (srt (ints l)) = ints (those m (fun s => decide (s ∈ l))) := by
  refine pw_ext (cpt_pw (srt_pw _)) (those_pw _ _) (fun x => ?_)
  rw [cpt_mem, srt_mem, mem_ints2, mem_ints2]
  constructor
  · rintro ⟨n, h1, e⟩; exact ⟨n, mem_those.2 ⟨h n h1, by simpa using h1⟩, e⟩
  · rintro ⟨n, h1, e⟩; exact ⟨n, by simpa using (mem_those.1 h1).2, e⟩

end Go.Proofs.Ytmcffbmhkbijlaa
