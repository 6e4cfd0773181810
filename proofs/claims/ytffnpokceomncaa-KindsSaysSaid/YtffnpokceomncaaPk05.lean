
/-
  slices.Min, slices.Max of numbers; sub.Least.
  The greatest sets of a kind, gathered in one pass, are those of greatest size. No program in sight.
  rotaref.Induced and its closure.
-/
import Derived.Test.YtffnpokceomncaaPk04
import Derived.Test.YtffnpokceomncaaPk02
namespace Go.Proofs.Ytffnpokceomncaa
open Go.RowKit
set_option linter.unusedVariables false

theorem results_tmp4 {fn : Func} {t u v x : Tmp} (h : fn.results = #[.tmp t, .tmp u, .tmp v, .tmp x]) (tmps : Array Value) (P : Program) (w : World) :
    (results fn tmps).run P w = .ok (.tuple #[tmps.getD t undef, tmps.getD u undef, tmps.getD v undef, tmps.getD x undef]) w := by simp [results, h]

def minTo (l : List Int) : Nat → Int
  | 0 => l.getD 0 0
  | k + 1 => min (minTo l k) (l.getD k 0)
def maxTo (l : List Int) : Nat → Int
  | 0 => l.getD 0 0
  | k + 1 => max (maxTo l k) (l.getD k 0)
def lmin (l : List Int) : Int := minTo l l.length
def lmax (l : List Int) : Int := maxTo l l.length
theorem minTo_one (l : List Int) : minTo l 1 = l.getD 0 0 := by show min _ _ = _; unfold minTo; omega
theorem maxTo_one (l : List Int) : maxTo l 1 = l.getD 0 0 := by show max _ _ = _; unfold maxTo; omega
theorem minTo_le (l : List Int) {k i : Nat} (h : i < k) : minTo l k ≤ l.getD i 0 := by
  induction k with
  | zero => omega
  | succ k ih =>
    show min _ _ ≤ _
    by_cases e : i = k
    · subst e; omega
    · have := ih (by omega); omega
theorem maxTo_ge (l : List Int) {k i : Nat} (h : i < k) : l.getD i 0 ≤ maxTo l k := by
  induction k with
  | zero => omega
  | succ k ih =>
    show _ ≤ max _ _
    by_cases e : i = k
    · subst e; omega
    · have := ih (by omega); omega
theorem minTo_mem (l : List Int) (k : Nat) : ∃ i, (i < k ∨ i = 0) ∧ minTo l k = l.getD i 0 := by
  induction k with
  | zero => exact ⟨0, .inr rfl, rfl⟩
  | succ k ih =>
    obtain ⟨i, hi, e⟩ := ih
    have h : minTo l (k+1) = min (minTo l k) (l.getD k 0) := rfl
    by_cases c : minTo l k ≤ l.getD k 0
    · exact ⟨i, by omega, by omega⟩
    · exact ⟨k, .inl (by omega), by omega⟩
theorem maxTo_mem (l : List Int) (k : Nat) : ∃ i, (i < k ∨ i = 0) ∧ maxTo l k = l.getD i 0 := by
  induction k with
  | zero => exact ⟨0, .inr rfl, rfl⟩
  | succ k ih =>
    obtain ⟨i, hi, e⟩ := ih
    have h : maxTo l (k+1) = max (maxTo l k) (l.getD k 0) := rfl
    by_cases c : l.getD k 0 ≤ maxTo l k
    · exact ⟨i, by omega, by omega⟩
    · exact ⟨k, .inl (by omega), by omega⟩

/-- the least and the greatest set with value v, among the first k -/
def lowTo (f : List Int) (v : Int) (b : Nat) : Nat → Nat
  | 0 => b - 1
  | k + 1 => if f.getD k 0 = v then lowTo f v b k &&& k else lowTo f v b k
def highTo (f : List Int) (v : Int) : Nat → Nat
  | 0 => 0
  | k + 1 => if f.getD k 0 = v then highTo f v k ||| k else highTo f v k
theorem lowTo_le (f : List Int) (v : Int) (b k : Nat) : lowTo f v b k ≤ b - 1 := by
  induction k with
  | zero => exact Nat.le_refl _
  | succ k ih =>
    show (if _ then _ else _) ≤ _
    split
    · exact Nat.le_trans Nat.and_le_left ih
    · exact ih
theorem highTo_lt (f : List Int) (v : Int) (k : Nat) (hk : k ≤ 256) : highTo f v k < 256 := by
  induction k with
  | zero => exact Nat.succ_pos _
  | succ k ih =>
    show (if _ then _ else _ : Nat) < _
    split
    · exact or_lt _ _ (ih (by omega)) (by omega)
    · exact ih (by omega)

end Go.Proofs.Ytffnpokceomncaa

namespace Go.Proofs.Ytffnpokceomncaa
set_option linter.unusedVariables false

/-- the sets and their size behind k sets of the pass; -1: none yet -/
def grow (p : Nat → Bool) : Nat → List Nat × Int
  | 0 => ([], -1)
  | k + 1 => if p k = true ∧ (grow p k).2 ≤ sz k then (if (grow p k).2 < sz k then ([k], (sz k : Int)) else ((grow p k).1 ++ [k], (grow p k).2)) else grow p k
theorem grow_no {p : Nat → Bool} {k : Nat} (h : ¬ (p k = true ∧ (grow p k).2 ≤ sz k)) : grow p (k+1) = grow p k := by
  show (if _ then _ else _) = _
  rw [if_neg h]
theorem grow_new {p : Nat → Bool} {k : Nat} (h : p k = true) (g : (grow p k).2 < sz k) : grow p (k+1) = ([k], (sz k : Int)) := by
  show (if _ then (if _ then _ else _) else _) = _
  rw [if_pos ⟨h, by omega⟩, if_pos g]
theorem grow_more {p : Nat → Bool} {k : Nat} (h : p k = true) (g : (grow p k).2 = sz k) : grow p (k+1) = ((grow p k).1 ++ [k], (grow p k).2) := by
  show (if _ then (if _ then _ else _) else _) = _
  rw [if_pos ⟨h, by omega⟩, if_neg (by omega)]
theorem grow_bound (p : Nat → Bool) (k : Nat) : -1 ≤ (grow p k).2 ∧ (grow p k).2 ≤ 8 ∧ (grow p k).1.length ≤ k := by
  induction k with
  | zero => simp [grow]
  | succ k ih =>
    have := sz_le k
    by_cases h : p k = true ∧ (grow p k).2 ≤ sz k
    · by_cases g : (grow p k).2 < sz k
      · rw [grow_new h.1 g]; simp; omega
      · rw [grow_more h.1 (by omega)]; simp; omega
    · rw [grow_no h]; omega
theorem mostTo_snoc (l : List Nat) (x k : Nat) (h : k ≤ l.length) : mostTo (l ++ [x]) k = mostTo l k := by
  induction k with
  | zero => rfl
  | succ k ih =>
    show max _ _ = max _ _
    rw [ih (by omega)]
    have : (l ++ [x]).getD k 0 = l.getD k 0 := by
      rw [List.getD_eq_getElem?_getD, List.getElem?_append_left (by omega), List.getD_eq_getElem?_getD]
    rw [this]
theorem mostTo_snoc_all (l : List Nat) (x : Nat) : mostTo (l ++ [x]) (l ++ [x]).length = max (mostTo l l.length) (sz x) := by
  have e : (l ++ [x]).length = l.length + 1 := by simp
  rw [e]
  show max _ _ = max _ _
  rw [mostTo_snoc l x _ (Nat.le_refl _)]
  have : (l ++ [x]).getD l.length 0 = x := by simp
  rw [this]
theorem most_ge_mem {l : List Nat} {x : Nat} (h : x ∈ l) : sz x ≤ mostTo l l.length := by
  obtain ⟨i, hi, e⟩ := List.getElem_of_mem h
  have := mostTo_ge l hi
  have e2 : l.getD i 0 = x := by simp [hi, e]
  rw [e2] at this
  exact this
theorem grow_is (p : Nat → Bool) (k : Nat) : (grow p k).1 = biggest (thoseTo p k) ∧ (grow p k).2 = if thoseTo p k = [] then -1 else (mostTo (thoseTo p k) (thoseTo p k).length : Int) := by
  induction k with
  | zero => simp [grow, thoseTo, biggest, biggestTo]
  | succ k ih =>
    obtain ⟨h1, h2⟩ := ih
    by_cases hp : p k = true
    · rw [thoseTo_step, if_pos hp]
      generalize thoseTo p k = l at *
      have hne : l ++ [k] ≠ [] := by simp
      rw [if_neg hne, mostTo_snoc_all, biggest_eq, mostTo_snoc_all, List.filter_append]
      rw [biggest_eq] at h1
      by_cases hl : l = []
      · subst hl
        rw [if_pos rfl] at h2
        rw [grow_new hp (by omega)]
        simp [mostTo]
      · rw [if_neg hl] at h2
        by_cases g1 : (grow p k).2 < sz k
        · rw [grow_new hp g1, show max (mostTo l l.length) (sz k) = sz k by omega]
          refine ⟨?_, rfl⟩
          have : l.filter (fun s => sz s == sz k) = [] := by
            rw [List.filter_eq_nil_iff]
            intro x hx
            have := most_ge_mem hx
            simp; omega
          rw [this]
          simp
        · by_cases g2 : (grow p k).2 = sz k
          · rw [grow_more hp g2, show max (mostTo l l.length) (sz k) = mostTo l l.length by omega]
            refine ⟨?_, h2⟩
            rw [h1]
            have : (sz k == mostTo l l.length) = true := by simp; omega
            simp [this]
          · rw [grow_no (by omega), show max (mostTo l l.length) (sz k) = mostTo l l.length by omega]
            refine ⟨?_, h2⟩
            rw [h1]
            have : (sz k == mostTo l l.length) = false := by simp; omega
            simp [this]
    · rw [grow_no (fun h => hp h.1), thoseTo_step, if_neg hp]
      exact ⟨h1, h2⟩
theorem grow_all (p : Nat → Bool) (m : Nat) : (grow p (bit m)).1 = biggest (those m p) := (grow_is p (bit m)).1

end Go.Proofs.Ytffnpokceomncaa

namespace Go.Proofs.Ytffnpokceomncaa
open Go.RowKit
set_option linter.unusedVariables false

/-- no set within s, from the first on, is greater than the function says -/
def indepTo (f : List Int) (s k : Nat) : Prop := ∀ t, t < k → 1 ≤ t → t ||| s = s → (sz t : Int) ≤ f.getD t 0
instance (f s k) : Decidable (indepTo f s k) := by unfold indepTo; infer_instance
def indep (f : List Int) (s : Nat) : Bool := decide (indepTo f s (s + 1))

end Go.Proofs.Ytffnpokceomncaa
