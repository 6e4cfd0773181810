
/-
  rotaref.Slower and sub.Check, the walks.
  slices.Min, slices.Max of numbers; sub.Least.
  rotaref.Induced and its closure.
-/
import Derived.Test.YtmcffbmhkbijlaaPk23
import Derived.Test.YtmcffbmhkbijlaaPk12
namespace Go.Proofs.Ytmcffbmhkbijlaa
open Go.RowKit
set_option linter.unusedVariables false

theorem isFun.bound {n : Int} {f : List Int} (h : isFun n f) (i : Nat) : -1000 ≤ f.getD i 0 ∧ f.getD i 0 ≤ 1000 := by
  by_cases hi : i < f.length
  · exact h.2.2.2.2 i hi
  · have : f.getD i 0 = 0 := by simp [Nat.le_of_not_lt hi]
    rw [this]; omega

end Go.Proofs.Ytmcffbmhkbijlaa

namespace Go.Proofs.Ytmcffbmhkbijlaa
open Go.RowKit
set_option linter.unusedVariables false

theorem results_tmp4 {fn : Func} {t u v x : Tmp} (h : fn.results = #[.tmp t, .tmp u, .tmp v, .tmp x]) (tmps : Array Value) (P : Program) (w : World) :
    (results fn tmps).run P w = .ok (.tuple #[tmps.getD t undef, tmps.getD u undef, tmps.getD v undef, tmps.getD x undef]) w := by simp [results, h]

def minTo (l : List Int) : Nat → Int
  | 0 => l.getD 0 0
  | k + 1 => min (minTo l k) (l.getD k 0)
def maxTo (l : List Int) : Nat → Int
  | 0 => l.getD 0 0
  | k + 1 => max (maxTo l k) (l.getD k 0)
def lmin (l : List Int) : Int := minTo l l.length
def lmax (l : List Int) : Int := maxTo l l.length
theorem minTo_one (l : List Int) : minTo l 1 = l.getD 0 0 := by show min _ _ = _; unfold minTo; omega
theorem maxTo_one (l : List Int) : maxTo l 1 = l.getD 0 0 := by show max _ _ = _; unfold maxTo; omega
theorem minTo_le (l : List Int) {k i : Nat} (h : i < k) : minTo l k ≤ l.getD i 0 := by
  induction k with
  | zero => omega
  | succ k ih =>
    show min _ _ ≤ _
    by_cases e : i = k
    · subst e; omega
    · have := ih (by omega); omega
theorem maxTo_ge (l : List Int) {k i : Nat} (h : i < k) : l.getD i 0 ≤ maxTo l k := by
  induction k with
  | zero => omega
  | succ k ih =>
    show _ ≤ max _ _
    by_cases e : i = k
    · subst e; omega
    · have := ih (by omega); omega
theorem minTo_mem (l : List Int) (k : Nat) : ∃ i, (i < k ∨ i = 0) ∧ minTo l k = l.getD i 0 := by
  induction k with
  | zero => exact ⟨0, .inr rfl, rfl⟩
  | succ k ih =>
    obtain ⟨i, hi, e⟩ := ih
    have h : minTo l (k+1) = min (minTo l k) (l.getD k 0) := rfl
    by_cases c : minTo l k ≤ l.getD k 0
    · exact ⟨i, by omega, by omega⟩
    · exact ⟨k, .inl (by omega), by omega⟩
theorem maxTo_mem (l : List Int) (k : Nat) : ∃ i, (i < k ∨ i = 0) ∧ maxTo l k = l.getD i 0 := by
  induction k with
  | zero => exact ⟨0, .inr rfl, rfl⟩
  | succ k ih =>
    obtain ⟨i, hi, e⟩ := ih
    have h : maxTo l (k+1) = max (maxTo l k) (l.getD k 0) := rfl
    by_cases c : l.getD k 0 ≤ maxTo l k
    · exact ⟨i, by omega, by omega⟩
    · exact ⟨k, .inl (by omega), by omega⟩

/-- the least and the greatest set with value v, among the first k -/
def lowTo (f : List Int) (v : Int) (b : Nat) : Nat → Nat
  | 0 => b - 1
  | k + 1 => if f.getD k 0 = v then lowTo f v b k &&& k else lowTo f v b k
def highTo (f : List Int) (v : Int) : Nat → Nat
  | 0 => 0
  | k + 1 => if f.getD k 0 = v then highTo f v k ||| k else highTo f v k
theorem lowTo_le (f : List Int) (v : Int) (b k : Nat) : lowTo f v b k ≤ b - 1 := by
  induction k with
  | zero => exact Nat.le_refl _
  | succ k ih =>
    show (if _ then _ else _) ≤ _
    split
    · exact Nat.le_trans Nat.and_le_left ih
    · exact ih
theorem highTo_lt (f : List Int) (v : Int) (k : Nat) (hk : k ≤ 256) : highTo f v k < 256 := by
  induction k with
  | zero => exact Nat.succ_pos _
  | succ k ih =>
    show (if _ then _ else _ : Nat) < _
    split
    · exact or_lt _ _ (ih (by omega)) (by omega)
    · exact ih (by omega)

end Go.Proofs.Ytmcffbmhkbijlaa

namespace Go.Proofs.Ytmcffbmhkbijlaa
open Go.RowKit
set_option linter.unusedVariables false

/-- no set within s, from the first on, is greater than the function says -/
def indepTo (f : List Int) (s k : Nat) : Prop := ∀ t, t < k → 1 ≤ t → t ||| s = s → (sz t : Int) ≤ f.getD t 0
instance (f s k) : Decidable (indepTo f s k) := by unfold indepTo; infer_instance
def indep (f : List Int) (s : Nat) : Bool := decide (indepTo f s (s + 1))

end Go.Proofs.Ytmcffbmhkbijlaa
