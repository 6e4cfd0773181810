
/-
  Contracts: BinarySearch over a rising list, has, basis (is a number in a rising list?); of the law's own small helpers, where they answer true: Same, list, one; bad.
-/
import Derived.Test.YtpfhgklajaigfaaDoorFam
namespace Go.Proofs.YtpfhgklajaigfaaDoor
open Go.RowKit
set_option linter.unusedVariables false

def rising (l : List Int) : Prop := ∀ i j, i < j → j < l.length → l.getD i 0 < l.getD j 0
theorem famTo.rising {n l} (h : famTo n l l.length) : rising l := by
  intro i j hij hj
  induction j with
  | zero => omega
  | succ j ih =>
    have h1 := (h (j+1) hj).2.2 (by omega)
    simp only [Nat.add_sub_cancel] at h1
    by_cases e : i = j
    · subst e; exact h1
    · have := ih (by omega) (by omega); omega

theorem bs_found {l : List Int} {v : Int} {i : Nat} (hi : i < l.length) (he : l.getD i 0 = v) : v ∈ l := by rw [← he]; simp [hi]
theorem bs_not {l : List Int} {v : Int} {i : Nat} (h1 : ∀ a, a < i → l.getD a 0 < v) (h2 : ∀ a, i ≤ a → a < l.length → v ≤ l.getD a 0) (hs : rising l) (hne : i < l.length → l.getD i 0 ≠ v) : v ∉ l := by
  intro hm
  obtain ⟨a, ha, e⟩ := List.getElem_of_mem hm
  have e' : l.getD a 0 = v := by simp [ha, e]
  by_cases c : a < i
  · have := h1 a c; omega
  · by_cases c2 : a = i
    · subst c2; exact hne ha e'
    · have := hs i a (by omega) ha
      have := h2 i (by omega) (by omega)
      omega

/-- what BinarySearch says: some place, and whether it is there -/
def bsPost (l : List Int) (v : Int) (x : Value) (_ : World) : Prop := ∃ i : Int, x = .tuple #[.int .i64 i, .bool (decide (v ∈ l))]
theorem bsPost.mk {l : List Int} {v i : Int} {b : Bool} {w : World} (h : b = decide (v ∈ l)) : bsPost l v (.tuple #[.int .i64 i, .bool b]) w := ⟨i, by rw [h]⟩


/-! ### the law's own helpers, where they answer true -/
set_option maxHeartbeats 400000 in
theorem c_bad {B : Nat} {W : World} (u : Later B W) (ok : Bool) (e : Int) : Calls Tryd.prog 4 #[.bool ok, .int .i64 e] u.val (Ret B W (.int .i64 (errno ok e))) := by
  cases ok
  all_goals
    go_enter Tryd.func4, Tryd.ntmps4
    go_wp2
    go_ret
    exact Ret.mk u rfl

end Go.Proofs.YtpfhgklajaigfaaDoor
