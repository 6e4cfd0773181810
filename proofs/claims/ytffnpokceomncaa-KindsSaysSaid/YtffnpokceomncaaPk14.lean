
/-
  rotaref.Ranks.
  rotaref.Matroid.
  greedy.basis, greedy.two.
-/
import Derived.Test.YtffnpokceomncaaPk13
import Derived.Test.YtffnpokceomncaaPk08
import Derived.IntWalk
namespace Go.Proofs.Ytffnpokceomncaa
open Go.RowKit
set_option linter.unusedVariables false

/-- the table of ranks behind s sets and k bases of the next one -/
def rkT (L : List Nat) (s k : Nat) (j : Nat) : Int := if j < s then (rk L j : Int) else if j = s then (rkTo L s k : Int) else 0
theorem rkT_at (L : List Nat) (s k : Nat) : rkT L s k s = (rkTo L s k : Int) := by simp [rkT]
theorem rkT_start (L : List Nat) (j : Nat) : rkT L 0 0 j = 0 := by simp [rkT, rkTo]
theorem rkT_next (L : List Nat) (s j : Nat) : rkT L s L.length j = rkT L (s+1) 0 j := by
  unfold rkT
  by_cases h1 : j < s
  · rw [if_pos h1, if_pos (by omega)]
  · by_cases h2 : j = s
    · rw [if_neg h1, if_pos h2, if_pos (by omega), h2]; rfl
    · rw [if_neg h1, if_neg h2, if_neg (by omega)]
      split
      · rfl
      · rfl
def rkL (m : Nat) (L : List Nat) : List Int := tabL (bit m) (fun j => (rk L j : Int))
theorem rkTo_le8 (L : List Nat) (s k : Nat) : rkTo L s k ≤ 8 := by
  rcases rkTo_at L s k with h | ⟨i, _, h⟩
  · omega
  · rw [h]; exact sz_le _

end Go.Proofs.Ytffnpokceomncaa

namespace Go.Proofs.Ytffnpokceomncaa
open Go.RowKit
set_option linter.unusedVariables false

def subAt (r : Nat → Nat) (s i k : Nat) : Prop := r ((s ||| bit i) ||| (s ||| bit k)) + r ((s ||| bit i) &&& (s ||| bit k)) ≤ r (s ||| bit i) + r (s ||| bit k)
theorem rk_le8 (L : List Nat) (s : Nat) : rk L s ≤ 8 := rkTo_le8 L s L.length

end Go.Proofs.Ytffnpokceomncaa

namespace Go.Proofs.Ytffnpokceomncaa
open Go.RowKit
set_option linter.unusedVariables false

theorem MatIs.zero {n : Int} {l : List Int} (h : MatIs n l 0) : okM n l ∧ Exch (toN l) := by
  by_cases hk : okM n l
  · by_cases hx : Exch (toN l)
    · exact ⟨hk, hx⟩
    · have := h.2.1 hk hx; omega
  · have := h.1 hk; omega

/-- what greedy.two answers -/
def twoE (l : List Int) (e A B : Int) : Int := if e = 0 then (if A ∈ l ∧ B ∈ l then 0 else 1) else e

end Go.Proofs.Ytffnpokceomncaa
