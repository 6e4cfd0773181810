
/-
  greedy.First; the stable sort of an order by weight; greedy.Best.
-/
import Derived.Test.YtbbhafakjfmpeaaGrC
import Derived.Test.YtbbhafakjfmpeaaCFun
import Derived.BigRegion
namespace Go.Proofs.Ytbbhafakjfmpeaa
open Go.RowKit
set_option linter.unusedVariables false

theorem newTo_step {m : Nat} {p : List Int} {k : Nat} (h : newTo m p k) (h1 : 0 ≤ p.getD k 0 ∧ p.getD k 0 < m) (h2 : (seenTo m p k).testBit (p.getD k 0).toNat = false) : newTo m p (k + 1) := by
  intro j hj
  by_cases c : j = k
  · subst c
    refine ⟨h1.1, h1.2, fun i hi e => ?_⟩
    have := (seenTo_iff (m := m) p j (p.getD j 0).toNat (by omega)).2 ⟨i, hi, by omega⟩
    rw [this] at h2; cases h2
  · exact h j (by omega)
theorem newTo_no {m : Nat} (hm : m ≤ 8) {p : List Int} {k : Nat} (hk : k < p.length) (h : ¬ (0 ≤ p.getD k 0 ∧ p.getD k 0 < m ∧ (seenTo m p k).testBit (p.getD k 0).toNat = false)) : ¬ isOrd m p := fun hc => by
  obtain ⟨hl, hn⟩ := (isOrd_iff hm).1 hc
  have h1 := hn k (by omega)
  refine h ⟨h1.1, h1.2.1, ?_⟩
  rw [Bool.eq_false_iff]
  intro hb
  obtain ⟨j, hj, e⟩ := (seenTo_iff (m := m) p k (p.getD k 0).toNat (by omega)).1 hb
  exact h1.2.2 j hj (by omega)

def frsE (m : Nat) (p : List Int) : Int := if isOrd m p then 0 else 1
def frsV (m : Nat) (L : List Nat) (p : List Int) : Nat := if isOrd m p then takTo L (toN p) m else 0

end Go.Proofs.Ytbbhafakjfmpeaa
