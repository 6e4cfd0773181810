
/-
  greedy.taken, greedy.sum, rotaref.Weighs.
  slices.Compare; rotaref.Greedy; greedy.First.
-/
import Derived.Test.YtnhpefcjgaimeaaPk38
import Derived.IntWalk
import Derived.Test.YtnhpefcjgaimeaaPk26
namespace Go.Proofs.Ytnhpefcjgaimeaa
open Go.RowKit
set_option linter.unusedVariables false

theorem shr_andG (x k : Nat) (hx : x < 256) : bits .and .i64 ((x : Int) / 2 ^ k) 1 = (((x.testBit k).toNat : Nat) : Int) := by
  have e1 : ((x : Int) / 2 ^ k) = ((x / 2 ^ k : Nat) : Int) := by simp
  have h1 : x / 2 ^ k ≤ x := Nat.div_le_self _ _
  rw [e1]
  have := i64_and (x / 2 ^ k) 1 (by omega) (by omega)
  rw [show ((1 : Nat) : Int) = 1 from rfl] at this
  rw [this, Nat.and_one_is_mod, Nat.toNat_testBit]

end Go.Proofs.Ytnhpefcjgaimeaa

namespace Go.Proofs.Ytnhpefcjgaimeaa
open Go.RowKit
set_option linter.unusedVariables false

theorem lexc_at {x y : List Int} {k : Nat} (hx : k < x.length) (hy : k < y.length) : lexc (x.drop k) (y.drop k) = if x.getD k 0 < y.getD k 0 then -1 else if y.getD k 0 < x.getD k 0 then 1 else lexc (x.drop (k + 1)) (y.drop (k + 1)) := by
  have e1 : x.getD k 0 = x[k] := by simp [hx]
  have e2 : y.getD k 0 = y[k] := by simp [hy]
  rw [List.drop_eq_getElem_cons hx, List.drop_eq_getElem_cons hy, e1, e2]
  rfl
theorem lexc_more {x y : List Int} {k : Nat} (hx : k < x.length) (hy : y.length ≤ k) : lexc (x.drop k) (y.drop k) = 1 := by
  rw [List.drop_eq_getElem_cons hx, List.drop_eq_nil_iff.2 hy]
  rfl
theorem lexc_less {x y : List Int} {k : Nat} (hx : x.length ≤ k) (hy : k < y.length) : lexc (x.drop k) (y.drop k) = -1 := by
  rw [List.drop_eq_getElem_cons hy, List.drop_eq_nil_iff.2 hx]
  rfl
theorem lexc_both {x y : List Int} {k : Nat} (hx : x.length ≤ k) (hy : y.length ≤ k) : lexc (x.drop k) (y.drop k) = 0 := by
  rw [List.drop_eq_nil_iff.2 hy, List.drop_eq_nil_iff.2 hx]
  rfl
def cmpI (x y : Int) : Int := if x < y then -1 else if y < x then 1 else 0

end Go.Proofs.Ytnhpefcjgaimeaa
