
/-
  slices.Compare; rotaref.Greedy; greedy.First.
-/
import Derived.Test.YtbbhafakjfmpeaaGrB
import Derived.Test.YtbbhafakjfmpeaaRowL
namespace Go.Proofs.Ytbbhafakjfmpeaa
open Go.RowKit
set_option linter.unusedVariables false

theorem lexc_at {x y : List Int} {k : Nat} (hx : k < x.length) (hy : k < y.length) : lexc (x.drop k) (y.drop k) = if x.getD k 0 < y.getD k 0 then -1 else if y.getD k 0 < x.getD k 0 then 1 else lexc (x.drop (k + 1)) (y.drop (k + 1)) := by
  have e1 : x.getD k 0 = x[k] := by simp [hx]
  have e2 : y.getD k 0 = y[k] := by simp [hy]
  rw [List.drop_eq_getElem_cons hx, List.drop_eq_getElem_cons hy, e1, e2]
  rfl
theorem lexc_more {x y : List Int} {k : Nat} (hx : k < x.length) (hy : y.length ≤ k) : lexc (x.drop k) (y.drop k) = 1 := by
  rw [List.drop_eq_getElem_cons hx, List.drop_eq_nil_iff.2 hy]
  rfl
theorem lexc_less {x y : List Int} {k : Nat} (hx : x.length ≤ k) (hy : k < y.length) : lexc (x.drop k) (y.drop k) = -1 := by
  rw [List.drop_eq_getElem_cons hy, List.drop_eq_nil_iff.2 hx]
  rfl
theorem lexc_both {x y : List Int} {k : Nat} (hx : x.length ≤ k) (hy : y.length ≤ k) : lexc (x.drop k) (y.drop k) = 0 := by
  rw [List.drop_eq_nil_iff.2 hy, List.drop_eq_nil_iff.2 hx]
  rfl
def cmpI (x y : Int) : Int := if x < y then -1 else if y < x then 1 else 0

set_option maxRecDepth 100000 in
set_option maxHeartbeats 4000000 in
theorem c_cmpCompare {B : Nat} {W : World} (u : Later B W) (x y : Int) :
    Calls Try.prog 20 #[.int .i64 x, .int .i64 y] u.val (Ret B W (.int .i64 (cmpI x y))) := by
  have H := Lib.hid (fun (u : Later B W) x => c_cmpIsNaN u x)
  have HC : Hid (cmpI x y = if x < y then -1 else if y < x then 1 else 0) := Lib.hid rfl
  generalize cmpI x y = r at *
  rcases ilt x y with ⟨g1, d1⟩ | ⟨g1, d1⟩
  · have hr : Hid (r = -1) := Lib.hid (by rw [HC.out, if_pos g1])
    clear HC g1
    go_enter Try.func20, Try.ntmps20
    go_wp2_with (first | (go_at_call 25; refine (H.out _ _).mono ?_; rintro e _ ⟨rfl, v, rfl⟩))
    go_ret
    exact Ret.mk _ (vint hr.out.symm)
  · rcases ilt y x with ⟨g2, d2⟩ | ⟨g2, d2⟩
    · have hr : Hid (r = 1) := Lib.hid (by rw [HC.out, if_neg (by omega), if_pos g2])
      clear HC g1 g2
      go_enter Try.func20, Try.ntmps20
      go_wp2_with (first | (go_at_call 25; refine (H.out _ _).mono ?_; rintro e _ ⟨rfl, v, rfl⟩))
      go_ret
      exact Ret.mk _ (vint hr.out.symm)
    · have hr : Hid (r = 0) := Lib.hid (by rw [HC.out, if_neg (by omega), if_neg (by omega)])
      clear HC g1 g2
      go_enter Try.func20, Try.ntmps20
      go_wp2_with (first | (go_at_call 25; refine (H.out _ _).mono ?_; rintro e _ ⟨rfl, v, rfl⟩))
      go_ret
      exact Ret.mk _ (vint hr.out.symm)

end Go.Proofs.Ytbbhafakjfmpeaa
