
/-
  field.Determinant of what is no square; field.Times.
-/
import Derived.Test.YtffnpokceomncaaFmD
import Derived.Test.YtffnpokceomncaaPush
namespace Go.Proofs.Ytffnpokceomncaa
open Go.RowKit
set_option linter.unusedVariables false

set_option maxRecDepth 100000 in
set_option maxHeartbeats 8000000 in
theorem c_fieldDet_no {B : Nat} {W : World} (u : Later B W) (p c : Int) (rows : Lls) (a : Option Addr) (cap : Nat) (h : RowsI B W a rows) (hlen : rows.length ≤ 17592186044416) (hrl : ∀ i, i < rows.length → (rows.getD i []).length ≤ 17592186044416) (e : Int)
    (he : (¬ isMatrix p c rows ∧ e = 1) ∨ (isMatrix p c rows ∧ (rows.length : Int) ≠ c ∧ e = 3)) :
    Calls Try.prog 6 #[.agg #[.int .i64 p, .int .i64 c, .slice a rows.length cap]] u.val (Ret B W (.tuple #[.int .i64 0, .int .i64 e])) := by
  have T0 : Hid (RowL (u.val.alloc (.cells #[.int .i64 p, .int .i64 c, .slice a rows.length cap] 24)) u.val.heap.size 24 [.int .i64 p, .int .i64 c, .slice a rows.length cap]) := Lib.hid (RowL.new _ _ _)
  have HV : Hid (∀ v : Later (u.val.alloc (.cells #[.int .i64 p, .int .i64 c, .slice a rows.length cap] 24)).heap.size (u.val.alloc (.cells #[.int .i64 p, .int .i64 c, .slice a rows.length cap] 24)), ∃ w : Later B W, w.val = v.val) := Lib.hid (fun v => ⟨(u.alloc _).up v, rfl⟩)
  have KC := Lib.hid (c_checkMatrix (Later.self (u.val.alloc (.cells #[.int .i64 p, .int .i64 c, .slice a rows.length cap] 24))) p c rows a cap (h.to (u.alloc _)) hlen hrl)
  dsimp only [Later.self] at KC
  have HE := Lib.hid he
  clear h hrl he
  rcases HE.out with ⟨hn, rfl⟩ | ⟨hm, hne, rfl⟩
  · rw [decide_eq_false hn] at KC
    have KC2 : Hid (Calls Try.prog 32 #[.agg #[.int .i64 p, .int .i64 c, .slice a rows.length cap]] (u.val.alloc (.cells #[.int .i64 p, .int .i64 c, .slice a rows.length cap] 24)) (Ret (u.val.alloc (.cells #[.int .i64 p, .int .i64 c, .slice a rows.length cap] 24)).heap.size (u.val.alloc (.cells #[.int .i64 p, .int .i64 c, .slice a rows.length cap] 24)) (.int .i64 1))) := KC
    clear KC hn HE
    go_enter Try.func6, Try.ntmps6
    go_upto_region 1 with fail
    generalize (u.val.alloc (.cells #[.int .i64 p, .int .i64 c, .slice a rows.length cap] 24)) = X1 at *
    generalize u.val.heap.size = g0 at *
    have q0 : X1.cell? ⟨g0, 0, none⟩ = some (.int .i64 p) := T0.out.cell rfl
    have q1 : X1.cell? ⟨g0, 1, none⟩ = some (.int .i64 c) := T0.out.cell rfl
    have q2 : X1.cell? ⟨g0, 2, none⟩ = some (.slice a rows.length cap) := T0.out.cell rfl
    go_wp2_with (first | (go_at_call 32; (with_reducible refine (KC2.out).mono ?_); rintro e _ ⟨rfl, v1, rfl⟩) | fail)
    go_ret2
    obtain ⟨w, hw⟩ := HV.out v1
    exact Ret.of ⟨w, hw⟩ rfl
  · rw [decide_eq_true hm] at KC
    have KC2 : Hid (Calls Try.prog 32 #[.agg #[.int .i64 p, .int .i64 c, .slice a rows.length cap]] (u.val.alloc (.cells #[.int .i64 p, .int .i64 c, .slice a rows.length cap] 24)) (Ret (u.val.alloc (.cells #[.int .i64 p, .int .i64 c, .slice a rows.length cap] 24)).heap.size (u.val.alloc (.cells #[.int .i64 p, .int .i64 c, .slice a rows.length cap] 24)) (.int .i64 0))) := KC
    have f1 : ((rows.length : Int) != c) = true := by rw [bne_iff_ne]; exact hne
    clear KC hm HE
    go_enter Try.func6, Try.ntmps6
    go_upto_region 1 with fail
    generalize (u.val.alloc (.cells #[.int .i64 p, .int .i64 c, .slice a rows.length cap] 24)) = X1 at *
    generalize u.val.heap.size = g0 at *
    have q0 : ∀ w : Later X1.heap.size X1, w.val.cell? ⟨g0, 0, none⟩ = some (.int .i64 p) := fun w => (T0.out.keep w.below).cell rfl
    have q1 : ∀ w : Later X1.heap.size X1, w.val.cell? ⟨g0, 1, none⟩ = some (.int .i64 c) := fun w => (T0.out.keep w.below).cell rfl
    have q2 : ∀ w : Later X1.heap.size X1, w.val.cell? ⟨g0, 2, none⟩ = some (.slice a rows.length cap) := fun w => (T0.out.keep w.below).cell rfl
    have q0x := q0 (Later.self X1)
    have q1x := q1 (Later.self X1)
    have q2x := q2 (Later.self X1)
    dsimp only [Later.self] at q0x q1x q2x
    go_wp2_with (first | (go_at_call 32; (with_reducible refine (KC2.out).mono ?_); rintro e _ ⟨rfl, v1, rfl⟩; have q1a := q1 v1; have q2a := q2 v1) | fail)
    go_ret2
    obtain ⟨w, hw⟩ := HV.out v1
    exact Ret.of ⟨w, hw⟩ rfl

/-- what Times adds up -/
def prT (X Y : Nat → Nat → Int) (i j k : Nat) : Int := isum (fun l => X i l * Y l j) k
theorem prT_step (p : Nat) (X Y : Nat → Nat → Int) (i j k : Nat) : (prT X Y i j k % (p : Int) + X i k * Y k j) % (p : Int) = prT X Y i j (k + 1) % (p : Int) := by
  unfold prT
  simp only [isum]
  exact ((Cg.mod (p := p) _).add (Cg.refl _))

end Go.Proofs.Ytffnpokceomncaa
