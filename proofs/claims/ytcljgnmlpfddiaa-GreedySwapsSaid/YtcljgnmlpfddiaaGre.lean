/-
  greedy.basis, greedy.two.
-/
import Derived.Test.YtcljgnmlpfddiaaRMat
namespace Go.Proofs.Ytcljgnmlpfddiaa
open Go.RowKit
set_option linter.unusedVariables false

theorem MatIs.zero {n : Int} {l : List Int} (h : MatIs n l 0) : okM n l ∧ Exch (toN l) := by
  by_cases hk : okM n l
  · by_cases hx : Exch (toN l)
    · exact ⟨hk, hx⟩
    · have := h.2.1 hk hx; omega
  · have := h.1 hk; omega

set_option maxRecDepth 100000 in
set_option maxHeartbeats 2000000 in
theorem c_greedyBasis {B : Nat} {W : World} (u : Later B W) (n s : Int) (l : List Int) (a : Option Addr) (cap : Nat) (h : IntsAt B W a l) (hlen : l.length ≤ 4611686018427387904) (hr : rising l) :
    Calls Try.prog 135 #[.agg #[.int .i64 n, .slice a l.length cap], .int .i64 s] u.val (Ret B W (.bool (decide (s ∈ l)))) := by
  have KB : Hid (Calls Try.prog 149 #[.slice a l.length cap, .int .i64 s] (u.val.alloc (.cells #[.int .i64 n, .slice a l.length cap] 60)) (RetP B W (bsPost l s))) := Lib.hid (c_bsearch (u.alloc (.cells #[.int .i64 n, .slice a l.length cap] 60)) l s a cap h hlen hr)
  clear h
  go_enter Try.func135, Try.ntmps135
  go_wp2_with (first | (go_at_call 149; refine (KB.out).mono ?_; rintro e _ ⟨_, rfl, ⟨iz, rfl⟩, y2, rfl⟩))
  go_ret
  exact Ret.mk y2 rfl

/-- what greedy.two answers -/
def twoE (l : List Int) (e A B : Int) : Int := if e = 0 then (if A ∈ l ∧ B ∈ l then 0 else 1) else e

set_option maxRecDepth 100000 in
set_option maxHeartbeats 2000000 in
theorem c_greedyTwo {B : Nat} {W : World} (u : Later B W) (n : Int) (l : List Int) (a : Option Addr) (cap : Nat) (e x y : Int) (h : IntsAt B W a l) (hlen : l.length ≤ 4611686018427387904) (he : MatIs n l e) :
    Calls Try.prog 133 #[.agg #[.int .i64 n, .slice a l.length cap], .int .i64 x, .int .i64 y] u.val (Ret B W (.int .i64 (twoE l e x y))) := by
  have T0 : Hid (Two (u.val.alloc (.cells #[.int .i64 n, .slice a l.length cap] 60)) u.val.heap.size 60 (.int .i64 n) (.slice a l.length cap)) := Lib.hid (Two.new _ _ _ _)
  have hI : IntsAt (u.val.alloc (.cells #[.int .i64 n, .slice a l.length cap] 60)).heap.size (u.val.alloc (.cells #[.int .i64 n, .slice a l.length cap] 60)) a l := h.to (u.alloc _)
  have HV : Hid (∀ v : Later (u.val.alloc (.cells #[.int .i64 n, .slice a l.length cap] 60)).heap.size (u.val.alloc (.cells #[.int .i64 n, .slice a l.length cap] 60)), ∃ w : Later B W, w.val = v.val) := Lib.hid (fun v => ⟨(u.alloc _).up v, rfl⟩)
  have q0 : ∀ w : Later (u.val.alloc (.cells #[.int .i64 n, .slice a l.length cap] 60)).heap.size (u.val.alloc (.cells #[.int .i64 n, .slice a l.length cap] 60)), w.val.cell? ⟨u.val.heap.size, 0, none⟩ = some (.int .i64 n) := fun w => (T0.out.keep w.below).c0
  have q1 : ∀ w : Later (u.val.alloc (.cells #[.int .i64 n, .slice a l.length cap] 60)).heap.size (u.val.alloc (.cells #[.int .i64 n, .slice a l.length cap] 60)), w.val.cell? ⟨u.val.heap.size, 1, none⟩ = some (.slice a l.length cap) := fun w => (T0.out.keep w.below).c1
  have KC : Hid (Calls Try.prog 136 #[.agg #[.int .i64 n, .slice a l.length cap]] (u.val.alloc (.cells #[.int .i64 n, .slice a l.length cap] 60)) (Ret (u.val.alloc (.cells #[.int .i64 n, .slice a l.length cap] 60)).heap.size (u.val.alloc (.cells #[.int .i64 n, .slice a l.length cap] 60)) (.int .i64 e))) := Lib.hid (c_axCheck (Later.self _) n l a cap e hI hlen he)
  clear h T0
  rcases ieq e 0 with ⟨g, d1, d2⟩ | ⟨g, d1, d2⟩
  case inr =>
    have ht : twoE l e x y = e := by unfold twoE; rw [if_neg g]
    rw [ht]
    clear ht he hI g
    go_enter Try.func133, Try.ntmps133
    go_wp2_with (first | (go_at_call 136; refine (KC.out).mono ?_; rintro e _ ⟨rfl, v1, rfl⟩))
    go_ret
    exact Ret.of (HV.out v1) rfl
  subst g
  have hr : rising l := he.zero.1.1.2.2.rising
  have KB := Lib.hid (fun (v : Later (u.val.alloc (.cells #[.int .i64 n, .slice a l.length cap] 60)).heap.size (u.val.alloc (.cells #[.int .i64 n, .slice a l.length cap] 60))) (s : Int) => c_greedyBasis v n s l a cap hI hlen hr)
  have HT : Hid (twoE l 0 x y = if x ∈ l ∧ y ∈ l then 0 else 1) := Lib.hid (by unfold twoE; rw [if_pos rfl])
  generalize twoE l 0 x y = r at *
  clear hr he hI
  by_cases hx : x ∈ l
  · have K1 := Lib.hid (fun v => dcall_t (KB.out v x) hx)
    by_cases hy : y ∈ l
    · have K2 := Lib.hid (fun v => dcall_t (KB.out v y) hy)
      have hr0 : r = 0 := by rw [HT.out, if_pos ⟨hx, hy⟩]
      subst hr0
      clear hx hy KB HT
      go_enter Try.func133, Try.ntmps133
      go_wp2_with (first | (go_at_call 136; refine (KC.out).mono ?_; rintro e _ ⟨rfl, v1, rfl⟩) | (go_at_call 135; ((with_reducible refine (K1.out _).mono ?_); rintro e _ ⟨rfl, v1, rfl⟩)) | (go_at_call 135; ((with_reducible refine (K2.out _).mono ?_); rintro e _ ⟨rfl, v1, rfl⟩)))
      go_ret
      exact Ret.of (HV.out v1) rfl
    · have K2 := Lib.hid (fun v => dcall_f (KB.out v y) hy)
      have hr0 : r = 1 := by rw [HT.out, if_neg (fun h => hy h.2)]
      subst hr0
      clear hx hy KB HT
      go_enter Try.func133, Try.ntmps133
      go_wp2_with (first | (go_at_call 136; refine (KC.out).mono ?_; rintro e _ ⟨rfl, v1, rfl⟩) | (go_at_call 135; ((with_reducible refine (K1.out _).mono ?_); rintro e _ ⟨rfl, v1, rfl⟩)) | (go_at_call 135; ((with_reducible refine (K2.out _).mono ?_); rintro e _ ⟨rfl, v1, rfl⟩)))
      go_ret
      exact Ret.of (HV.out v1) rfl
  · have K1 := Lib.hid (fun v => dcall_f (KB.out v x) hx)
    have hr0 : r = 1 := by rw [HT.out, if_neg (fun h => hx h.1)]
    subst hr0
    clear hx KB HT
    go_enter Try.func133, Try.ntmps133
    go_wp2_with (first | (go_at_call 136; refine (KC.out).mono ?_; rintro e _ ⟨rfl, v1, rfl⟩) | (go_at_call 135; ((with_reducible refine (K1.out _).mono ?_); rintro e _ ⟨rfl, v1, rfl⟩)))
    go_ret
    exact Ret.of (HV.out v1) rfl

end Go.Proofs.Ytcljgnmlpfddiaa
