
/-
  convex.Ordered where the input is bad.
-/
import Derived.Test.YtdhkobeagfmcnaaDoorCvG
namespace Go.Proofs.YtdhkobeagfmcnaaDoor
open Go.RowKit
set_option linter.unusedVariables false

set_option maxRecDepth 100000 in
set_option maxHeartbeats 4000000 in
theorem c_convexOrdered_n {B : Nat} {W : World} (u : Later B W) (n : Int) (h : ¬ (0 ≤ n ∧ n ≤ 8)) (a : Option Addr) (q cap : Nat) :
    Calls Tryd.prog 11 #[.int .i64 n, .slice a q cap] u.val (Ret B W (.tuple #[.slice none 0 0, .int .i64 1])) := by
  rcases ilt n 0 with ⟨g1, d1⟩ | ⟨g1, d1⟩
  · clear h
    go_enter Tryd.func11, Tryd.ntmps11
    go_wp2
    go_ret2
    exact Ret.mk u rfl
  · have d2 : decide (8 < n) = true := decide_eq_true (by omega)
    clear h
    go_enter Tryd.func11, Tryd.ntmps11
    go_wp2
    go_ret2
    exact Ret.mk u rfl

set_option maxRecDepth 100000 in
set_option maxHeartbeats 8000000 in
theorem c_convexOrdered_e {B : Nat} {W : World} (u : Later B W) (n : Nat) (hn : n ≤ 8) (es : List (Int × Int)) (a : Option Addr) (cap : Nat) (he : EdgesAt B W a es) (hlen : es.length ≤ 4611686018427387904) (hG : ¬ edgesTo (n : Int) es es.length) :
    Calls Tryd.prog 11 #[.int .i64 n, .slice a es.length cap] u.val (Ret B W (.tuple #[.slice none 0 0, .int .i64 1])) := by
  have HE := Lib.hid he
  have HG := Lib.hid hG
  have d1 : decide ((n : Int) < 0) = false := decide_eq_false (by omega)
  have d2 : decide (8 < (n : Int)) = false := decide_eq_false (by omega)
  have d3 : decide (8 < n) = false := decide_eq_false (by omega)
  clear he hG
  go_enter Tryd.func11, Tryd.ntmps11
  go_wp2
  go_loopw [18] (fun i wr => ∃ (k : Nat) (v : Later B W), k ≤ es.length ∧ i = .int .i64 k ∧ wr = v.val ∧ Hid (edgesTo (n : Int) es k)) (fun i _ => es.length - (intOf i).toNat)
  case atStart => exact ⟨0, u, by omega, rfl, rfl, Lib.hid (fun i hi => by omega)⟩
  case round =>
    clear u
    obtain ⟨k, v, hk, rfl, rfl, hf⟩ := hrel
    by_cases hlt : k < es.length
    · obtain ⟨be, offe, rfl, hbe, hce⟩ := HE.out.at (k := k) hlt
      have e1 := (hce v k hlt).1
      have e2 := (hce v k hlt).2
      have HS := Lib.hid (@edgesTo_step (n : Int) es k hf.out)
      clear hce hf
      generalize (es.getD k (0,0)).1 = x at *
      generalize (es.getD k (0,0)).2 = y at *
      have T1 : Two (v.val.alloc (.cells #[.int .i64 x, .int .i64 y] 28)) v.val.heap.size 28 (.int .i64 x) (.int .i64 y) := Two.new _ _ _ _
      have c0 := T1.c0
      have c1 := T1.c1
      clear T1
      rcases ilt x 0 with ⟨g1, p1⟩ | ⟨g1, p1⟩ <;> rcases ilt y 0 with ⟨g2, p2⟩ | ⟨g2, p2⟩ <;> rcases ile (n : Int) x with ⟨g3, p3⟩ | ⟨g3, p3⟩ <;> rcases ile (n : Int) y with ⟨g4, p4⟩ | ⟨g4, p4⟩
      all_goals first | (exfalso; omega) | skip
      case inr.inr.inr.inr =>
        have HN := Lib.hid (HS.out (by omega) (by omega) (by omega) (by omega))
        clear HS g1 g2 g3 g4
        go_wp2
        go_roundw
        case rel => exact ⟨k+1, v.alloc (.cells #[.int .i64 x, .int .i64 y] 28), by omega, by go_num, rfl, HN⟩
        case measure => simp [intOf]; omega
      all_goals
        clear HS g1 g2 g3 g4
        go_wp2
        go_ret2
        exact Ret.mk (v.alloc (.cells #[.int .i64 x, .int .i64 y] 28)) rfl
    · have hke : k = es.length := by omega
      subst hke
      exact absurd hf.out HG.out

end Go.Proofs.YtdhkobeagfmcnaaDoor
