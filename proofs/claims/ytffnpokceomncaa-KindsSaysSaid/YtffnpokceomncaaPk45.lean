
/-
  rotaref.IsGraph.
-/
import Derived.Test.YtffnpokceomncaaPk07
namespace Go.Proofs.Ytffnpokceomncaa
open Go.RowKit
set_option linter.unusedVariables false

set_option maxRecDepth 100000 in
set_option maxHeartbeats 2000000 in
theorem c_isGraph {B : Nat} {W : World} (u : Later B W) (n : Int) (es : List (Int × Int)) (a : Option Addr) (cap : Nat) (h : EdgesAt B W a es) (hlen : es.length ≤ 4611686018427387904) :
    Calls Try.prog 22 #[.agg #[.int .i64 n, .slice a es.length cap]] u.val (Ret B W (.bool (decide (isGraph n es)))) := by
  have HI : Hid (EdgesAt (u.val.alloc (.cells #[.int .i64 n, .slice a es.length cap] 42)).heap.size (u.val.alloc (.cells #[.int .i64 n, .slice a es.length cap] 42)) a es) := Lib.hid (h.to (u.alloc _))
  clear h
  have T0 : Hid (Two (u.val.alloc (.cells #[.int .i64 n, .slice a es.length cap] 42)) u.val.heap.size 42 (.int .i64 n) (.slice a es.length cap)) := Lib.hid (Two.new _ _ _ _)
  have hr : u.val.heap.size < (u.val.alloc (.cells #[.int .i64 n, .slice a es.length cap] 42)).heap.size := by simp
  have HV : Hid (∀ v : Later (u.val.alloc (.cells #[.int .i64 n, .slice a es.length cap] 42)).heap.size (u.val.alloc (.cells #[.int .i64 n, .slice a es.length cap] 42)), ∃ w : Later B W, w.val = v.val) := Lib.hid (fun v => ⟨(u.alloc _).up v, rfl⟩)
  by_cases hgood : 1 ≤ n ∧ n ≤ 7 ∧ (es.length : Int) ≤ 8
  case neg =>
    have hno : Hid (¬ isGraph n es) := Lib.hid (fun h => hgood ⟨h.1, h.2.1, by have := h.2.2.1; omega⟩)
    have HU : Hid (∃ w : Later B W, w.val = u.val.alloc (.cells #[.int .i64 n, .slice a es.length cap] 42)) := Lib.hid ⟨u.alloc _, rfl⟩
    go_enter Try.func22, Try.ntmps22
    rcases ile 1 n with ⟨h0, e0⟩ | ⟨h0, e0⟩ <;> rcases ile n 7 with ⟨h7, e7⟩ | ⟨h7, e7⟩ <;> rcases ile (es.length : Int) 8 with ⟨h8, e8⟩ | ⟨h8, e8⟩
    · exact absurd ⟨h0, h7, h8⟩ hgood
    all_goals first | (exfalso; omega) | skip
    all_goals
      clear hgood
      go_wp2
      go_loopw [3, 4] (fun o i wr => o = .bool false ∧ i = .int .i64 0 ∧ ∃ w : Later B W, w.val = wr) (fun _ _ _ => 0)
      case atStart => exact ⟨rfl, rfl, HU.out⟩
      case round =>
        obtain ⟨rfl, rfl, w, rfl⟩ := hrel
        go_wp2
        go_ret
        exact Ret.mk w (vbool (dec_false hno.out))
  obtain ⟨h0, h7, h8⟩ := hgood
  have e0 : decide (1 ≤ n) = true := decide_eq_true h0
  have e7 : decide (n ≤ 7) = true := decide_eq_true h7
  have e8 : decide ((es.length : Int) ≤ 8) = true := decide_eq_true h8
  go_enter Try.func22, Try.ntmps22
  go_wp2
  generalize hr2 : u.val.heap.size = r at *
  generalize u.val.alloc (.cells #[.int .i64 n, .slice a es.length cap] 42) = W1 at *
  clear hr2 u
  go_loopw [3, 4] (fun o i wr => ∃ (ok : Bool) (k : Nat) (v : Later W1.heap.size W1), k ≤ es.length ∧ i = .int .i64 k ∧ o = .bool ok ∧ wr = v.val ∧ Hid (ok = true → edgesTo n es k) ∧ Hid (ok = false → ¬ edgesTo n es es.length)) (fun _ i _ => es.length - (intOf i).toNat)
  case atStart => exact ⟨true, 0, Later.self _, by omega, rfl, rfl, rfl, Lib.hid (fun _ i hi => absurd hi (by omega)), Lib.hid (fun h => by cases h)⟩
  case round =>
    obtain ⟨ok, k, v, hk, rfl, rfl, rfl, hf, hf2⟩ := hrel
    have T1 := T0.out.keep_at v.below hr
    have q0 := T1.c1
    cases ok
    · go_wp2
      go_ret
      exact Ret.of (HV.out v) (vbool (dec_false (fun h => hf2.out (by trivial) h.2.2.2)))
    by_cases hlt : k < es.length
    · obtain ⟨b, off, rfl, hbB, hcell⟩ := HI.out.at hlt
      have c0 := (hcell v k hlt).1
      have c1 := (hcell v k hlt).2
      have HS := Lib.hid (@edgesTo_step n es k (hf.out rfl))
      have HN : Hid (edgesTo n es es.length → _) := Lib.hid (fun h => h k hlt)
      have T2 := Lib.hid (T1.keep_at ((Below.refl W1.heap.size v.val).alloc v.size (.cells #[.int .i64 (es.getD k (0,0)).1, .int .i64 (es.getD k (0,0)).2] 68)) hr)
      have q1 := T2.out.c0
      clear T1 hcell hf hf2
      generalize (es.getD k (0,0)).1 = x at *
      generalize (es.getD k (0,0)).2 = y at *
      rcases ile 0 x with ⟨g1, d1⟩ | ⟨g1, d1⟩ <;> rcases ile 0 y with ⟨g3, d3⟩ | ⟨g3, d3⟩ <;> rcases ilt x n with ⟨g2, d2⟩ | ⟨g2, d2⟩ <;> rcases ilt y n with ⟨g4, d4⟩ | ⟨g4, d4⟩ <;> rcases ilt x y with ⟨g5, d5⟩ | ⟨g5, d5⟩ <;> rcases ilt y x with ⟨g6, d6⟩ | ⟨g6, d6⟩
      all_goals first | (exfalso; omega) | skip
      all_goals
        go_wp2
        go_roundw
        case rel =>
          first
          | exact ⟨true, k+1, v.alloc (.cells #[.int .i64 x, .int .i64 y] 68), by omega, by go_num, rfl, rfl, Lib.hid (fun _ => HS.out (by omega) (by omega) (by omega) (by omega)), Lib.hid (fun h => by cases h)⟩
          | exact ⟨false, k+1, v.alloc (.cells #[.int .i64 x, .int .i64 y] 68), by omega, by go_num, rfl, rfl, Lib.hid (fun h => by cases h), Lib.hid (fun _ h => by have := HN.out h; omega)⟩
        case measure => simp [intOf]; omega
    · have hke : Hid (k = es.length) := Lib.hid (by omega)
      go_wp2
      go_ret
      exact Ret.of (HV.out v) (vbool (dec_true ⟨by omega, by omega, by omega, by have := hf.out (by trivial); rwa [hke.out] at this⟩))

end Go.Proofs.Ytffnpokceomncaa
