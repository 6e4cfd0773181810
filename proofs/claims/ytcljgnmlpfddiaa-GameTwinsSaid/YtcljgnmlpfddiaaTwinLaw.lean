/-
  rotalaw.GameTwins returns true, whatever it is handed.
-/
import Derived.Test.YtcljgnmlpfddiaaTwinG
import Derived.Test.YtcljgnmlpfddiaaOnes
namespace Go.Proofs.Ytcljgnmlpfddiaa
open Go.RowKit
set_option linter.unusedVariables false

set_option maxRecDepth 100000 in
set_option maxHeartbeats 20000000 in
theorem law_twins_no {B : Nat} {W : World} (u : Later B W) (n s t : Int) (es : List (Int × Int)) (a : Option Addr) (cap : Nat) (h : EdgesAt B W a es) (hlen : es.length ≤ 4611686018427387904) (hP : ¬ isPos n es s t 0 0) :
    Calls Try.prog 5 #[.agg #[.int .i64 n, .slice a es.length cap], .int .i64 s, .int .i64 t] u.val (Ret B W (.bool true)) := by
  have T0 : Hid (Two (u.val.alloc (.cells #[.int .i64 n, .slice a es.length cap] 27)) u.val.heap.size 27 (.int .i64 n) (.slice a es.length cap)) := Lib.hid (Two.new _ _ _ _)
  have hE : EdgesAt (u.val.alloc (.cells #[.int .i64 n, .slice a es.length cap] 27)).heap.size (u.val.alloc (.cells #[.int .i64 n, .slice a es.length cap] 27)) a es := h.to (u.alloc _)
  have HV : Hid (∀ v : Later (u.val.alloc (.cells #[.int .i64 n, .slice a es.length cap] 27)).heap.size (u.val.alloc (.cells #[.int .i64 n, .slice a es.length cap] 27)), ∃ w : Later B W, w.val = v.val) := Lib.hid (fun v => ⟨(u.alloc _).up v, rfl⟩)
  have q0 : ∀ w : Later (u.val.alloc (.cells #[.int .i64 n, .slice a es.length cap] 27)).heap.size (u.val.alloc (.cells #[.int .i64 n, .slice a es.length cap] 27)), w.val.cell? ⟨u.val.heap.size, 0, none⟩ = some (.int .i64 n) := fun w => (T0.out.keep w.below).c0
  have q1 : ∀ w : Later (u.val.alloc (.cells #[.int .i64 n, .slice a es.length cap] 27)).heap.size (u.val.alloc (.cells #[.int .i64 n, .slice a es.length cap] 27)), w.val.cell? ⟨u.val.heap.size, 1, none⟩ = some (.slice a es.length cap) := fun w => (T0.out.keep w.below).c1
  have p0 : (u.val.alloc (.cells #[.int .i64 n, .slice a es.length cap] 27)).cell? ⟨u.val.heap.size, 0, none⟩ = some (.int .i64 n) := q0 (Later.self _)
  have p1 : (u.val.alloc (.cells #[.int .i64 n, .slice a es.length cap] 27)).cell? ⟨u.val.heap.size, 1, none⟩ = some (.slice a es.length cap) := q1 (Later.self _)
  have K0 : Hid (Calls Try.prog 22 #[.agg #[.int .i64 n, .slice a es.length cap], .int .i64 s, .int .i64 t] (u.val.alloc (.cells #[.int .i64 n, .slice a es.length cap] 27)) (Ret (u.val.alloc (.cells #[.int .i64 n, .slice a es.length cap] 27)).heap.size (u.val.alloc (.cells #[.int .i64 n, .slice a es.length cap] 27)) (.tuple #[.int .i64 0, .int .i64 0, .int .i64 1]))) := Lib.hid (c_twins_no (Later.self (u.val.alloc (.cells #[.int .i64 n, .slice a es.length cap] 27))) n s t es a cap hE hlen hP)
  have K1 : Hid (∀ v : Later (u.val.alloc (.cells #[.int .i64 n, .slice a es.length cap] 27)).heap.size (u.val.alloc (.cells #[.int .i64 n, .slice a es.length cap] 27)), Calls Try.prog 15 #[.agg #[.int .i64 n, .slice a es.length cap], .int .i64 s, .int .i64 t, .int .i64 0, .int .i64 0] v.val (Ret (u.val.alloc (.cells #[.int .i64 n, .slice a es.length cap] 27)).heap.size (u.val.alloc (.cells #[.int .i64 n, .slice a es.length cap] 27)) (.bool false))) := Lib.hid (fun v => dcall_f (c_position v n s t 0 0 es a cap hE hlen) hP)
  have KBt := Lib.hid (fun (v : Later (u.val.alloc (.cells #[.int .i64 n, .slice a es.length cap] 27)).heap.size (u.val.alloc (.cells #[.int .i64 n, .slice a es.length cap] 27))) (e : Int) => (show Calls Try.prog 14 #[.bool true, .int .i64 e] v.val (Ret (u.val.alloc (.cells #[.int .i64 n, .slice a es.length cap] 27)).heap.size (u.val.alloc (.cells #[.int .i64 n, .slice a es.length cap] 27)) (.int .i64 0)) from c_bad v true e))
  have KBf := Lib.hid (fun (v : Later (u.val.alloc (.cells #[.int .i64 n, .slice a es.length cap] 27)).heap.size (u.val.alloc (.cells #[.int .i64 n, .slice a es.length cap] 27))) (e : Int) => (show Calls Try.prog 14 #[.bool false, .int .i64 e] v.val (Ret (u.val.alloc (.cells #[.int .i64 n, .slice a es.length cap] 27)).heap.size (u.val.alloc (.cells #[.int .i64 n, .slice a es.length cap] 27)) (.int .i64 e)) from c_bad v false e))
  have HO := Lib.hid (fun (v : Later (u.val.alloc (.cells #[.int .i64 n, .slice a es.length cap] 27)).heap.size (u.val.alloc (.cells #[.int .i64 n, .slice a es.length cap] 27))) (y : Int) => c_one_no v y 1 (by decide))
  clear h T0 hE hP
  go_enter Try.func5, Try.ntmps5
  go_wp2_with (first | (go_at_call 22; ((with_reducible refine (K0.out).mono ?_); rintro e _ ⟨rfl, v1, rfl⟩)) | (go_at_call 15; ((with_reducible refine (K1.out _).mono ?_); rintro e _ ⟨rfl, v1, rfl⟩)) | (go_at_call 14; ((with_reducible refine (KBf.out _ _).mono ?_); rintro e _ ⟨rfl, v1, rfl⟩)) | (go_at_call 24; ((with_reducible refine (HO.out _ _).mono ?_); rintro e _ ⟨rfl, v1, rfl⟩)))
  go_ret
  exact Ret.of (HV.out v1) rfl

set_option maxRecDepth 100000 in
set_option maxHeartbeats 20000000 in
theorem law_twins_hit {B : Nat} {W : World} (u : Later B W) (n s t x y : Nat) (es : List (Int × Int)) (a : Option Addr) (cap : Nat) (h : EdgesAt B W a es) (hP : isPos (n : Int) es s t 0 0) (hT : TwIs es.length (TwG n es (bit s ||| bit t)) x y 0) :
    Calls Try.prog 5 #[.agg #[.int .i64 n, .slice a es.length cap], .int .i64 s, .int .i64 t] u.val (Ret B W (.bool true)) := by
  have hG := hP.1
  have hs : s < 8 := by have := hP.2.1; have := hG.2.1; omega
  have ht : t < 8 := by have := hP.2.1; have := hG.2.1; omega
  have he8 : es.length ≤ 8 := hG.2.2.1
  have hbn := bit_le n (by have := hG.2.1; omega)
  have hT2 : TwIs es.length (TwR n es (bit s ||| bit t)) x y 0 := hT.of (fun a b ha hb => twins_iff (Grf.of hG) (or_lt_bit (bit_lt_bit (by have := hP.2.1; omega)) (bit_lt_bit (by have := hP.2.1; omega))) (fun e => by have := Nat.left_le_or (n := bit s) (m := bit t); have := bit_lt s hs; omega) ha hb)
  have T0 : Hid (Two (u.val.alloc (.cells #[.int .i64 n, .slice a es.length cap] 27)) u.val.heap.size 27 (.int .i64 n) (.slice a es.length cap)) := Lib.hid (Two.new _ _ _ _)
  have hE : EdgesAt (u.val.alloc (.cells #[.int .i64 n, .slice a es.length cap] 27)).heap.size (u.val.alloc (.cells #[.int .i64 n, .slice a es.length cap] 27)) a es := h.to (u.alloc _)
  have HV : Hid (∀ v : Later (u.val.alloc (.cells #[.int .i64 n, .slice a es.length cap] 27)).heap.size (u.val.alloc (.cells #[.int .i64 n, .slice a es.length cap] 27)), ∃ w : Later B W, w.val = v.val) := Lib.hid (fun v => ⟨(u.alloc _).up v, rfl⟩)
  have q0 : ∀ w : Later (u.val.alloc (.cells #[.int .i64 n, .slice a es.length cap] 27)).heap.size (u.val.alloc (.cells #[.int .i64 n, .slice a es.length cap] 27)), w.val.cell? ⟨u.val.heap.size, 0, none⟩ = some (.int .i64 n) := fun w => (T0.out.keep w.below).c0
  have q1 : ∀ w : Later (u.val.alloc (.cells #[.int .i64 n, .slice a es.length cap] 27)).heap.size (u.val.alloc (.cells #[.int .i64 n, .slice a es.length cap] 27)), w.val.cell? ⟨u.val.heap.size, 1, none⟩ = some (.slice a es.length cap) := fun w => (T0.out.keep w.below).c1
  have p0 : (u.val.alloc (.cells #[.int .i64 n, .slice a es.length cap] 27)).cell? ⟨u.val.heap.size, 0, none⟩ = some (.int .i64 n) := q0 (Later.self _)
  have p1 : (u.val.alloc (.cells #[.int .i64 n, .slice a es.length cap] 27)).cell? ⟨u.val.heap.size, 1, none⟩ = some (.slice a es.length cap) := q1 (Later.self _)
  have K0 : Hid (Calls Try.prog 22 #[.agg #[.int .i64 n, .slice a es.length cap], .int .i64 s, .int .i64 t] (u.val.alloc (.cells #[.int .i64 n, .slice a es.length cap] 27)) (Ret (u.val.alloc (.cells #[.int .i64 n, .slice a es.length cap] 27)).heap.size (u.val.alloc (.cells #[.int .i64 n, .slice a es.length cap] 27)) (.tuple #[.int .i64 x, .int .i64 y, .int .i64 0]))) := Lib.hid (c_twins (Later.self (u.val.alloc (.cells #[.int .i64 n, .slice a es.length cap] 27))) n s t x y 0 es a cap hE hP hT)
  have K1 : Hid (∀ v : Later (u.val.alloc (.cells #[.int .i64 n, .slice a es.length cap] 27)).heap.size (u.val.alloc (.cells #[.int .i64 n, .slice a es.length cap] 27)), Calls Try.prog 15 #[.agg #[.int .i64 n, .slice a es.length cap], .int .i64 s, .int .i64 t, .int .i64 0, .int .i64 0] v.val (Ret (u.val.alloc (.cells #[.int .i64 n, .slice a es.length cap] 27)).heap.size (u.val.alloc (.cells #[.int .i64 n, .slice a es.length cap] 27)) (.bool true))) := Lib.hid (fun v => dcall_t (c_position v n s t 0 0 es a cap hE (by omega)) hP)
  have K2 := Lib.hid (fun v : Later (u.val.alloc (.cells #[.int .i64 n, .slice a es.length cap] 27)).heap.size (u.val.alloc (.cells #[.int .i64 n, .slice a es.length cap] 27)) => (show Calls Try.prog 23 #[.agg #[.int .i64 n, .slice a es.length cap], .int .i64 s, .int .i64 t] v.val (Ret (u.val.alloc (.cells #[.int .i64 n, .slice a es.length cap] 27)).heap.size (u.val.alloc (.cells #[.int .i64 n, .slice a es.length cap] 27)) (.tuple #[.int .i64 x, .int .i64 y, .bool true])) from c_refTwins v n s t x y 0 es a cap hE hG hs ht hT2))
  have KBt := Lib.hid (fun (v : Later (u.val.alloc (.cells #[.int .i64 n, .slice a es.length cap] 27)).heap.size (u.val.alloc (.cells #[.int .i64 n, .slice a es.length cap] 27))) (e : Int) => (show Calls Try.prog 14 #[.bool true, .int .i64 e] v.val (Ret (u.val.alloc (.cells #[.int .i64 n, .slice a es.length cap] 27)).heap.size (u.val.alloc (.cells #[.int .i64 n, .slice a es.length cap] 27)) (.int .i64 0)) from c_bad v true e))
  have KBf := Lib.hid (fun (v : Later (u.val.alloc (.cells #[.int .i64 n, .slice a es.length cap] 27)).heap.size (u.val.alloc (.cells #[.int .i64 n, .slice a es.length cap] 27))) (e : Int) => (show Calls Try.prog 14 #[.bool false, .int .i64 e] v.val (Ret (u.val.alloc (.cells #[.int .i64 n, .slice a es.length cap] 27)).heap.size (u.val.alloc (.cells #[.int .i64 n, .slice a es.length cap] 27)) (.int .i64 e)) from c_bad v false e))
  have HO := Lib.hid (fun (v : Later (u.val.alloc (.cells #[.int .i64 n, .slice a es.length cap] 27)).heap.size (u.val.alloc (.cells #[.int .i64 n, .slice a es.length cap] 27))) (y : Int) => c_one_yes v y)
  clear h T0 hE hP hG hT hT2
  go_enter Try.func5, Try.ntmps5
  go_wp2_with (first | (go_at_call 22; ((with_reducible refine (K0.out).mono ?_); rintro e _ ⟨rfl, v1, rfl⟩)) | (go_at_call 15; ((with_reducible refine (K1.out _).mono ?_); rintro e _ ⟨rfl, v1, rfl⟩)) | (go_at_call 23; ((with_reducible refine (K2.out _).mono ?_); rintro e _ ⟨rfl, v1, rfl⟩)) | (go_at_call 14; ((with_reducible refine (KBt.out _ _).mono ?_); rintro e _ ⟨rfl, v1, rfl⟩)) | (go_at_call 14; ((with_reducible refine (KBf.out _ _).mono ?_); rintro e _ ⟨rfl, v1, rfl⟩)) | (go_at_call 24; ((with_reducible refine (HO.out _ _).mono ?_); rintro e _ ⟨rfl, v1, rfl⟩)))
  go_ret
  exact Ret.of (HV.out v1) rfl

set_option maxRecDepth 100000 in
set_option maxHeartbeats 20000000 in
theorem law_twins_miss {B : Nat} {W : World} (u : Later B W) (n s t : Nat) (es : List (Int × Int)) (a : Option Addr) (cap : Nat) (h : EdgesAt B W a es) (hP : isPos (n : Int) es s t 0 0) (hT : TwIs es.length (TwG n es (bit s ||| bit t)) 0 0 5) :
    Calls Try.prog 5 #[.agg #[.int .i64 n, .slice a es.length cap], .int .i64 s, .int .i64 t] u.val (Ret B W (.bool true)) := by
  have hG := hP.1
  have hs : s < 8 := by have := hP.2.1; have := hG.2.1; omega
  have ht : t < 8 := by have := hP.2.1; have := hG.2.1; omega
  have he8 : es.length ≤ 8 := hG.2.2.1
  have hbn := bit_le n (by have := hG.2.1; omega)
  have hT2 : TwIs es.length (TwR n es (bit s ||| bit t)) 0 0 5 := hT.of (fun a b ha hb => twins_iff (Grf.of hG) (or_lt_bit (bit_lt_bit (by have := hP.2.1; omega)) (bit_lt_bit (by have := hP.2.1; omega))) (fun e => by have := Nat.left_le_or (n := bit s) (m := bit t); have := bit_lt s hs; omega) ha hb)
  have T0 : Hid (Two (u.val.alloc (.cells #[.int .i64 n, .slice a es.length cap] 27)) u.val.heap.size 27 (.int .i64 n) (.slice a es.length cap)) := Lib.hid (Two.new _ _ _ _)
  have hE : EdgesAt (u.val.alloc (.cells #[.int .i64 n, .slice a es.length cap] 27)).heap.size (u.val.alloc (.cells #[.int .i64 n, .slice a es.length cap] 27)) a es := h.to (u.alloc _)
  have HV : Hid (∀ v : Later (u.val.alloc (.cells #[.int .i64 n, .slice a es.length cap] 27)).heap.size (u.val.alloc (.cells #[.int .i64 n, .slice a es.length cap] 27)), ∃ w : Later B W, w.val = v.val) := Lib.hid (fun v => ⟨(u.alloc _).up v, rfl⟩)
  have q0 : ∀ w : Later (u.val.alloc (.cells #[.int .i64 n, .slice a es.length cap] 27)).heap.size (u.val.alloc (.cells #[.int .i64 n, .slice a es.length cap] 27)), w.val.cell? ⟨u.val.heap.size, 0, none⟩ = some (.int .i64 n) := fun w => (T0.out.keep w.below).c0
  have q1 : ∀ w : Later (u.val.alloc (.cells #[.int .i64 n, .slice a es.length cap] 27)).heap.size (u.val.alloc (.cells #[.int .i64 n, .slice a es.length cap] 27)), w.val.cell? ⟨u.val.heap.size, 1, none⟩ = some (.slice a es.length cap) := fun w => (T0.out.keep w.below).c1
  have p0 : (u.val.alloc (.cells #[.int .i64 n, .slice a es.length cap] 27)).cell? ⟨u.val.heap.size, 0, none⟩ = some (.int .i64 n) := q0 (Later.self _)
  have p1 : (u.val.alloc (.cells #[.int .i64 n, .slice a es.length cap] 27)).cell? ⟨u.val.heap.size, 1, none⟩ = some (.slice a es.length cap) := q1 (Later.self _)
  have K0 : Hid (Calls Try.prog 22 #[.agg #[.int .i64 n, .slice a es.length cap], .int .i64 s, .int .i64 t] (u.val.alloc (.cells #[.int .i64 n, .slice a es.length cap] 27)) (Ret (u.val.alloc (.cells #[.int .i64 n, .slice a es.length cap] 27)).heap.size (u.val.alloc (.cells #[.int .i64 n, .slice a es.length cap] 27)) (.tuple #[.int .i64 0, .int .i64 0, .int .i64 5]))) := Lib.hid (c_twins (Later.self (u.val.alloc (.cells #[.int .i64 n, .slice a es.length cap] 27))) n s t 0 0 5 es a cap hE hP hT)
  have K1 : Hid (∀ v : Later (u.val.alloc (.cells #[.int .i64 n, .slice a es.length cap] 27)).heap.size (u.val.alloc (.cells #[.int .i64 n, .slice a es.length cap] 27)), Calls Try.prog 15 #[.agg #[.int .i64 n, .slice a es.length cap], .int .i64 s, .int .i64 t, .int .i64 0, .int .i64 0] v.val (Ret (u.val.alloc (.cells #[.int .i64 n, .slice a es.length cap] 27)).heap.size (u.val.alloc (.cells #[.int .i64 n, .slice a es.length cap] 27)) (.bool true))) := Lib.hid (fun v => dcall_t (c_position v n s t 0 0 es a cap hE (by omega)) hP)
  have K2 := Lib.hid (fun v : Later (u.val.alloc (.cells #[.int .i64 n, .slice a es.length cap] 27)).heap.size (u.val.alloc (.cells #[.int .i64 n, .slice a es.length cap] 27)) => (show Calls Try.prog 23 #[.agg #[.int .i64 n, .slice a es.length cap], .int .i64 s, .int .i64 t] v.val (Ret (u.val.alloc (.cells #[.int .i64 n, .slice a es.length cap] 27)).heap.size (u.val.alloc (.cells #[.int .i64 n, .slice a es.length cap] 27)) (.tuple #[.int .i64 0, .int .i64 0, .bool false])) from c_refTwins v n s t 0 0 5 es a cap hE hG hs ht hT2))
  have KBt := Lib.hid (fun (v : Later (u.val.alloc (.cells #[.int .i64 n, .slice a es.length cap] 27)).heap.size (u.val.alloc (.cells #[.int .i64 n, .slice a es.length cap] 27))) (e : Int) => (show Calls Try.prog 14 #[.bool true, .int .i64 e] v.val (Ret (u.val.alloc (.cells #[.int .i64 n, .slice a es.length cap] 27)).heap.size (u.val.alloc (.cells #[.int .i64 n, .slice a es.length cap] 27)) (.int .i64 0)) from c_bad v true e))
  have KBf := Lib.hid (fun (v : Later (u.val.alloc (.cells #[.int .i64 n, .slice a es.length cap] 27)).heap.size (u.val.alloc (.cells #[.int .i64 n, .slice a es.length cap] 27))) (e : Int) => (show Calls Try.prog 14 #[.bool false, .int .i64 e] v.val (Ret (u.val.alloc (.cells #[.int .i64 n, .slice a es.length cap] 27)).heap.size (u.val.alloc (.cells #[.int .i64 n, .slice a es.length cap] 27)) (.int .i64 e)) from c_bad v false e))
  have HO := Lib.hid (fun (v : Later (u.val.alloc (.cells #[.int .i64 n, .slice a es.length cap] 27)).heap.size (u.val.alloc (.cells #[.int .i64 n, .slice a es.length cap] 27))) (y : Int) => c_one_no v y 5 (by decide))
  clear h T0 hE hP hG hT hT2
  go_enter Try.func5, Try.ntmps5
  go_wp2_with (first | (go_at_call 22; ((with_reducible refine (K0.out).mono ?_); rintro e _ ⟨rfl, v1, rfl⟩)) | (go_at_call 15; ((with_reducible refine (K1.out _).mono ?_); rintro e _ ⟨rfl, v1, rfl⟩)) | (go_at_call 23; ((with_reducible refine (K2.out _).mono ?_); rintro e _ ⟨rfl, v1, rfl⟩)) | (go_at_call 14; ((with_reducible refine (KBt.out _ _).mono ?_); rintro e _ ⟨rfl, v1, rfl⟩)) | (go_at_call 14; ((with_reducible refine (KBf.out _ _).mono ?_); rintro e _ ⟨rfl, v1, rfl⟩)) | (go_at_call 24; ((with_reducible refine (HO.out _ _).mono ?_); rintro e _ ⟨rfl, v1, rfl⟩)))
  go_ret
  exact Ret.of (HV.out v1) rfl

theorem law_gameTwins {B : Nat} {W : World} (u : Later B W) (n s t : Int) (es : List (Int × Int)) (a : Option Addr) (cap : Nat) (h : EdgesAt B W a es) (hlen : es.length ≤ 4611686018427387904) :
    Calls Try.prog 5 #[.agg #[.int .i64 n, .slice a es.length cap], .int .i64 s, .int .i64 t] u.val (Ret B W (.bool true)) := by
  by_cases hp : isPos n es s t 0 0
  · obtain ⟨n', rfl⟩ := Int.eq_ofNat_of_zero_le (show 0 ≤ n by have := hp.1.1; omega)
    obtain ⟨s', rfl⟩ := Int.eq_ofNat_of_zero_le hp.2.1.1
    obtain ⟨t', rfl⟩ := Int.eq_ofNat_of_zero_le hp.2.1.2.2.1
    rcases TwIs.ex es.length (TwG n' es (bit s' ||| bit t')) with ⟨x, y, hT⟩ | hT
    · exact law_twins_hit u n' s' t' x y es a cap h hp hT
    · exact law_twins_miss u n' s' t' es a cap h hp hT
  · exact law_twins_no u n s t es a cap h hlen hp

end Go.Proofs.Ytcljgnmlpfddiaa
