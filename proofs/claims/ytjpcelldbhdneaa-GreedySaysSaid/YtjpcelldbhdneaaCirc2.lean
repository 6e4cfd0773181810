
/-
  rotaref.Free, rotaref.Least.
-/
import Derived.Test.YtjpcelldbhdneaaCirc
import Derived.Test.YtjpcelldbhdneaaBox1
namespace Go.Proofs.Ytjpcelldbhdneaa
open Go.RowKit
set_option linter.unusedVariables false

set_option maxRecDepth 100000 in
set_option maxHeartbeats 4000000 in
theorem c_freeO {B : Nat} {W : World} (u : Later B W) (m : Nat) (hm : m ≤ 8) (L : List Nat) (h256 : ∀ b, b ∈ L → b < 256) (hlen : L.length ≤ 4611686018427387904) (a : Option Addr) (cap : Nat) (h : IntsAt B W a (ints L)) :
    Calls Try.prog 14 #[.agg #[.int .i64 m, .slice a (ints L).length cap]] u.val (RetOwn B W (ints (those m (freeB L)))) := by
  have hb := bit_le m hm
  have T0 : Hid (Two (u.val.alloc (.cells #[.int .i64 m, .slice a (ints L).length cap] 24)) u.val.heap.size 24 (.int .i64 m) (.slice a (ints L).length cap)) := Lib.hid (Two.new _ _ _ _)
  have hI : IntsAt (u.val.alloc (.cells #[.int .i64 m, .slice a (ints L).length cap] 24)).heap.size (u.val.alloc (.cells #[.int .i64 m, .slice a (ints L).length cap] 24)) a (ints L) := h.to (u.alloc _)
  have hr : u.val.heap.size < (u.val.alloc (.cells #[.int .i64 m, .slice a (ints L).length cap] 24)).heap.size := by simp
  have K : Hid (Calls Try.prog 58 #[.int .i64 m, .func (.func 124) #[] #[.pointer (some ⟨u.val.heap.size, 0, none⟩)]] (u.val.alloc (.cells #[.int .i64 m, .slice a (ints L).length cap] 24)) (RetOwn (u.val.alloc (.cells #[.int .i64 m, .slice a (ints L).length cap] 24)).heap.size (u.val.alloc (.cells #[.int .i64 m, .slice a (ints L).length cap] 24)) (ints (those m (freeB L))))) := Lib.hid (by
    refine c_those_own (Later.self _) m hm 124 _ (freeB L) (fun args w => by kernel_rfl) (fun x v s hs => ?_)
    exact c_freeTell v L h256 hlen cap u.val.heap.size a s (by omega) (hI.to x) (Nat.lt_of_lt_of_le hr x.size) ((T0.out.keep x.below).c1))
  have q0 := T0.out.c0
  clear h hI T0 hr h256
  go_enter Try.func14, Try.ntmps14
  go_wp2_with (first | (go_at_call 58; refine (K.out).mono ?_; rintro e _ ⟨_, rfl, ⟨ad1, cp1, rfl, hO1⟩, v1, rfl⟩))
  go_ret
  exact RetP.mk ((u.alloc _).up v1) ⟨_, _, rfl, hO1.mono (by have := u.size; simp; omega)⟩

theorem c_free {B : Nat} {W : World} (u : Later B W) (m : Nat) (hm : m ≤ 8) (L : List Nat) (h256 : ∀ b, b ∈ L → b < 256) (hlen : L.length ≤ 4611686018427387904) (a : Option Addr) (cap : Nat) (h : IntsAt B W a (ints L)) :
    Calls Try.prog 14 #[.agg #[.int .i64 m, .slice a (ints L).length cap]] u.val (RetInts B W (ints (those m (freeB L)))) := (c_freeO u m hm L h256 hlen a cap h).mono fun _ _ h => h.ints

set_option maxRecDepth 100000 in
set_option maxHeartbeats 4000000 in
theorem c_leastR {B : Nat} {W : World} (u : Later B W) (m : Nat) (hm : m ≤ 8) (L : List Nat) (h256 : ∀ b, b ∈ L → b < 256) (hlen : L.length ≤ 4611686018427387904) (a : Option Addr) (cap : Nat) (h : IntsAt B W a (ints L)) :
    Calls Try.prog 95 #[.int .i64 m, .slice a (ints L).length cap] u.val (RetInts B W (ints (those m (leastB L)))) := by
  have hb := bit_le m hm
  have T0 : Hid (RowAt1 (u.val.alloc (.cells #[.slice a (ints L).length cap] 22)) u.val.heap.size 22 (.slice a (ints L).length cap)) := Lib.hid (heap_alloc_new _ _)
  have hI : IntsAt (u.val.alloc (.cells #[.slice a (ints L).length cap] 22)).heap.size (u.val.alloc (.cells #[.slice a (ints L).length cap] 22)) a (ints L) := h.to (u.alloc _)
  have hr : u.val.heap.size < (u.val.alloc (.cells #[.slice a (ints L).length cap] 22)).heap.size := by simp
  have K : Hid (Calls Try.prog 58 #[.int .i64 m, .func (.func 197) #[] #[.pointer (some ⟨u.val.heap.size, 0, none⟩)]] (u.val.alloc (.cells #[.slice a (ints L).length cap] 22)) (RetInts (u.val.alloc (.cells #[.slice a (ints L).length cap] 22)).heap.size (u.val.alloc (.cells #[.slice a (ints L).length cap] 22)) (ints (those m (leastB L))))) := Lib.hid (by
    refine c_those (Later.self _) m hm 197 _ (leastB L) (fun args w => by kernel_rfl) (fun x v s hs => ?_)
    exact c_leastTell v L h256 hlen cap u.val.heap.size a s (by omega) (hI.to x) (Nat.lt_of_lt_of_le hr x.size) ((T0.out.keep x.below).c0))
  clear h hI T0 hr h256
  go_enter Try.func95, Try.ntmps95
  go_wp2_with (first | (go_at_call 58; refine (K.out).mono ?_; rintro e _ ⟨_, rfl, ⟨ad1, cp1, rfl, hI1, hcp1⟩, v1, rfl⟩))
  go_ret
  exact RetP.mk ((u.alloc _).up v1) ⟨_, _, rfl, hI1, hcp1⟩

end Go.Proofs.Ytjpcelldbhdneaa
