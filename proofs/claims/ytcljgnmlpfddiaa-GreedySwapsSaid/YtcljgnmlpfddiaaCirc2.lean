/-
  rotaref.Free, rotaref.Least.
-/
import Derived.Test.YtcljgnmlpfddiaaCirc
namespace Go.Proofs.Ytcljgnmlpfddiaa
open Go.RowKit
set_option linter.unusedVariables false

/-- a box of one cell -/
def RowAt1 (w : World) (g : Nat) (t : TypeId) (v : Value) : Prop := w.heap[g]? = some (.cells #[v] t (0, 0))
theorem RowAt1.c0 {w : World} {g : Nat} {t : TypeId} {v : Value} (h : RowAt1 w g t v) : w.cell? ⟨g, 0, none⟩ = some v := by rw [cell_of_row w g 0 _ _ _ h]; rfl
theorem RowAt1.lt {w : World} {g : Nat} {t : TypeId} {v : Value} (h : RowAt1 w g t v) : g < w.heap.size := by
  have h' : w.heap[g]? = _ := h
  exact (Array.getElem?_eq_some_iff.1 h').1
theorem RowAt1.keep {w w' : World} {g : Nat} {t : TypeId} {v : Value} (h : RowAt1 w g t v) (hb : Below w.heap.size w w') : RowAt1 w' g t v := by
  show w'.heap[g]? = _
  rw [hb.block g h.lt]; exact h

set_option maxRecDepth 100000 in
set_option maxHeartbeats 4000000 in
theorem c_free {B : Nat} {W : World} (u : Later B W) (m : Nat) (hm : m ≤ 8) (L : List Nat) (h256 : ∀ b, b ∈ L → b < 256) (hlen : L.length ≤ 4611686018427387904) (a : Option Addr) (cap : Nat) (h : IntsAt B W a (ints L)) :
    Calls Try.prog 153 #[.agg #[.int .i64 m, .slice a (ints L).length cap]] u.val (RetInts B W (ints (those m (freeB L)))) := by
  have hb := bit_le m hm
  have T0 : Hid (Two (u.val.alloc (.cells #[.int .i64 m, .slice a (ints L).length cap] 60)) u.val.heap.size 60 (.int .i64 m) (.slice a (ints L).length cap)) := Lib.hid (Two.new _ _ _ _)
  have hI : IntsAt (u.val.alloc (.cells #[.int .i64 m, .slice a (ints L).length cap] 60)).heap.size (u.val.alloc (.cells #[.int .i64 m, .slice a (ints L).length cap] 60)) a (ints L) := h.to (u.alloc _)
  have hr : u.val.heap.size < (u.val.alloc (.cells #[.int .i64 m, .slice a (ints L).length cap] 60)).heap.size := by simp
  have K : Hid (Calls Try.prog 102 #[.int .i64 m, .func (.func 163) #[] #[.pointer (some ⟨u.val.heap.size, 0, none⟩)]] (u.val.alloc (.cells #[.int .i64 m, .slice a (ints L).length cap] 60)) (RetInts (u.val.alloc (.cells #[.int .i64 m, .slice a (ints L).length cap] 60)).heap.size (u.val.alloc (.cells #[.int .i64 m, .slice a (ints L).length cap] 60)) (ints (those m (freeB L))))) := Lib.hid (by
    refine c_those (Later.self _) m hm 163 _ (freeB L) (fun args w => by kernel_rfl) (fun x v s hs => ?_)
    exact c_freeTell v L h256 hlen cap u.val.heap.size a s (by omega) (hI.to x) (Nat.lt_of_lt_of_le hr x.size) ((T0.out.keep x.below).c1))
  have q0 := T0.out.c0
  clear h hI T0 hr h256
  go_enter Try.func153, Try.ntmps153
  go_wp2_with (first | (go_at_call 102; refine (K.out).mono ?_; rintro e _ ⟨_, rfl, ⟨ad1, cp1, rfl, hI1, hcp1⟩, v1, rfl⟩))
  go_ret
  exact RetP.mk ((u.alloc _).up v1) ⟨_, _, rfl, hI1, hcp1⟩

set_option maxRecDepth 100000 in
set_option maxHeartbeats 4000000 in
theorem c_leastR {B : Nat} {W : World} (u : Later B W) (m : Nat) (hm : m ≤ 8) (L : List Nat) (h256 : ∀ b, b ∈ L → b < 256) (hlen : L.length ≤ 4611686018427387904) (a : Option Addr) (cap : Nat) (h : IntsAt B W a (ints L)) :
    Calls Try.prog 154 #[.int .i64 m, .slice a (ints L).length cap] u.val (RetInts B W (ints (those m (leastB L)))) := by
  have hb := bit_le m hm
  have T0 : Hid (RowAt1 (u.val.alloc (.cells #[.slice a (ints L).length cap] 53)) u.val.heap.size 53 (.slice a (ints L).length cap)) := Lib.hid (heap_alloc_new _ _)
  have hI : IntsAt (u.val.alloc (.cells #[.slice a (ints L).length cap] 53)).heap.size (u.val.alloc (.cells #[.slice a (ints L).length cap] 53)) a (ints L) := h.to (u.alloc _)
  have hr : u.val.heap.size < (u.val.alloc (.cells #[.slice a (ints L).length cap] 53)).heap.size := by simp
  have K : Hid (Calls Try.prog 102 #[.int .i64 m, .func (.func 164) #[] #[.pointer (some ⟨u.val.heap.size, 0, none⟩)]] (u.val.alloc (.cells #[.slice a (ints L).length cap] 53)) (RetInts (u.val.alloc (.cells #[.slice a (ints L).length cap] 53)).heap.size (u.val.alloc (.cells #[.slice a (ints L).length cap] 53)) (ints (those m (leastB L))))) := Lib.hid (by
    refine c_those (Later.self _) m hm 164 _ (leastB L) (fun args w => by kernel_rfl) (fun x v s hs => ?_)
    exact c_leastTell v L h256 hlen cap u.val.heap.size a s (by omega) (hI.to x) (Nat.lt_of_lt_of_le hr x.size) ((T0.out.keep x.below).c0))
  clear h hI T0 hr h256
  go_enter Try.func154, Try.ntmps154
  go_wp2_with (first | (go_at_call 102; refine (K.out).mono ?_; rintro e _ ⟨_, rfl, ⟨ad1, cp1, rfl, hI1, hcp1⟩, v1, rfl⟩))
  go_ret
  exact RetP.mk ((u.alloc _).up v1) ⟨_, _, rfl, hI1, hcp1⟩

end Go.Proofs.Ytcljgnmlpfddiaa
