
/-
  rotaref.Free, rotaref.Least.
  rotaref.Circuits.
  rotaref.Ring.
-/
import Derived.Test.YtmcffbmhkbijlaaPk08
import Derived.Deep.RegionHeld3
namespace Go.Proofs.Ytmcffbmhkbijlaa
open Go.RowKit
set_option linter.unusedVariables false

set_option maxRecDepth 100000 in
set_option maxHeartbeats 4000000 in
theorem c_leastR {B : Nat} {W : World} (u : Later B W) (m : Nat) (hm : m ≤ 8) (L : List Nat) (h256 : ∀ b, b ∈ L → b < 256) (hlen : L.length ≤ 4611686018427387904) (a : Option Addr) (cap : Nat) (h : IntsAt B W a (ints L)) :
    Calls Try.prog 42 #[.int .i64 m, .slice a (ints L).length cap] u.val (RetInts B W (ints (those m (leastB L)))) := by
  have hb := bit_le m hm
  have T0 : Hid (RowAt1 (u.val.alloc (.cells #[.slice a (ints L).length cap] 22)) u.val.heap.size 22 (.slice a (ints L).length cap)) := Lib.hid (heap_alloc_new _ _)
  have hI : IntsAt (u.val.alloc (.cells #[.slice a (ints L).length cap] 22)).heap.size (u.val.alloc (.cells #[.slice a (ints L).length cap] 22)) a (ints L) := h.to (u.alloc _)
  have hr : u.val.heap.size < (u.val.alloc (.cells #[.slice a (ints L).length cap] 22)).heap.size := by simp
  have K : Hid (Calls Try.prog 40 #[.int .i64 m, .func (.func 62) #[] #[.pointer (some ⟨u.val.heap.size, 0, none⟩)]] (u.val.alloc (.cells #[.slice a (ints L).length cap] 22)) (RetInts (u.val.alloc (.cells #[.slice a (ints L).length cap] 22)).heap.size (u.val.alloc (.cells #[.slice a (ints L).length cap] 22)) (ints (those m (leastB L))))) := Lib.hid (by
    refine c_those (Later.self _) m hm 62 _ (leastB L) (fun args w => by kernel_rfl) (fun x v s hs => ?_)
    exact c_leastTell v L h256 hlen cap u.val.heap.size a s (by omega) (hI.to x) (Nat.lt_of_lt_of_le hr x.size) ((T0.out.keep x.below).c0))
  clear h hI T0 hr h256
  go_enter Try.func42, Try.ntmps42
  go_wp2_with (first | (go_at_call 40; refine (K.out).mono ?_; rintro e _ ⟨_, rfl, ⟨ad1, cp1, rfl, hI1, hcp1⟩, v1, rfl⟩))
  go_ret
  exact RetP.mk ((u.alloc _).up v1) ⟨_, _, rfl, hI1, hcp1⟩

end Go.Proofs.Ytmcffbmhkbijlaa

namespace Go.Proofs.Ytmcffbmhkbijlaa
open Go.RowKit
set_option linter.unusedVariables false

/-- not within a basis, and so that each set within it but itself is -/
def circB (m : Nat) (L : List Nat) (s : Nat) : Bool := leastB (those m (fun s => !freeB L s)) s

end Go.Proofs.Ytmcffbmhkbijlaa

namespace Go.Proofs.Ytmcffbmhkbijlaa
open Go.RowKit
set_option linter.unusedVariables false

/-- the first of the circuits that lies in a set; 0: none -/
def RingIs (C : List Nat) (t r : Nat) : Prop := (∃ k, k < C.length ∧ C.getD k 0 ||| t = t ∧ (∀ i, i < k → ¬ C.getD i 0 ||| t = t) ∧ r = C.getD k 0) ∨ ((∀ i, i < C.length → ¬ C.getD i 0 ||| t = t) ∧ r = 0)

end Go.Proofs.Ytmcffbmhkbijlaa
