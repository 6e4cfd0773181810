
/-
  rotaref.Free, rotaref.Least.
  rotaref.Circuits.
-/
import Derived.Test.YtenbeiafdiifgaaPk15
import Derived.Test.YtenbeiafdiifgaaPk09
import Derived.Deep.RegionHeld3
namespace Go.Proofs.Ytenbeiafdiifgaa
open Go.RowKit
set_option linter.unusedVariables false

set_option maxRecDepth 100000 in
set_option maxHeartbeats 4000000 in
theorem c_freeO {B : Nat} {W : World} (u : Later B W) (m : Nat) (hm : m ≤ 8) (L : List Nat) (h256 : ∀ b, b ∈ L → b < 256) (hlen : L.length ≤ 4611686018427387904) (a : Option Addr) (cap : Nat) (h : IntsAt B W a (ints L)) :
    Calls Try.prog 28 #[.agg #[.int .i64 m, .slice a (ints L).length cap]] u.val (RetOwn B W (ints (those m (freeB L)))) := by
  have hb := bit_le m hm
  have T0 : Hid (Two (u.val.alloc (.cells #[.int .i64 m, .slice a (ints L).length cap] 24)) u.val.heap.size 24 (.int .i64 m) (.slice a (ints L).length cap)) := Lib.hid (Two.new _ _ _ _)
  have hI : IntsAt (u.val.alloc (.cells #[.int .i64 m, .slice a (ints L).length cap] 24)).heap.size (u.val.alloc (.cells #[.int .i64 m, .slice a (ints L).length cap] 24)) a (ints L) := h.to (u.alloc _)
  have hr : u.val.heap.size < (u.val.alloc (.cells #[.int .i64 m, .slice a (ints L).length cap] 24)).heap.size := by simp
  have K : Hid (Calls Try.prog 30 #[.int .i64 m, .func (.func 37) #[] #[.pointer (some ⟨u.val.heap.size, 0, none⟩)]] (u.val.alloc (.cells #[.int .i64 m, .slice a (ints L).length cap] 24)) (RetOwn (u.val.alloc (.cells #[.int .i64 m, .slice a (ints L).length cap] 24)).heap.size (u.val.alloc (.cells #[.int .i64 m, .slice a (ints L).length cap] 24)) (ints (those m (freeB L))))) := Lib.hid (by
    refine c_those_own (Later.self _) m hm 37 _ (freeB L) (fun args w => by kernel_rfl) (fun x v s hs => ?_)
    exact c_freeTell v L h256 hlen cap u.val.heap.size a s (by omega) (hI.to x) (Nat.lt_of_lt_of_le hr x.size) ((T0.out.keep x.below).c1))
  have q0 := T0.out.c0
  clear h hI T0 hr h256
  go_enter Try.func28, Try.ntmps28
  go_wp2_with (first | (go_at_call 30; refine (K.out).mono ?_; rintro e _ ⟨_, rfl, ⟨ad1, cp1, rfl, hO1⟩, v1, rfl⟩))
  go_ret
  exact RetP.mk ((u.alloc _).up v1) ⟨_, _, rfl, hO1.mono (by have := u.size; simp; omega)⟩

theorem c_free {B : Nat} {W : World} (u : Later B W) (m : Nat) (hm : m ≤ 8) (L : List Nat) (h256 : ∀ b, b ∈ L → b < 256) (hlen : L.length ≤ 4611686018427387904) (a : Option Addr) (cap : Nat) (h : IntsAt B W a (ints L)) :
    Calls Try.prog 28 #[.agg #[.int .i64 m, .slice a (ints L).length cap]] u.val (RetInts B W (ints (those m (freeB L)))) := (c_freeO u m hm L h256 hlen a cap h).mono fun _ _ h => h.ints

set_option maxRecDepth 100000 in
set_option maxHeartbeats 4000000 in
theorem c_leastR {B : Nat} {W : World} (u : Later B W) (m : Nat) (hm : m ≤ 8) (L : List Nat) (h256 : ∀ b, b ∈ L → b < 256) (hlen : L.length ≤ 4611686018427387904) (a : Option Addr) (cap : Nat) (h : IntsAt B W a (ints L)) :
    Calls Try.prog 29 #[.int .i64 m, .slice a (ints L).length cap] u.val (RetInts B W (ints (those m (leastB L)))) := by
  have hb := bit_le m hm
  have T0 : Hid (RowAt1 (u.val.alloc (.cells #[.slice a (ints L).length cap] 22)) u.val.heap.size 22 (.slice a (ints L).length cap)) := Lib.hid (heap_alloc_new _ _)
  have hI : IntsAt (u.val.alloc (.cells #[.slice a (ints L).length cap] 22)).heap.size (u.val.alloc (.cells #[.slice a (ints L).length cap] 22)) a (ints L) := h.to (u.alloc _)
  have hr : u.val.heap.size < (u.val.alloc (.cells #[.slice a (ints L).length cap] 22)).heap.size := by simp
  have K : Hid (Calls Try.prog 30 #[.int .i64 m, .func (.func 38) #[] #[.pointer (some ⟨u.val.heap.size, 0, none⟩)]] (u.val.alloc (.cells #[.slice a (ints L).length cap] 22)) (RetInts (u.val.alloc (.cells #[.slice a (ints L).length cap] 22)).heap.size (u.val.alloc (.cells #[.slice a (ints L).length cap] 22)) (ints (those m (leastB L))))) := Lib.hid (by
    refine c_those (Later.self _) m hm 38 _ (leastB L) (fun args w => by kernel_rfl) (fun x v s hs => ?_)
    exact c_leastTell v L h256 hlen cap u.val.heap.size a s (by omega) (hI.to x) (Nat.lt_of_lt_of_le hr x.size) ((T0.out.keep x.below).c0))
  clear h hI T0 hr h256
  go_enter Try.func29, Try.ntmps29
  go_wp2_with (first | (go_at_call 30; refine (K.out).mono ?_; rintro e _ ⟨_, rfl, ⟨ad1, cp1, rfl, hI1, hcp1⟩, v1, rfl⟩))
  go_ret
  exact RetP.mk ((u.alloc _).up v1) ⟨_, _, rfl, hI1, hcp1⟩

end Go.Proofs.Ytenbeiafdiifgaa

namespace Go.Proofs.Ytenbeiafdiifgaa
open Go.RowKit
set_option linter.unusedVariables false

/-- not within a basis, and so that each set within it but itself is -/
def circB (m : Nat) (L : List Nat) (s : Nat) : Bool := leastB (those m (fun s => !freeB L s)) s

set_option maxRecDepth 100000 in
set_option maxHeartbeats 4000000 in
theorem c_circTell {B : Nat} {W : World} (u : Later B W) (F : List Nat) (hlen : F.length ≤ 4611686018427387904) (cap g : Nat) (a : Option Addr) (s : Nat) (h : IntsAt B W a (ints F)) (hg : g < B) (hbox : W.cell? ⟨g, 0, none⟩ = some (.slice a (ints F).length cap)) :
    Calls Try.prog 31 #[.int .i64 s, .pointer (some ⟨g, 0, none⟩)] u.val (Ret B W (.bool (!decide (s ∈ F)))) := by
  have q1 : u.val.cell? ⟨g, 0, none⟩ = some (.slice a (ints F).length cap) := by rw [u.cell hg, hbox]
  have KH : Hid (Calls Try.prog 32 #[.slice a (ints F).length cap, .int .i64 s] u.val (Ret B W (.bool (decide (s ∈ F))))) := Lib.hid (by
    have := c_has u (ints F) (s : Int) a cap h (by rw [ints_len]; omega)
    rwa [show decide ((s : Int) ∈ ints F) = decide (s ∈ F) by simp only [mem_ints]] at this)
  clear h hbox
  generalize decide (s ∈ F) = d at *
  cases d
  all_goals
    go_enter Try.func31, Try.ntmps31
    go_wp2_with (first | (go_at_call 32; refine (KH.out).mono ?_; rintro e _ ⟨rfl, v2, rfl⟩))
    go_ret
    exact Ret.mk v2 rfl

set_option maxRecDepth 100000 in
set_option maxHeartbeats 4000000 in
theorem c_circuits {B : Nat} {W : World} (u : Later B W) (m : Nat) (hm : m ≤ 8) (L : List Nat) (h256 : ∀ b, b ∈ L → b < 256) (hlen : L.length ≤ 4611686018427387904) (a : Option Addr) (cap : Nat) (h : IntsAt B W a (ints L)) :
    Calls Try.prog 20 #[.agg #[.int .i64 m, .slice a (ints L).length cap]] u.val (RetInts B W (ints (those m (circB m L)))) := by
  have hb := bit_le m hm
  have T0 : Hid (Two (u.val.alloc (.cells #[.int .i64 m, .slice a (ints L).length cap] 24)) u.val.heap.size 24 (.int .i64 m) (.slice a (ints L).length cap)) := Lib.hid (Two.new _ _ _ _)
  have hr : u.val.heap.size < (u.val.alloc (.cells #[.int .i64 m, .slice a (ints L).length cap] 24)).heap.size := by simp
  have HV : Hid (∀ v : Later (u.val.alloc (.cells #[.int .i64 m, .slice a (ints L).length cap] 24)).heap.size (u.val.alloc (.cells #[.int .i64 m, .slice a (ints L).length cap] 24)), ∃ w : Later B W, w.val = v.val) := Lib.hid (fun v => ⟨(u.alloc _).up v, rfl⟩)
  have K0 : Hid (Calls Try.prog 28 #[.agg #[.int .i64 m, .slice a (ints L).length cap]] (u.val.alloc (.cells #[.int .i64 m, .slice a (ints L).length cap] 24)) (RetInts (u.val.alloc (.cells #[.int .i64 m, .slice a (ints L).length cap] 24)).heap.size (u.val.alloc (.cells #[.int .i64 m, .slice a (ints L).length cap] 24)) (ints (those m (freeB L))))) := Lib.hid (c_free (Later.self _) m hm L h256 hlen a cap (h.to (u.alloc _)))
  have q0 := T0.out.c0
  have q1 := T0.out.c1
  have HFl : Hid ((those m (freeB L)).length ≤ 256) := Lib.hid (by have := thoseTo_len (freeB L) (bit m); have e : those m (freeB L) = thoseTo (freeB L) (bit m) := rfl; rw [e]; omega)
  have HF : Hid (∀ s, s < bit m → (!decide (s ∈ those m (freeB L))) = !freeB L s) := Lib.hid (fun s hs => by
    have : decide (s ∈ those m (freeB L)) = freeB L s := by
      rw [Bool.eq_iff_iff, decide_eq_true_eq, mem_those]
      exact ⟨fun h => h.2, fun h => ⟨hs, h⟩⟩
    rw [this])
  have HN8 : Hid (∀ b, b ∈ those m (fun s => !freeB L s) → b < 256) := Lib.hid (fun b hb' => by have := (mem_those.1 hb').1; omega)
  have HNl : Hid ((those m (fun s => !freeB L s)).length ≤ 256) := Lib.hid (by have := thoseTo_len (fun s => !freeB L s) (bit m); have e : those m (fun s => !freeB L s) = thoseTo (fun s => !freeB L s) (bit m) := rfl; rw [e]; omega)
  clear h h256
  go_enter Try.func20, Try.ntmps20
  go_upto_region 2 with (first | (go_at_call 28; refine (K0.out).mono ?_; rintro e _ ⟨_, rfl, ⟨ad1, cp1, rfl, hI1, hcp1⟩, v1, rfl⟩))
  clear q0 q1 K0
  have X0 : Hid (RowAt1 (v1.val.alloc (.cells #[.slice ad1 (ints (those m (freeB L))).length cp1] 22)) v1.val.heap.size 22 (.slice ad1 (ints (those m (freeB L))).length cp1)) := Lib.hid (heap_alloc_new _ _)
  have hx : v1.val.heap.size < (v1.val.alloc (.cells #[.slice ad1 (ints (those m (freeB L))).length cp1] 22)).heap.size := by simp
  have hIX : IntsAt (v1.val.alloc (.cells #[.slice ad1 (ints (those m (freeB L))).length cp1] 22)).heap.size (v1.val.alloc (.cells #[.slice ad1 (ints (those m (freeB L))).length cp1] 22)) ad1 (ints (those m (freeB L))) := hI1.to ((Later.self v1.val).alloc _)
  have T1 := Lib.hid (T0.out.keep_at (v1.alloc (.cells #[.slice ad1 (ints (those m (freeB L))).length cp1] 22)).below hr)
  have K1 : Hid (Calls Try.prog 30 #[.int .i64 m, .func (.func 31) #[] #[.pointer (some ⟨v1.val.heap.size, 0, none⟩)]] (v1.val.alloc (.cells #[.slice ad1 (ints (those m (freeB L))).length cp1] 22)).drew (RetInts (v1.val.alloc (.cells #[.slice ad1 (ints (those m (freeB L))).length cp1] 22)).heap.size (v1.val.alloc (.cells #[.slice ad1 (ints (those m (freeB L))).length cp1] 22)) (ints (those m (fun s => !freeB L s))))) := Lib.hid (by
    refine c_those (Later.self _).drew m hm 31 _ (fun s => !freeB L s) (fun args w => by kernel_rfl) (fun x v s hs => ?_)
    have := c_circTell v (those m (freeB L)) (by have := HFl.out; omega) cp1 v1.val.heap.size ad1 s (hIX.to x) (Nat.lt_of_lt_of_le hx x.size) ((X0.out.keep x.below).c0)
    rwa [HF.out s hs] at this)
  have HVX : Hid (∀ y : Later (v1.val.alloc (.cells #[.slice ad1 (ints (those m (freeB L))).length cp1] 22)).heap.size (v1.val.alloc (.cells #[.slice ad1 (ints (those m (freeB L))).length cp1] 22)), ∃ w : Later B W, w.val = y.val) := Lib.hid (fun y => HV.out ((v1.alloc _).up y))
  have t0 := T1.out.c0
  clear hI1 hcp1 hIX
  go_region_held3 (fun w' => w'.cell? ⟨u.val.heap.size, 0, none⟩ = some (.int .i64 m)) (first | exact t0 | exact (T1.out.keep y1.below).c0 | exact ((T1.out.keep y1.below).keep y2.below).c0) (first | (go_at_call 30; refine (K1.out).mono ?_; rintro e _ ⟨_, rfl, ⟨ad2, cp2, rfl, hI2, hcp2⟩, y1, rfl⟩) | (go_at_call 29; refine (c_leastR (Later.self y1.val) m hm (those m (fun s => !freeB L s)) HN8.out (by have := HNl.out; omega) ad2 cp2 hI2).mono ?_; rintro e _ ⟨_, rfl, ⟨ad3, cp3, rfl, hI3, hcp3⟩, y2, rfl⟩))
  go_wp2
  go_ret
  refine RetP.of (HVX.out (y1.up y2)) ?_
  exact ⟨_, _, rfl, hI3, hcp3⟩

end Go.Proofs.Ytenbeiafdiifgaa
