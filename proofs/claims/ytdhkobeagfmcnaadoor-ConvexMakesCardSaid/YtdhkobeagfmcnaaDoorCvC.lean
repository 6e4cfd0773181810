
/-
  rotaref.Ordered, rotaref.Line.
-/
import Derived.Test.YtdhkobeagfmcnaaDoorCvB
import Derived.Test.YtdhkobeagfmcnaaDoorElems
import Derived.Test.YtdhkobeagfmcnaaDoorConv3
namespace Go.Proofs.YtdhkobeagfmcnaaDoor
open Go.RowKit
set_option linter.unusedVariables false

set_option maxRecDepth 100000 in
set_option maxHeartbeats 20000000 in
theorem c_refOrdered {B : Nat} {W : World} (u : Later B W) (n : Nat) (hn : n ≤ 8) (es : List (Int × Int)) (a : Option Addr) (cap : Nat) (hlen : es.length ≤ 4611686018427387904) (he : EdgesAt B W a es) (hG : edgesTo (n : Int) es es.length) :
    Calls Tryd.prog 6 #[.int .i64 n, .slice a es.length cap] u.val (RetP B W (fun v w => ∃ ad cp, v = .tuple #[.slice ad (ints (grown n (ordMay es))).length cp, .bool (decide (((bit n - 1 : Nat) : Int) ∈ ints (grown n (ordMay es))))] ∧ IntsAt w.heap.size w ad (ints (grown n (ordMay es))))) := by
  have hb := bit_le n hn
  have T1 : RowL (u.val.alloc (.cells #[.slice a es.length cap] 22)) u.val.heap.size 22 [.slice a es.length cap] := RowL.new _ _ _
  have hr : u.val.heap.size < (u.val.alloc (.cells #[.slice a es.length cap] 22)).heap.size := by simp
  have hE : EdgesAt (u.val.alloc (.cells #[.slice a es.length cap] 22)).heap.size (u.val.alloc (.cells #[.slice a es.length cap] 22)) a es := he.to (u.alloc _)
  have HV : Hid (∀ v : Later (u.val.alloc (.cells #[.slice a es.length cap] 22)).heap.size (u.val.alloc (.cells #[.slice a es.length cap] 22)), ∃ w : Later B W, w.val = v.val) := Lib.hid (fun v => ⟨(u.alloc _).up v, rfl⟩)
  have KG : Hid (Calls Tryd.prog 15 #[.int .i64 n, .func (.func 18) #[] #[.pointer (some ⟨u.val.heap.size, 0, none⟩)]] (u.val.alloc (.cells #[.slice a es.length cap] 22)) (RetInts (u.val.alloc (.cells #[.slice a es.length cap] 22)).heap.size (u.val.alloc (.cells #[.slice a es.length cap] 22)) (ints (grown n (ordMay es))))) := Lib.hid (c_grown (Later.self (u.val.alloc (.cells #[.slice a es.length cap] 22))) n hn 18 #[.pointer (some ⟨u.val.heap.size, 0, none⟩)] (ordMay es) (fun args w => by kernel_rfl) (fun x v s i hs hi _ => by
    exact c_ordTell v n s i u.val.heap.size hn es a cap hlen (by omega) (Nat.lt_of_lt_of_le hr x.size) ((T1.keep x.below).cell rfl) (hE.to x) hG))
  have hlen2 : (grown n (ordMay es)).length ≤ 256 := by
    have := thoseTo_len (fun s => decide (0 < gS n (ordMay es) (bit n) s)) (bit n)
    exact Nat.le_trans this hb.2
  have hl2 : (ints (grown n (ordMay es))).length ≤ 256 := by rw [ints_len]; exact hlen2
  clear T1 hE he hG hr hlen2
  generalize ints (grown n (ordMay es)) = L at *
  have KA : Hid (∀ w : Later (u.val.alloc (.cells #[.slice a es.length cap] 22)).heap.size (u.val.alloc (.cells #[.slice a es.length cap] 22)), Calls Tryd.prog 9 #[.int .i64 n] w.val (Ret w.val.heap.size w.val (.int .i64 ((bit n - 1 : Nat) : Int)))) := Lib.hid (fun w => by
    have := c_all (Later.self w.val) (n : Int) (by omega) (by omega)
    rwa [all_nat] at this)
  have Hl2 := Lib.hid hl2
  clear hl2
  go_enter Tryd.func6, Tryd.ntmps6
  go_upto_region 2 with (first | (go_at_call 15; (with_reducible refine (KG.out).mono ?_); rintro e _ ⟨_, rfl, ⟨ad, cp, rfl, hI, hc⟩, v2, rfl⟩))
  have HI : Hid (IntsAt v2.val.heap.size v2.val ad L) := Lib.hid hI
  have KA1 := Lib.hid (KA.out v2)
  have KH : Hid (∀ w : Later v2.val.heap.size v2.val, Calls Tryd.prog 20 #[.slice ad L.length cp, .int .i64 ((bit n - 1 : Nat) : Int)] w.val (Ret w.val.heap.size w.val (.bool (decide (((bit n - 1 : Nat) : Int) ∈ L))))) := Lib.hid (fun w => c_has (Later.self w.val) L _ ad cp (HI.out.to w) (by have := Hl2.out; omega))
  clear hI KA KG
  generalize hal : ((bit n - 1 : Nat) : Int) = al at *
  have Hal := Lib.hid hal
  clear hal
  go_wp2_with (first | (go_at_call 9; (with_reducible refine (KA1.out).mono ?_); rintro e _ ⟨rfl, v3, rfl⟩) | (go_at_call 20; (with_reducible refine (KH.out v3).mono ?_); rintro e _ ⟨rfl, v4, rfl⟩))
  go_ret2
  refine RetP.of (HV.out (v2.up (v3.up v4))) ⟨ad, cp, by rw [Hal.out]; rfl, ?_⟩
  exact HI.out.to (v3.up v4)

/-- an end of the line that is left -/
def lineMay (n s i : Nat) : Bool := decide (i = (elems (bit n - 1 - s)).getD 0 0) || decide (i = (elems (bit n - 1 - s)).getD ((elems (bit n - 1 - s)).length - 1) 0)

set_option maxRecDepth 100000 in
set_option maxHeartbeats 20000000 in
theorem c_lineTell {B : Nat} {W : World} (u : Later B W) (n s i gb : Nat) (hn : n ≤ 8) (hs : s < bit n) (hi : i < n) (hsi : s.testBit i = false) (hgb : gb < B) (hbox : W.cell? ⟨gb, 0, none⟩ = some (.int .i64 n)) :
    Calls Tryd.prog 16 #[.int .i64 s, .int .i64 i, .pointer (some ⟨gb, 0, none⟩)] u.val (Ret B W (.bool (lineMay n s i))) := by
  have hb := bit_le n hn
  have r0 : ∀ w : Later B W, w.val.cell? ⟨gb, 0, none⟩ = some (.int .i64 n) := fun w => by rw [w.cell hgb]; exact hbox
  have hc : (bit n - 1 - s).testBit i = true := by
    rw [all_sub hn hs, nand_testBit, testBit_all, hsi]; simp [hi]
  have hl1 : 0 < (elems (bit n - 1 - s)).length := by
    obtain ⟨j, hj, _⟩ := elems_at (by omega) hc
    omega
  have KA : Hid (Calls Tryd.prog 9 #[.int .i64 n] u.val (Ret B W (.int .i64 ((bit n - 1 : Nat) : Int)))) := Lib.hid (by
    have := c_all u (n : Int) (by omega) (by omega)
    rwa [all_nat] at this)
  have KE := Lib.hid (fun w : Later B W => c_elements w (bit n - 1 - s) (by omega))
  have w1 : IntKind.i64.wrap (((bit n - 1 : Nat) : Int) - (s : Int)) = ((bit n - 1 - s : Nat) : Int) := by rw [IntWalk.i64_in _ (by omega)]; omega
  have HR : Hid (lineMay n s i = (decide (i = (elems (bit n - 1 - s)).getD 0 0) || decide (i = (elems (bit n - 1 - s)).getD ((elems (bit n - 1 - s)).length - 1) 0))) := Lib.hid rfl
  have hl8 : (elems (bit n - 1 - s)).length ≤ 8 := sz_le _
  have r1 := r0 u
  clear hbox hc
  generalize lineMay n s i = r at *
  generalize bit n - 1 - s = c at *
  generalize ((bit n - 1 : Nat) : Int) = al at *
  generalize elems c = E at *
  have hil : (ints E).length = E.length := ints_len E
  have e0 : (0 : Int) < (E.length : Int) := by omega
  obtain ⟨q, hq⟩ : ∃ q, q = E.length - 1 := ⟨_, rfl⟩
  have w2 : IntKind.i64.wrap ((E.length : Int) - 1) = (q : Int) := by rw [IntWalk.i64_in _ (by omega)]; omega
  have hqz : (q : Int) < (E.length : Int) := by omega
  have hql : q < E.length := by omega
  rw [← hq] at HR
  have Hil := Lib.hid hil
  clear hq hil
  go_enter Tryd.func16, Tryd.ntmps16
  go_upto_region 2 with (first | (go_at_call 9; (with_reducible refine (KA.out).mono ?_); rintro e _ ⟨rfl, v1, rfl⟩) | (go_at_call 17; (with_reducible refine (KE.out _).mono ?_); rintro e _ ⟨_, rfl, ⟨ad, cp, rfl, hI, hcc⟩, v2, rfl⟩))
  try rw [Hil.out]
  obtain ⟨be, oe, rfl, hbe, hce⟩ := hI.at (k := 0) (by rw [Hil.out]; omega)
  have c0 : v2.val.cell? ⟨be, oe, none⟩ = some (.int .i64 ((E.getD 0 0 : Nat) : Int)) := by
    have := hce (Later.self v2.val) 0 (by rw [Hil.out]; omega)
    rwa [ints_getD] at this
  have c1 : v2.val.cell? ⟨be, oe + q, none⟩ = some (.int .i64 ((E.getD q 0 : Nat) : Int)) := by
    have := hce (Later.self v2.val) q (by rw [Hil.out]; omega)
    rwa [ints_getD] at this
  clear hce hI KE KA r1 r0
  generalize E.getD 0 0 = x at *
  generalize E.getD q 0 = y at *
  rcases ieq (i : Int) (x : Int) with ⟨g1, d1, d1'⟩ | ⟨g1, d1, d1'⟩
  · have HN : Hid (r = true) := Lib.hid (by rw [HR.out, decide_eq_true (show i = x by omega)]; rfl)
    go_wp2
    go_ret
    exact Ret.mk v2 (vbool HN.out.symm)
  · have HN : Hid (((i : Int) == (y : Int)) = r) := Lib.hid (by
      rw [HR.out, decide_eq_false (show ¬ i = x by omega), Bool.false_or, Bool.eq_iff_iff, beq_iff_eq, decide_eq_true_eq]; omega)
    go_wp2
    go_ret
    exact Ret.mk v2 (vbool HN.out)

set_option maxRecDepth 100000 in
set_option maxHeartbeats 20000000 in
theorem c_refLine {B : Nat} {W : World} (u : Later B W) (n : Nat) (hn : n ≤ 8) :
    Calls Tryd.prog 5 #[.int .i64 n] u.val (RetInts B W (ints (grown n (lineMay n)))) := by
  have T1 : RowL (u.val.alloc (.cells #[.int .i64 n] 3)) u.val.heap.size 3 [.int .i64 n] := RowL.new _ _ _
  have hr : u.val.heap.size < (u.val.alloc (.cells #[.int .i64 n] 3)).heap.size := by simp
  have HV : Hid (∀ v : Later (u.val.alloc (.cells #[.int .i64 n] 3)).heap.size (u.val.alloc (.cells #[.int .i64 n] 3)), ∃ w : Later B W, w.val = v.val) := Lib.hid (fun v => ⟨(u.alloc _).up v, rfl⟩)
  have KG : Hid (Calls Tryd.prog 15 #[.int .i64 n, .func (.func 16) #[] #[.pointer (some ⟨u.val.heap.size, 0, none⟩)]] (u.val.alloc (.cells #[.int .i64 n] 3)) (RetInts (u.val.alloc (.cells #[.int .i64 n] 3)).heap.size (u.val.alloc (.cells #[.int .i64 n] 3)) (ints (grown n (lineMay n))))) := Lib.hid (c_grown (Later.self (u.val.alloc (.cells #[.int .i64 n] 3))) n hn 16 #[.pointer (some ⟨u.val.heap.size, 0, none⟩)] (lineMay n) (fun args w => by kernel_rfl) (fun x v s i hs hi hsi => by
    exact c_lineTell v n s i u.val.heap.size hn hs hi hsi (Nat.lt_of_lt_of_le hr x.size) ((T1.keep x.below).cell rfl)))
  have q0 : (u.val.alloc (.cells #[.int .i64 n] 3)).cell? ⟨u.val.heap.size, 0, none⟩ = some (.int .i64 n) := T1.cell rfl
  clear T1 hr
  generalize grown n (lineMay n) = L at *
  go_enter Tryd.func5, Tryd.ntmps5
  go_wp2_with (first | (go_at_call 15; (with_reducible refine (KG.out).mono ?_); rintro e _ ⟨_, rfl, ⟨ad, cp, rfl, hI, hc⟩, v2, rfl⟩))
  go_ret
  exact RetP.of (HV.out v2) ⟨ad, cp, rfl, hI, hc⟩

end Go.Proofs.YtdhkobeagfmcnaaDoor
