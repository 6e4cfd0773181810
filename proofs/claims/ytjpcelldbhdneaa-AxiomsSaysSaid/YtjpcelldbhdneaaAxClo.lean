
/-
  axioms.Closure.
-/
import Derived.Test.YtjpcelldbhdneaaAxTell
namespace Go.Proofs.Ytjpcelldbhdneaa
open Go.RowKit
set_option linter.unusedVariables false

/-- the closure, its first k elements looked at -/
def CloTo (L : List Nat) (s k X : Nat) : Prop := ∀ i, i < 8 → (X.testBit i = true ↔ s.testBit i = true ∨ (i < k ∧ rk L (s ||| bit i) = rk L s))

set_option maxRecDepth 100000 in
set_option maxHeartbeats 4000000 in
theorem c_axClosure_no {B : Nat} {W : World} (u : Later B W) (n s : Int) (l : List Int) (a : Option Addr) (cap : Nat) (e : Int) (h : IntsAt B W a l) (hlen : l.length ≤ 4611686018427387904) (he : MatIs n l e) (h0 : e ≠ 0) :
    Calls Try.prog 27 #[.agg #[.int .i64 n, .slice a l.length cap], .int .i64 s] u.val (Ret B W (.tuple #[.int .i64 0, .int .i64 e])) := by
  have T0 : Hid (Two (u.val.alloc (.cells #[.int .i64 n, .slice a l.length cap] 24)) u.val.heap.size 24 (.int .i64 n) (.slice a l.length cap)) := Lib.hid (Two.new _ _ _ _)
  have hrr : u.val.heap.size < (u.val.alloc (.cells #[.int .i64 n, .slice a l.length cap] 24)).heap.size := by simp
  have hI : IntsAt (u.val.alloc (.cells #[.int .i64 n, .slice a l.length cap] 24)).heap.size (u.val.alloc (.cells #[.int .i64 n, .slice a l.length cap] 24)) a l := h.to (u.alloc _)
  have HV : Hid (∀ v : Later (u.val.alloc (.cells #[.int .i64 n, .slice a l.length cap] 24)).heap.size (u.val.alloc (.cells #[.int .i64 n, .slice a l.length cap] 24)), ∃ w : Later B W, w.val = v.val) := Lib.hid (fun v => ⟨(u.alloc _).up v, rfl⟩)
  have q0 : ∀ w : Later (u.val.alloc (.cells #[.int .i64 n, .slice a l.length cap] 24)).heap.size (u.val.alloc (.cells #[.int .i64 n, .slice a l.length cap] 24)), w.val.cell? ⟨u.val.heap.size, 0, none⟩ = some (.int .i64 n) := fun w => (T0.out.keep w.below).c0
  have q1 : ∀ w : Later (u.val.alloc (.cells #[.int .i64 n, .slice a l.length cap] 24)).heap.size (u.val.alloc (.cells #[.int .i64 n, .slice a l.length cap] 24)), w.val.cell? ⟨u.val.heap.size, 1, none⟩ = some (.slice a l.length cap) := fun w => (T0.out.keep w.below).c1
  have p0 : (u.val.alloc (.cells #[.int .i64 n, .slice a l.length cap] 24)).cell? ⟨u.val.heap.size, 0, none⟩ = some (.int .i64 n) := T0.out.c0
  have p1 : (u.val.alloc (.cells #[.int .i64 n, .slice a l.length cap] 24)).cell? ⟨u.val.heap.size, 1, none⟩ = some (.slice a l.length cap) := T0.out.c1
  have KC : Hid (Calls Try.prog 28 #[.agg #[.int .i64 n, .slice a l.length cap]] (u.val.alloc (.cells #[.int .i64 n, .slice a l.length cap] 24)) (Ret (u.val.alloc (.cells #[.int .i64 n, .slice a l.length cap] 24)).heap.size (u.val.alloc (.cells #[.int .i64 n, .slice a l.length cap] 24)) (.int .i64 e))) := Lib.hid (c_axCheck (Later.self _) n l a cap e hI hlen he)
  have d0 : (e != 0) = true := by rw [bne_iff_ne]; exact h0
  clear h hI he h0
  go_enter Try.func27, Try.ntmps27
  go_wp2_with (first | (go_at_call 28; (with_reducible refine (KC.out).mono ?_); rintro e _ ⟨rfl, v1, rfl⟩))
  go_ret2
  exact Ret.of (HV.out v1) rfl

set_option maxRecDepth 100000 in
set_option maxHeartbeats 4000000 in
theorem c_axClosure_bad {B : Nat} {W : World} (u : Later B W) (n s : Int) (l : List Int) (a : Option Addr) (cap : Nat) (h : IntsAt B W a l) (hlen : l.length ≤ 4611686018427387904) (he : MatIs n l 0) (hs : ¬ isSet n s) :
    Calls Try.prog 27 #[.agg #[.int .i64 n, .slice a l.length cap], .int .i64 s] u.val (Ret B W (.tuple #[.int .i64 0, .int .i64 1])) := by
  have T0 : Hid (Two (u.val.alloc (.cells #[.int .i64 n, .slice a l.length cap] 24)) u.val.heap.size 24 (.int .i64 n) (.slice a l.length cap)) := Lib.hid (Two.new _ _ _ _)
  have hrr : u.val.heap.size < (u.val.alloc (.cells #[.int .i64 n, .slice a l.length cap] 24)).heap.size := by simp
  have hI : IntsAt (u.val.alloc (.cells #[.int .i64 n, .slice a l.length cap] 24)).heap.size (u.val.alloc (.cells #[.int .i64 n, .slice a l.length cap] 24)) a l := h.to (u.alloc _)
  have HV : Hid (∀ v : Later (u.val.alloc (.cells #[.int .i64 n, .slice a l.length cap] 24)).heap.size (u.val.alloc (.cells #[.int .i64 n, .slice a l.length cap] 24)), ∃ w : Later B W, w.val = v.val) := Lib.hid (fun v => ⟨(u.alloc _).up v, rfl⟩)
  have q0 : ∀ w : Later (u.val.alloc (.cells #[.int .i64 n, .slice a l.length cap] 24)).heap.size (u.val.alloc (.cells #[.int .i64 n, .slice a l.length cap] 24)), w.val.cell? ⟨u.val.heap.size, 0, none⟩ = some (.int .i64 n) := fun w => (T0.out.keep w.below).c0
  have q1 : ∀ w : Later (u.val.alloc (.cells #[.int .i64 n, .slice a l.length cap] 24)).heap.size (u.val.alloc (.cells #[.int .i64 n, .slice a l.length cap] 24)), w.val.cell? ⟨u.val.heap.size, 1, none⟩ = some (.slice a l.length cap) := fun w => (T0.out.keep w.below).c1
  have p0 : (u.val.alloc (.cells #[.int .i64 n, .slice a l.length cap] 24)).cell? ⟨u.val.heap.size, 0, none⟩ = some (.int .i64 n) := T0.out.c0
  have p1 : (u.val.alloc (.cells #[.int .i64 n, .slice a l.length cap] 24)).cell? ⟨u.val.heap.size, 1, none⟩ = some (.slice a l.length cap) := T0.out.c1
  have KC : Hid (Calls Try.prog 28 #[.agg #[.int .i64 n, .slice a l.length cap]] (u.val.alloc (.cells #[.int .i64 n, .slice a l.length cap] 24)) (Ret (u.val.alloc (.cells #[.int .i64 n, .slice a l.length cap] 24)).heap.size (u.val.alloc (.cells #[.int .i64 n, .slice a l.length cap] 24)) (.int .i64 0))) := Lib.hid (c_axCheck (Later.self _) n l a cap 0 hI hlen he)
  have KS : Hid (∀ v : Later (u.val.alloc (.cells #[.int .i64 n, .slice a l.length cap] 24)).heap.size (u.val.alloc (.cells #[.int .i64 n, .slice a l.length cap] 24)), Calls Try.prog 137 #[.int .i64 n, .int .i64 s] v.val (Ret (u.val.alloc (.cells #[.int .i64 n, .slice a l.length cap] 24)).heap.size (u.val.alloc (.cells #[.int .i64 n, .slice a l.length cap] 24)) (.int .i64 1))) := Lib.hid (fun v => by
    have := c_setsCheck v n s
    rwa [show errno (decide (isSet n s)) 1 = 1 by simp [errno, hs]] at this)
  clear h hI he hs
  go_enter Try.func27, Try.ntmps27
  go_wp2_with (first | (go_at_call 28; (with_reducible refine (KC.out).mono ?_); rintro e _ ⟨rfl, v1, rfl⟩) | (go_at_call 137; (with_reducible refine (KS.out _).mono ?_); rintro e _ ⟨rfl, v1, rfl⟩))
  go_ret2
  exact Ret.of (HV.out v1) rfl

set_option maxRecDepth 100000 in
set_option maxHeartbeats 8000000 in
theorem c_axClosure {B : Nat} {W : World} (u : Later B W) (m : Nat) (hm : m ≤ 8) (s X : Nat) (l : List Int) (a : Option Addr) (cap : Nat) (h : IntsAt B W a l) (hlen : l.length ≤ 4611686018427387904) (he : MatIs (m : Int) l 0) (hs : s < bit m) (hX : X < 256) (hXc : CloTo (toN l) s m X) :
    Calls Try.prog 27 #[.agg #[.int .i64 m, .slice a l.length cap], .int .i64 s] u.val (Ret B W (.tuple #[.int .i64 X, .int .i64 0])) := by
  have hb := bit_le m hm
  have hall : all (m : Int) = (bit m : Int) - 1 := by rw [all_nat]; omega
  have hfam : isFam (m : Int) l := Classical.byContradiction fun hk => by have := he.1 (fun h => hk h.1); omega
  have T0 : Hid (Two (u.val.alloc (.cells #[.int .i64 m, .slice a l.length cap] 24)) u.val.heap.size 24 (.int .i64 m) (.slice a l.length cap)) := Lib.hid (Two.new _ _ _ _)
  have hrr : u.val.heap.size < (u.val.alloc (.cells #[.int .i64 m, .slice a l.length cap] 24)).heap.size := by simp
  have hI : IntsAt (u.val.alloc (.cells #[.int .i64 m, .slice a l.length cap] 24)).heap.size (u.val.alloc (.cells #[.int .i64 m, .slice a l.length cap] 24)) a l := h.to (u.alloc _)
  have HV : Hid (∀ v : Later (u.val.alloc (.cells #[.int .i64 m, .slice a l.length cap] 24)).heap.size (u.val.alloc (.cells #[.int .i64 m, .slice a l.length cap] 24)), ∃ w : Later B W, w.val = v.val) := Lib.hid (fun v => ⟨(u.alloc _).up v, rfl⟩)
  have q0 : ∀ w : Later (u.val.alloc (.cells #[.int .i64 m, .slice a l.length cap] 24)).heap.size (u.val.alloc (.cells #[.int .i64 m, .slice a l.length cap] 24)), w.val.cell? ⟨u.val.heap.size, 0, none⟩ = some (.int .i64 m) := fun w => (T0.out.keep w.below).c0
  have q1 : ∀ w : Later (u.val.alloc (.cells #[.int .i64 m, .slice a l.length cap] 24)).heap.size (u.val.alloc (.cells #[.int .i64 m, .slice a l.length cap] 24)), w.val.cell? ⟨u.val.heap.size, 1, none⟩ = some (.slice a l.length cap) := fun w => (T0.out.keep w.below).c1
  have p0 : (u.val.alloc (.cells #[.int .i64 m, .slice a l.length cap] 24)).cell? ⟨u.val.heap.size, 0, none⟩ = some (.int .i64 m) := T0.out.c0
  have p1 : (u.val.alloc (.cells #[.int .i64 m, .slice a l.length cap] 24)).cell? ⟨u.val.heap.size, 1, none⟩ = some (.slice a l.length cap) := T0.out.c1
  have KC : Hid (Calls Try.prog 28 #[.agg #[.int .i64 m, .slice a l.length cap]] (u.val.alloc (.cells #[.int .i64 m, .slice a l.length cap] 24)) (Ret (u.val.alloc (.cells #[.int .i64 m, .slice a l.length cap] 24)).heap.size (u.val.alloc (.cells #[.int .i64 m, .slice a l.length cap] 24)) (.int .i64 0))) := Lib.hid (c_axCheck (Later.self _) m l a cap 0 hI hlen he)
  have KS : Hid (∀ v : Later (u.val.alloc (.cells #[.int .i64 m, .slice a l.length cap] 24)).heap.size (u.val.alloc (.cells #[.int .i64 m, .slice a l.length cap] 24)), Calls Try.prog 137 #[.int .i64 m, .int .i64 s] v.val (Ret (u.val.alloc (.cells #[.int .i64 m, .slice a l.length cap] 24)).heap.size (u.val.alloc (.cells #[.int .i64 m, .slice a l.length cap] 24)) (.int .i64 0))) := Lib.hid (fun v => by
    have := c_setsCheck v m s
    rwa [show errno (decide (isSet m s)) 1 = 0 by
      have : isSet (m : Int) (s : Int) := by unfold isSet; omega
      simp [errno, this]] at this)
  have KR := Lib.hid (fun v : Later (u.val.alloc (.cells #[.int .i64 m, .slice a l.length cap] 24)).heap.size (u.val.alloc (.cells #[.int .i64 m, .slice a l.length cap] 24)) => c_axRanks0 v m hm l a cap hI hlen hfam)
  clear h hI he hall hfam
  go_enter Try.func27, Try.ntmps27
  go_wp2_with (first | (go_at_call 28; (with_reducible refine (KC.out).mono ?_); rintro e _ ⟨rfl, v1, rfl⟩) | (go_at_call 137; (with_reducible refine (KS.out _).mono ?_); rintro e _ ⟨rfl, v1, rfl⟩) | (go_at_call 133; (with_reducible refine (KR.out _).mono ?_); rintro e _ ⟨_, rfl, ⟨g, c, rfl, hT⟩, v1, rfl⟩; have HT := Lib.hid hT; clear hT))
  have cc : Hid (∀ t, t < bit m → ∀ w : Later v1.val.heap.size v1.val, w.val.cell? ⟨g, t, none⟩ = some (.int .i64 (rk (toN l) t : Int))) := Lib.hid (fun t ht w => (HT.out.keep w.below).cell ht)
  have HVB : Hid (∀ v : Later v1.val.heap.size v1.val, ∃ w : Later B W, w.val = v.val) := Lib.hid (fun v => HV.out (v1.up v))
  have HXc := Lib.hid hXc
  clear KC KS KR q0 q1 p0 p1 HV HT hXc T0
  generalize toN l = L at *
  obtain ⟨y, hy⟩ : ∃ y : Later v1.val.heap.size v1.val, y.val = v1.val := ⟨Later.self _, rfl⟩
  rw [← hy]
  clear hy
  generalize v1.val = V at *
  have c0 := cc.out s hs
  have hs8 : s < 256 := by omega
  go_loopw [9, 28] (fun o i wr => ∃ (k Y : Nat) (v : Later V.heap.size V), k ≤ m ∧ Y < 256 ∧ i = .int .i64 k ∧ o = .int .i64 Y ∧ wr = v.val ∧ Hid (CloTo L s k Y)) (fun _ i _ => m - (intOf i).toNat)
  case atStart => exact ⟨0, s, y, by omega, hs8, rfl, rfl, rfl, Lib.hid (fun i hi => by simp)⟩
  case round =>
    clear y
    obtain ⟨k, Y, v, hk, hY, rfl, rfl, rfl, HY⟩ := hrel
    by_cases hlt : k < m
    · have hbk := bit_lt k (by omega)
      have bc := bit_cast k
      have w1 := IntWalk.i64_in (bit k : Int) (by omega)
      have o1 := i64_or s (bit k) (by omega) (by omega)
      have o2 := i64_or Y (bit k) (by omega) (by omega)
      have hor : s ||| bit k < bit m := or_lt_bit hs (bit_lt_bit hlt)
      have hY2 := or_lt Y (bit k) hY (by omega)
      have c1 := cc.out _ hor
      by_cases hq : rk L (s ||| bit k) = rk L s
      · have d2 : ((rk L (s ||| bit k) : Int) == (rk L s : Int)) = true := by rw [beq_iff_eq]; omega
        have HY2 : Hid (CloTo L s (k+1) (Y ||| bit k)) := Lib.hid (fun i hi => by
          rw [or_bit_testBit, Bool.or_eq_true, HY.out i hi, decide_eq_true_eq]
          by_cases e : k = i
          · subst e; simp [hq]
          · have : (i < k + 1) = (i < k) := by simp; omega
            simp [e, this])
        clear HY hq
        generalize rk L (s ||| bit k) = p at *
        generalize rk L s = q at *
        generalize s ||| bit k = z at *
        go_wp2
        refine wp_region_later v (by kernel_rfl) (by kernel_rfl) (fun _ => ?_)
        repeat (first | go_big_quiet_step ((fail)) | (refine wpQuiet_step (fun K hK => ?_); go_simp; refine ⟨_, fun _ => rfl, ?_⟩; refine hK _ ?_; clear hK K))
        refine wpQuiet_nil ?_
        intro v
        go_wp2
        go_roundw
        case rel => exact ⟨k+1, Y ||| bit k, v, by omega, hY2, by go_num, rfl, rfl, HY2⟩
        case measure => simp [intOf]; omega
      · have d2 : ((rk L (s ||| bit k) : Int) == (rk L s : Int)) = false := by rw [beq_eq_false_iff_ne]; omega
        have HY2 : Hid (CloTo L s (k+1) Y) := Lib.hid (fun i hi => by
          rw [HY.out i hi]
          by_cases e : k = i
          · subst e; simp [hq]
          · have : (i < k + 1) = (i < k) := by simp; omega
            simp [this])
        clear HY hq
        generalize rk L (s ||| bit k) = p at *
        generalize rk L s = q at *
        generalize s ||| bit k = z at *
        go_wp2
        refine wp_region_later v (by kernel_rfl) (by kernel_rfl) (fun _ => ?_)
        repeat (first | go_big_quiet_step ((fail)) | (refine wpQuiet_step (fun K hK => ?_); go_simp; refine ⟨_, fun _ => rfl, ?_⟩; refine hK _ ?_; clear hK K))
        refine wpQuiet_nil ?_
        intro v
        go_wp2
        go_roundw
        case rel => exact ⟨k+1, Y, v, by omega, hY, by go_num, rfl, rfl, HY2⟩
        case measure => simp [intOf]; omega
    · have hke : k = m := by omega
      subst hke
      have HE : Hid (Y = X) := Lib.hid (eq_of_bits hY hX (fun i hi => by rw [Bool.eq_iff_iff, HY.out i hi, HXc.out i hi]))
      go_wp2
      go_ret2
      exact Ret.of (HVB.out v) (by rw [HE.out]; rfl)

end Go.Proofs.Ytjpcelldbhdneaa
