/-
  rotalaw.GreedySwaps, the walks over two bases: printed by wip/tools/gsw.py.
-/
import Derived.Test.YtcljgnmlpfddiaaGreedyLaw
namespace Go.Proofs.Ytcljgnmlpfddiaa
open Go.RowKit
set_option linter.unusedVariables false

set_option maxRecDepth 100000 in
set_option maxHeartbeats 40000000 in
theorem law_sw_d11 {B : Nat} {W : World} (u : Later B W) (m A Bb : Nat) (x : Int) (i : Int) (L l : List Nat) (a : Option Addr) (cap : Nat) (h : IntsAt B W a (ints L)) (hlen : (ints L).length ≤ 4611686018427387904) (he : MatIs (m : Int) (ints L) 0) (hm : m ≤ 8) (hTN : toN (ints L) = L) (hA : A ∈ L) (hB : Bb ∈ L) (hA8 : A < 256) (hB8 : Bb < 256) (hl : LadIs L Bb A l) (hx9 : x < 9223372036854775808) (hx : x < 0) (hi : i < 0) :
    Calls Try.prog 12 #[.agg #[.int .i64 m, .slice a (ints L).length cap], .int .i64 A, .int .i64 Bb, .int .i64 x, .int .i64 i] u.val (Ret B W (.bool true)) := by
  have hlt := he.zero.1.1
  have hex := he.zero.2
  have hf8 := he.zero.1.fam8
  rw [show toN (ints L) = L from hTN] at hf8 hex
  have h256 : ∀ b, b ∈ L → b < 256 := hf8.lt
  have hbm : ∀ b, b ∈ L → b < bit m := fun b hb => by
    have := fam_lt hlt b (by rw [hTN]; exact hb)
    simpa using this
  have T0 : Hid (Two (u.val.alloc (.cells #[.int .i64 m, .slice a (ints L).length cap] 60)) u.val.heap.size 60 (.int .i64 m) (.slice a (ints L).length cap)) := Lib.hid (Two.new _ _ _ _)
  have hI : IntsAt (u.val.alloc (.cells #[.int .i64 m, .slice a (ints L).length cap] 60)).heap.size (u.val.alloc (.cells #[.int .i64 m, .slice a (ints L).length cap] 60)) a (ints L) := h.to (u.alloc _)
  have HV : Hid (∀ v : Later (u.val.alloc (.cells #[.int .i64 m, .slice a (ints L).length cap] 60)).heap.size (u.val.alloc (.cells #[.int .i64 m, .slice a (ints L).length cap] 60)), ∃ w : Later B W, w.val = v.val) := Lib.hid (fun v => ⟨(u.alloc _).up v, rfl⟩)
  have q0 : ∀ w : Later (u.val.alloc (.cells #[.int .i64 m, .slice a (ints L).length cap] 60)).heap.size (u.val.alloc (.cells #[.int .i64 m, .slice a (ints L).length cap] 60)), w.val.cell? ⟨u.val.heap.size, 0, none⟩ = some (.int .i64 m) := fun w => (T0.out.keep w.below).c0
  have q1 : ∀ w : Later (u.val.alloc (.cells #[.int .i64 m, .slice a (ints L).length cap] 60)).heap.size (u.val.alloc (.cells #[.int .i64 m, .slice a (ints L).length cap] 60)), w.val.cell? ⟨u.val.heap.size, 1, none⟩ = some (.slice a (ints L).length cap) := fun w => (T0.out.keep w.below).c1
  generalize hW1 : (u.val.alloc (.cells #[.int .i64 m, .slice a (ints L).length cap] 60)) = W1 at *
  generalize hgu : u.val.heap.size = gu at *
  have hlenL : L.length ≤ 4611686018427387904 := by rw [ints_len] at hlen; exact hlen
  have KM0 : Hid (Calls Try.prog 74 #[.agg #[.int .i64 m, .slice a (ints L).length cap]] W1 (Ret W1.heap.size W1 (.int .i64 0))) := Lib.hid (c_refMatroid (Later.self W1) m (ints L) a cap 0 hI hlen he)
  have p0 : W1.cell? ⟨gu, 0, none⟩ = some (.int .i64 m) := q0 (Later.self W1)
  have p1 : W1.cell? ⟨gu, 1, none⟩ = some (.slice a (ints L).length cap) := q1 (Later.self W1)
  have KH : Hid (∀ (v : Later W1.heap.size W1) (z : Int) (d : Bool), decide (z ∈ ints L) = d → Calls Try.prog 75 #[.slice a (ints L).length cap, .int .i64 z] v.val (Ret W1.heap.size W1 (.bool d))) := Lib.hid (fun v z d hd => by
    have := c_has v (ints L) z a cap hI (by omega)
    rwa [hd] at this)
  have KBt := Lib.hid (fun (v : Later W1.heap.size W1) (e : Int) => (show Calls Try.prog 14 #[.bool true, .int .i64 e] v.val (Ret W1.heap.size W1 (.int .i64 0)) from c_bad v true e))
  have KBf := Lib.hid (fun (v : Later W1.heap.size W1) (e : Int) => (show Calls Try.prog 14 #[.bool false, .int .i64 e] v.val (Ret W1.heap.size W1 (.int .i64 e)) from c_bad v false e))
  have KHx := Lib.hid (fun v => KH.out v A true (by simp [mem_ints, hA]))
  have KHy := Lib.hid (fun v => KH.out v Bb true (by simp [mem_ints, hB]))
  have KRL := Lib.hid (fun v : Later W1.heap.size W1 => c_refLadder m Bb L a cap hlenL hm hB8 _ _ _ v A l hI hA8 hl rfl)
  clear T0 KH
  subst hW1
  subst hgu
  go_enter Try.func12, Try.ntmps12
  go_upto_region 11 with (first | (go_at_call 74; ((with_reducible refine (KM0.out).mono ?_); rintro e _ ⟨rfl, v1, rfl⟩)) | (go_at_call 75; ((with_reducible refine (KHx.out _).mono ?_); rintro e _ ⟨rfl, v1, rfl⟩)) | (go_at_call 75; ((with_reducible refine (KHy.out _).mono ?_); rintro e _ ⟨rfl, v1, rfl⟩)) | (go_at_call 14; ((with_reducible refine (KBt.out _ _).mono ?_); rintro e _ ⟨rfl, v1, rfl⟩)) | (go_at_call 76; ((with_reducible refine (KRL.out _).mono ?_); rintro e _ ⟨_, rfl, ⟨adR, cpR, rfl, hIR, hcpR⟩, v1, rfl⟩)))
  have hIV : IntsAt v1.val.heap.size v1.val a (ints L) := hI.to v1
  have HIR := Lib.hid hIR
  have HVB : Hid (∀ (w : Later v1.val.heap.size v1.val) (y : Later w.val.heap.size w.val), ∃ w' : Later B W, w'.val = y.val) := Lib.hid (fun w y => HV.out (v1.up (w.up y)))
  have r0 : ∀ w : Later v1.val.heap.size v1.val, w.val.cell? ⟨u.val.heap.size, 0, none⟩ = some (.int .i64 m) := fun w => q0 (v1.up w)
  have r1 : ∀ w : Later v1.val.heap.size v1.val, w.val.cell? ⟨u.val.heap.size, 1, none⟩ = some (.slice a (ints L).length cap) := fun w => q1 (v1.up w)
  clear KM0 p0 p1 KHx KHy KRL KBt KBf hI HV q0 q1 hIR hcpR
  generalize u.val.heap.size = gu at *
  generalize v1.val = V at *
  clear h
  have KBt := Lib.hid (fun (v : Later V.heap.size V) (e : Int) => (show Calls Try.prog 14 #[.bool true, .int .i64 e] v.val (Ret V.heap.size V (.int .i64 0)) from c_bad v true e))
  have KBf := Lib.hid (fun (v : Later V.heap.size V) (e : Int) => (show Calls Try.prog 14 #[.bool false, .int .i64 e] v.val (Ret V.heap.size V (.int .i64 e)) from c_bad v false e))
  have HOk := Lib.hid (fun (B : Nat) (W : World) (u : Later B W) (y : Int) => c_one_ok u y)
  have HO3 := Lib.hid (fun (B : Nat) (W : World) (u : Later B W) (y : Int) => c_one_err u y 3 (by decide))
  have HO1 := Lib.hid (fun (B : Nat) (W : World) (u : Later B W) (y : Int) => c_one_err u y 1 (by decide))
  have HO5 := Lib.hid (fun (B : Nat) (W : World) (u : Later B W) (y : Int) => c_one_err u y 5 (by decide))
  have KS := Lib.hid (fun v : Later V.heap.size V => c_swap_bad v m A Bb x L a cap hIV hlen he hA hB hA8 hB8 hx9 (.inl hx))
  have KL := Lib.hid (fun v : Later V.heap.size V => c_ladder v m A Bb L l a cap hIV hlen he hm hA hB hA8 hB8 hl)
  have KF := Lib.hid (fun v : Later V.heap.size V => c_fund_bad (Later.self v.val) m Bb i L a cap (hIV.to v) hlen he hm hB hB8 (.inl hi))
  have KF' : Hid (∀ v : Later V.heap.size V, Calls Try.prog 81 #[.agg #[.int .i64 m, .slice a (ints L).length cap], .int .i64 Bb, .int .i64 i] v.val (Ret v.val.heap.size v.val (.tuple #[.int .i64 0, .int .i64 3]))) := KF
  have hl256 : (ints l).length ≤ 4611686018427387904 := by
    have h1 := LadIs.len l A hA8 hl
    have h2 : nand A Bb < 256 := nand_lt _ _ 8 hA8
    rw [ints_len]; omega
  have HL := Lib.hid (fun (w : Later V.heap.size V) (y : Later w.val.heap.size w.val) (ad : Option Addr) (cp : Nat) (hd : IntsAt w.val.heap.size w.val ad (ints l)) => c_list y (ints l) (ints l) ad adR cp cpR 0 0 hd (HIR.out.to w) hl256 rfl (by rw [if_pos rfl]))
  have o1 := i64_andNot A Bb (by omega) (by omega)
  have i1 : decide ((0 : Int) ≤ i) = false := decide_eq_false (by omega)
  have x1 : decide ((0 : Int) ≤ x) = false := decide_eq_false (by omega)
  clear hIV he hlt hex hf8 h256 hbm hl HIR KF
  obtain ⟨v1, hv1⟩ : ∃ v1 : Later V.heap.size V, v1.val = V := ⟨Later.self _, rfl⟩
  rw [← hv1]
  clear hv1
  go_wp2_with (first | (go_at_call 14; ((with_reducible refine (KBf.out _ _).mono ?_); rintro e _ ⟨rfl, v1, rfl⟩)) | (go_at_call 14; ((with_reducible refine (KBt.out _ _).mono ?_); rintro e _ ⟨rfl, v1, rfl⟩)) | (go_at_call 79; ((with_reducible refine (KS.out _).mono ?_); rintro e _ ⟨rfl, v1, rfl⟩)) | (go_at_call 80; ((with_reducible refine (KL.out _).mono ?_); rintro e _ ⟨_, rfl, ⟨_, rfl, ⟨ad2, cp2, rfl, hI3, hcp3⟩⟩, w2, rfl⟩; have HI3 := Lib.hid hI3; clear hI3 hcp3)) | (go_at_call 81; ((with_reducible refine (KF'.out w2).mono ?_); rintro e _ ⟨rfl, v1, rfl⟩)) | (go_at_call 24; ((with_reducible refine (HO3.out _ _ _ _).mono ?_); rintro e _ ⟨rfl, v1, rfl⟩)) | (go_at_call 24; ((with_reducible refine (HO3.out _ _ _ _).mono ?_); rintro e _ ⟨rfl, v1, rfl⟩)) | (go_at_call 45; ((refine (HL.out _ _ _ _ HI3.out).mono ?_); rintro e _ ⟨rfl, v1, rfl⟩)))
  go_ret
  exact Ret.of (HVB.out _ v1) rfl

set_option maxRecDepth 100000 in
set_option maxHeartbeats 40000000 in
theorem law_sw_d12 {B : Nat} {W : World} (u : Later B W) (m A Bb : Nat) (x : Int) (i : Nat) (L l : List Nat) (a : Option Addr) (cap : Nat) (h : IntsAt B W a (ints L)) (hlen : (ints L).length ≤ 4611686018427387904) (he : MatIs (m : Int) (ints L) 0) (hm : m ≤ 8) (hTN : toN (ints L) = L) (hA : A ∈ L) (hB : Bb ∈ L) (hA8 : A < 256) (hB8 : Bb < 256) (hl : LadIs L Bb A l) (hx9 : x < 9223372036854775808) (hx : x < 0) (hi : m ≤ i) :
    Calls Try.prog 12 #[.agg #[.int .i64 m, .slice a (ints L).length cap], .int .i64 A, .int .i64 Bb, .int .i64 x, .int .i64 i] u.val (Ret B W (.bool true)) := by
  have hlt := he.zero.1.1
  have hex := he.zero.2
  have hf8 := he.zero.1.fam8
  rw [show toN (ints L) = L from hTN] at hf8 hex
  have h256 : ∀ b, b ∈ L → b < 256 := hf8.lt
  have hbm : ∀ b, b ∈ L → b < bit m := fun b hb => by
    have := fam_lt hlt b (by rw [hTN]; exact hb)
    simpa using this
  have T0 : Hid (Two (u.val.alloc (.cells #[.int .i64 m, .slice a (ints L).length cap] 60)) u.val.heap.size 60 (.int .i64 m) (.slice a (ints L).length cap)) := Lib.hid (Two.new _ _ _ _)
  have hI : IntsAt (u.val.alloc (.cells #[.int .i64 m, .slice a (ints L).length cap] 60)).heap.size (u.val.alloc (.cells #[.int .i64 m, .slice a (ints L).length cap] 60)) a (ints L) := h.to (u.alloc _)
  have HV : Hid (∀ v : Later (u.val.alloc (.cells #[.int .i64 m, .slice a (ints L).length cap] 60)).heap.size (u.val.alloc (.cells #[.int .i64 m, .slice a (ints L).length cap] 60)), ∃ w : Later B W, w.val = v.val) := Lib.hid (fun v => ⟨(u.alloc _).up v, rfl⟩)
  have q0 : ∀ w : Later (u.val.alloc (.cells #[.int .i64 m, .slice a (ints L).length cap] 60)).heap.size (u.val.alloc (.cells #[.int .i64 m, .slice a (ints L).length cap] 60)), w.val.cell? ⟨u.val.heap.size, 0, none⟩ = some (.int .i64 m) := fun w => (T0.out.keep w.below).c0
  have q1 : ∀ w : Later (u.val.alloc (.cells #[.int .i64 m, .slice a (ints L).length cap] 60)).heap.size (u.val.alloc (.cells #[.int .i64 m, .slice a (ints L).length cap] 60)), w.val.cell? ⟨u.val.heap.size, 1, none⟩ = some (.slice a (ints L).length cap) := fun w => (T0.out.keep w.below).c1
  generalize hW1 : (u.val.alloc (.cells #[.int .i64 m, .slice a (ints L).length cap] 60)) = W1 at *
  generalize hgu : u.val.heap.size = gu at *
  have hlenL : L.length ≤ 4611686018427387904 := by rw [ints_len] at hlen; exact hlen
  have KM0 : Hid (Calls Try.prog 74 #[.agg #[.int .i64 m, .slice a (ints L).length cap]] W1 (Ret W1.heap.size W1 (.int .i64 0))) := Lib.hid (c_refMatroid (Later.self W1) m (ints L) a cap 0 hI hlen he)
  have p0 : W1.cell? ⟨gu, 0, none⟩ = some (.int .i64 m) := q0 (Later.self W1)
  have p1 : W1.cell? ⟨gu, 1, none⟩ = some (.slice a (ints L).length cap) := q1 (Later.self W1)
  have KH : Hid (∀ (v : Later W1.heap.size W1) (z : Int) (d : Bool), decide (z ∈ ints L) = d → Calls Try.prog 75 #[.slice a (ints L).length cap, .int .i64 z] v.val (Ret W1.heap.size W1 (.bool d))) := Lib.hid (fun v z d hd => by
    have := c_has v (ints L) z a cap hI (by omega)
    rwa [hd] at this)
  have KBt := Lib.hid (fun (v : Later W1.heap.size W1) (e : Int) => (show Calls Try.prog 14 #[.bool true, .int .i64 e] v.val (Ret W1.heap.size W1 (.int .i64 0)) from c_bad v true e))
  have KBf := Lib.hid (fun (v : Later W1.heap.size W1) (e : Int) => (show Calls Try.prog 14 #[.bool false, .int .i64 e] v.val (Ret W1.heap.size W1 (.int .i64 e)) from c_bad v false e))
  have KHx := Lib.hid (fun v => KH.out v A true (by simp [mem_ints, hA]))
  have KHy := Lib.hid (fun v => KH.out v Bb true (by simp [mem_ints, hB]))
  have KRL := Lib.hid (fun v : Later W1.heap.size W1 => c_refLadder m Bb L a cap hlenL hm hB8 _ _ _ v A l hI hA8 hl rfl)
  clear T0 KH
  subst hW1
  subst hgu
  go_enter Try.func12, Try.ntmps12
  go_upto_region 11 with (first | (go_at_call 74; ((with_reducible refine (KM0.out).mono ?_); rintro e _ ⟨rfl, v1, rfl⟩)) | (go_at_call 75; ((with_reducible refine (KHx.out _).mono ?_); rintro e _ ⟨rfl, v1, rfl⟩)) | (go_at_call 75; ((with_reducible refine (KHy.out _).mono ?_); rintro e _ ⟨rfl, v1, rfl⟩)) | (go_at_call 14; ((with_reducible refine (KBt.out _ _).mono ?_); rintro e _ ⟨rfl, v1, rfl⟩)) | (go_at_call 76; ((with_reducible refine (KRL.out _).mono ?_); rintro e _ ⟨_, rfl, ⟨adR, cpR, rfl, hIR, hcpR⟩, v1, rfl⟩)))
  have hIV : IntsAt v1.val.heap.size v1.val a (ints L) := hI.to v1
  have HIR := Lib.hid hIR
  have HVB : Hid (∀ (w : Later v1.val.heap.size v1.val) (y : Later w.val.heap.size w.val), ∃ w' : Later B W, w'.val = y.val) := Lib.hid (fun w y => HV.out (v1.up (w.up y)))
  have r0 : ∀ w : Later v1.val.heap.size v1.val, w.val.cell? ⟨u.val.heap.size, 0, none⟩ = some (.int .i64 m) := fun w => q0 (v1.up w)
  have r1 : ∀ w : Later v1.val.heap.size v1.val, w.val.cell? ⟨u.val.heap.size, 1, none⟩ = some (.slice a (ints L).length cap) := fun w => q1 (v1.up w)
  clear KM0 p0 p1 KHx KHy KRL KBt KBf hI HV q0 q1 hIR hcpR
  generalize u.val.heap.size = gu at *
  generalize v1.val = V at *
  clear h
  have KBt := Lib.hid (fun (v : Later V.heap.size V) (e : Int) => (show Calls Try.prog 14 #[.bool true, .int .i64 e] v.val (Ret V.heap.size V (.int .i64 0)) from c_bad v true e))
  have KBf := Lib.hid (fun (v : Later V.heap.size V) (e : Int) => (show Calls Try.prog 14 #[.bool false, .int .i64 e] v.val (Ret V.heap.size V (.int .i64 e)) from c_bad v false e))
  have HOk := Lib.hid (fun (B : Nat) (W : World) (u : Later B W) (y : Int) => c_one_ok u y)
  have HO3 := Lib.hid (fun (B : Nat) (W : World) (u : Later B W) (y : Int) => c_one_err u y 3 (by decide))
  have HO1 := Lib.hid (fun (B : Nat) (W : World) (u : Later B W) (y : Int) => c_one_err u y 1 (by decide))
  have HO5 := Lib.hid (fun (B : Nat) (W : World) (u : Later B W) (y : Int) => c_one_err u y 5 (by decide))
  have KS := Lib.hid (fun v : Later V.heap.size V => c_swap_bad v m A Bb x L a cap hIV hlen he hA hB hA8 hB8 hx9 (.inl hx))
  have KL := Lib.hid (fun v : Later V.heap.size V => c_ladder v m A Bb L l a cap hIV hlen he hm hA hB hA8 hB8 hl)
  have KF := Lib.hid (fun v : Later V.heap.size V => c_fund_bad (Later.self v.val) m Bb i L a cap (hIV.to v) hlen he hm hB hB8 (.inr (.inl (by omega))))
  have KF' : Hid (∀ v : Later V.heap.size V, Calls Try.prog 81 #[.agg #[.int .i64 m, .slice a (ints L).length cap], .int .i64 Bb, .int .i64 i] v.val (Ret v.val.heap.size v.val (.tuple #[.int .i64 0, .int .i64 3]))) := KF
  have hl256 : (ints l).length ≤ 4611686018427387904 := by
    have h1 := LadIs.len l A hA8 hl
    have h2 : nand A Bb < 256 := nand_lt _ _ 8 hA8
    rw [ints_len]; omega
  have HL := Lib.hid (fun (w : Later V.heap.size V) (y : Later w.val.heap.size w.val) (ad : Option Addr) (cp : Nat) (hd : IntsAt w.val.heap.size w.val ad (ints l)) => c_list y (ints l) (ints l) ad adR cp cpR 0 0 hd (HIR.out.to w) hl256 rfl (by rw [if_pos rfl]))
  have o1 := i64_andNot A Bb (by omega) (by omega)
  have i0 : decide ((0 : Int) ≤ (i : Int)) = true := decide_eq_true (by omega)
  have i2 : decide ((i : Int) < (m : Int)) = false := decide_eq_false (by omega)
  have i3 : decide (i < m) = false := decide_eq_false (by omega)
  have x1 : decide ((0 : Int) ≤ x) = false := decide_eq_false (by omega)
  clear hIV he hlt hex hf8 h256 hbm hl HIR KF
  obtain ⟨v1, hv1⟩ : ∃ v1 : Later V.heap.size V, v1.val = V := ⟨Later.self _, rfl⟩
  rw [← hv1]
  clear hv1
  go_wp2_with (first | (go_at_call 14; ((with_reducible refine (KBf.out _ _).mono ?_); rintro e _ ⟨rfl, v1, rfl⟩)) | (go_at_call 14; ((with_reducible refine (KBt.out _ _).mono ?_); rintro e _ ⟨rfl, v1, rfl⟩)) | (go_at_call 79; ((with_reducible refine (KS.out _).mono ?_); rintro e _ ⟨rfl, v1, rfl⟩)) | (go_at_call 80; ((with_reducible refine (KL.out _).mono ?_); rintro e _ ⟨_, rfl, ⟨_, rfl, ⟨ad2, cp2, rfl, hI3, hcp3⟩⟩, w2, rfl⟩; have HI3 := Lib.hid hI3; clear hI3 hcp3)) | (go_at_call 81; ((with_reducible refine (KF'.out w2).mono ?_); rintro e _ ⟨rfl, v1, rfl⟩)) | (go_at_call 24; ((with_reducible refine (HO3.out _ _ _ _).mono ?_); rintro e _ ⟨rfl, v1, rfl⟩)) | (go_at_call 24; ((with_reducible refine (HO3.out _ _ _ _).mono ?_); rintro e _ ⟨rfl, v1, rfl⟩)) | (go_at_call 45; ((refine (HL.out _ _ _ _ HI3.out).mono ?_); rintro e _ ⟨rfl, v1, rfl⟩)))
  go_ret
  exact Ret.of (HVB.out _ v1) rfl

set_option maxRecDepth 100000 in
set_option maxHeartbeats 40000000 in
theorem law_sw_d13 {B : Nat} {W : World} (u : Later B W) (m A Bb : Nat) (x : Int) (i : Nat) (L l : List Nat) (a : Option Addr) (cap : Nat) (h : IntsAt B W a (ints L)) (hlen : (ints L).length ≤ 4611686018427387904) (he : MatIs (m : Int) (ints L) 0) (hm : m ≤ 8) (hTN : toN (ints L) = L) (hA : A ∈ L) (hB : Bb ∈ L) (hA8 : A < 256) (hB8 : Bb < 256) (hl : LadIs L Bb A l) (hx9 : x < 9223372036854775808) (hx : x < 0) (hi : i < m) (hbi : Bb.testBit i = true) :
    Calls Try.prog 12 #[.agg #[.int .i64 m, .slice a (ints L).length cap], .int .i64 A, .int .i64 Bb, .int .i64 x, .int .i64 i] u.val (Ret B W (.bool true)) := by
  have hlt := he.zero.1.1
  have hex := he.zero.2
  have hf8 := he.zero.1.fam8
  rw [show toN (ints L) = L from hTN] at hf8 hex
  have h256 : ∀ b, b ∈ L → b < 256 := hf8.lt
  have hbm : ∀ b, b ∈ L → b < bit m := fun b hb => by
    have := fam_lt hlt b (by rw [hTN]; exact hb)
    simpa using this
  have T0 : Hid (Two (u.val.alloc (.cells #[.int .i64 m, .slice a (ints L).length cap] 60)) u.val.heap.size 60 (.int .i64 m) (.slice a (ints L).length cap)) := Lib.hid (Two.new _ _ _ _)
  have hI : IntsAt (u.val.alloc (.cells #[.int .i64 m, .slice a (ints L).length cap] 60)).heap.size (u.val.alloc (.cells #[.int .i64 m, .slice a (ints L).length cap] 60)) a (ints L) := h.to (u.alloc _)
  have HV : Hid (∀ v : Later (u.val.alloc (.cells #[.int .i64 m, .slice a (ints L).length cap] 60)).heap.size (u.val.alloc (.cells #[.int .i64 m, .slice a (ints L).length cap] 60)), ∃ w : Later B W, w.val = v.val) := Lib.hid (fun v => ⟨(u.alloc _).up v, rfl⟩)
  have q0 : ∀ w : Later (u.val.alloc (.cells #[.int .i64 m, .slice a (ints L).length cap] 60)).heap.size (u.val.alloc (.cells #[.int .i64 m, .slice a (ints L).length cap] 60)), w.val.cell? ⟨u.val.heap.size, 0, none⟩ = some (.int .i64 m) := fun w => (T0.out.keep w.below).c0
  have q1 : ∀ w : Later (u.val.alloc (.cells #[.int .i64 m, .slice a (ints L).length cap] 60)).heap.size (u.val.alloc (.cells #[.int .i64 m, .slice a (ints L).length cap] 60)), w.val.cell? ⟨u.val.heap.size, 1, none⟩ = some (.slice a (ints L).length cap) := fun w => (T0.out.keep w.below).c1
  generalize hW1 : (u.val.alloc (.cells #[.int .i64 m, .slice a (ints L).length cap] 60)) = W1 at *
  generalize hgu : u.val.heap.size = gu at *
  have hlenL : L.length ≤ 4611686018427387904 := by rw [ints_len] at hlen; exact hlen
  have KM0 : Hid (Calls Try.prog 74 #[.agg #[.int .i64 m, .slice a (ints L).length cap]] W1 (Ret W1.heap.size W1 (.int .i64 0))) := Lib.hid (c_refMatroid (Later.self W1) m (ints L) a cap 0 hI hlen he)
  have p0 : W1.cell? ⟨gu, 0, none⟩ = some (.int .i64 m) := q0 (Later.self W1)
  have p1 : W1.cell? ⟨gu, 1, none⟩ = some (.slice a (ints L).length cap) := q1 (Later.self W1)
  have KH : Hid (∀ (v : Later W1.heap.size W1) (z : Int) (d : Bool), decide (z ∈ ints L) = d → Calls Try.prog 75 #[.slice a (ints L).length cap, .int .i64 z] v.val (Ret W1.heap.size W1 (.bool d))) := Lib.hid (fun v z d hd => by
    have := c_has v (ints L) z a cap hI (by omega)
    rwa [hd] at this)
  have KBt := Lib.hid (fun (v : Later W1.heap.size W1) (e : Int) => (show Calls Try.prog 14 #[.bool true, .int .i64 e] v.val (Ret W1.heap.size W1 (.int .i64 0)) from c_bad v true e))
  have KBf := Lib.hid (fun (v : Later W1.heap.size W1) (e : Int) => (show Calls Try.prog 14 #[.bool false, .int .i64 e] v.val (Ret W1.heap.size W1 (.int .i64 e)) from c_bad v false e))
  have KHx := Lib.hid (fun v => KH.out v A true (by simp [mem_ints, hA]))
  have KHy := Lib.hid (fun v => KH.out v Bb true (by simp [mem_ints, hB]))
  have KRL := Lib.hid (fun v : Later W1.heap.size W1 => c_refLadder m Bb L a cap hlenL hm hB8 _ _ _ v A l hI hA8 hl rfl)
  clear T0 KH
  subst hW1
  subst hgu
  go_enter Try.func12, Try.ntmps12
  go_upto_region 11 with (first | (go_at_call 74; ((with_reducible refine (KM0.out).mono ?_); rintro e _ ⟨rfl, v1, rfl⟩)) | (go_at_call 75; ((with_reducible refine (KHx.out _).mono ?_); rintro e _ ⟨rfl, v1, rfl⟩)) | (go_at_call 75; ((with_reducible refine (KHy.out _).mono ?_); rintro e _ ⟨rfl, v1, rfl⟩)) | (go_at_call 14; ((with_reducible refine (KBt.out _ _).mono ?_); rintro e _ ⟨rfl, v1, rfl⟩)) | (go_at_call 76; ((with_reducible refine (KRL.out _).mono ?_); rintro e _ ⟨_, rfl, ⟨adR, cpR, rfl, hIR, hcpR⟩, v1, rfl⟩)))
  have hIV : IntsAt v1.val.heap.size v1.val a (ints L) := hI.to v1
  have HIR := Lib.hid hIR
  have HVB : Hid (∀ (w : Later v1.val.heap.size v1.val) (y : Later w.val.heap.size w.val), ∃ w' : Later B W, w'.val = y.val) := Lib.hid (fun w y => HV.out (v1.up (w.up y)))
  have r0 : ∀ w : Later v1.val.heap.size v1.val, w.val.cell? ⟨u.val.heap.size, 0, none⟩ = some (.int .i64 m) := fun w => q0 (v1.up w)
  have r1 : ∀ w : Later v1.val.heap.size v1.val, w.val.cell? ⟨u.val.heap.size, 1, none⟩ = some (.slice a (ints L).length cap) := fun w => q1 (v1.up w)
  clear KM0 p0 p1 KHx KHy KRL KBt KBf hI HV q0 q1 hIR hcpR
  generalize u.val.heap.size = gu at *
  generalize v1.val = V at *
  clear h
  have KBt := Lib.hid (fun (v : Later V.heap.size V) (e : Int) => (show Calls Try.prog 14 #[.bool true, .int .i64 e] v.val (Ret V.heap.size V (.int .i64 0)) from c_bad v true e))
  have KBf := Lib.hid (fun (v : Later V.heap.size V) (e : Int) => (show Calls Try.prog 14 #[.bool false, .int .i64 e] v.val (Ret V.heap.size V (.int .i64 e)) from c_bad v false e))
  have HOk := Lib.hid (fun (B : Nat) (W : World) (u : Later B W) (y : Int) => c_one_ok u y)
  have HO3 := Lib.hid (fun (B : Nat) (W : World) (u : Later B W) (y : Int) => c_one_err u y 3 (by decide))
  have HO1 := Lib.hid (fun (B : Nat) (W : World) (u : Later B W) (y : Int) => c_one_err u y 1 (by decide))
  have HO5 := Lib.hid (fun (B : Nat) (W : World) (u : Later B W) (y : Int) => c_one_err u y 5 (by decide))
  have KS := Lib.hid (fun v : Later V.heap.size V => c_swap_bad v m A Bb x L a cap hIV hlen he hA hB hA8 hB8 hx9 (.inl hx))
  have KL := Lib.hid (fun v : Later V.heap.size V => c_ladder v m A Bb L l a cap hIV hlen he hm hA hB hA8 hB8 hl)
  have KF := Lib.hid (fun v : Later V.heap.size V => c_fund_bad (Later.self v.val) m Bb i L a cap (hIV.to v) hlen he hm hB hB8 (.inr (.inr (by simpa using hbi))))
  have KF' : Hid (∀ v : Later V.heap.size V, Calls Try.prog 81 #[.agg #[.int .i64 m, .slice a (ints L).length cap], .int .i64 Bb, .int .i64 i] v.val (Ret v.val.heap.size v.val (.tuple #[.int .i64 0, .int .i64 3]))) := KF
  have hl256 : (ints l).length ≤ 4611686018427387904 := by
    have h1 := LadIs.len l A hA8 hl
    have h2 : nand A Bb < 256 := nand_lt _ _ 8 hA8
    rw [ints_len]; omega
  have HL := Lib.hid (fun (w : Later V.heap.size V) (y : Later w.val.heap.size w.val) (ad : Option Addr) (cp : Nat) (hd : IntsAt w.val.heap.size w.val ad (ints l)) => c_list y (ints l) (ints l) ad adR cp cpR 0 0 hd (HIR.out.to w) hl256 rfl (by rw [if_pos rfl]))
  have o1 := i64_andNot A Bb (by omega) (by omega)
  have i0 : decide ((0 : Int) ≤ (i : Int)) = true := decide_eq_true (by omega)
  have i2 : decide ((i : Int) < (m : Int)) = true := decide_eq_true (by omega)
  have i3 : decide (i < m) = true := decide_eq_true hi
  have x1 : decide ((0 : Int) ≤ x) = false := decide_eq_false (by omega)
  have KIn := Lib.hid (fun v : Later V.heap.size V => c_in v Bb i (by omega) (by omega))
  rw [hbi] at KIn
  clear hIV he hlt hex hf8 h256 hbm hl HIR KF
  obtain ⟨v1, hv1⟩ : ∃ v1 : Later V.heap.size V, v1.val = V := ⟨Later.self _, rfl⟩
  rw [← hv1]
  clear hv1
  go_wp2_with (first | (go_at_call 14; ((with_reducible refine (KBf.out _ _).mono ?_); rintro e _ ⟨rfl, v1, rfl⟩)) | (go_at_call 14; ((with_reducible refine (KBt.out _ _).mono ?_); rintro e _ ⟨rfl, v1, rfl⟩)) | (go_at_call 21; ((with_reducible refine (KIn.out _).mono ?_); rintro e _ ⟨rfl, v1, rfl⟩)) | (go_at_call 79; ((with_reducible refine (KS.out _).mono ?_); rintro e _ ⟨rfl, v1, rfl⟩)) | (go_at_call 80; ((with_reducible refine (KL.out _).mono ?_); rintro e _ ⟨_, rfl, ⟨_, rfl, ⟨ad2, cp2, rfl, hI3, hcp3⟩⟩, w2, rfl⟩; have HI3 := Lib.hid hI3; clear hI3 hcp3)) | (go_at_call 81; ((with_reducible refine (KF'.out w2).mono ?_); rintro e _ ⟨rfl, v1, rfl⟩)) | (go_at_call 24; ((with_reducible refine (HO3.out _ _ _ _).mono ?_); rintro e _ ⟨rfl, v1, rfl⟩)) | (go_at_call 24; ((with_reducible refine (HO3.out _ _ _ _).mono ?_); rintro e _ ⟨rfl, v1, rfl⟩)) | (go_at_call 45; ((refine (HL.out _ _ _ _ HI3.out).mono ?_); rintro e _ ⟨rfl, v1, rfl⟩)))
  go_ret
  exact Ret.of (HVB.out _ v1) rfl

set_option maxRecDepth 100000 in
set_option maxHeartbeats 40000000 in
theorem law_sw_d14 {B : Nat} {W : World} (u : Later B W) (m A Bb : Nat) (x : Int) (i F : Nat) (L l : List Nat) (a : Option Addr) (cap : Nat) (h : IntsAt B W a (ints L)) (hlen : (ints L).length ≤ 4611686018427387904) (he : MatIs (m : Int) (ints L) 0) (hm : m ≤ 8) (hTN : toN (ints L) = L) (hA : A ∈ L) (hB : Bb ∈ L) (hA8 : A < 256) (hB8 : Bb < 256) (hl : LadIs L Bb A l) (hx9 : x < 9223372036854775808) (hx : x < 0) (hi : i < m) (hbi : Bb.testBit i = false) (hF : FundIs L Bb i F) :
    Calls Try.prog 12 #[.agg #[.int .i64 m, .slice a (ints L).length cap], .int .i64 A, .int .i64 Bb, .int .i64 x, .int .i64 i] u.val (Ret B W (.bool true)) := by
  have hlt := he.zero.1.1
  have hex := he.zero.2
  have hf8 := he.zero.1.fam8
  rw [show toN (ints L) = L from hTN] at hf8 hex
  have h256 : ∀ b, b ∈ L → b < 256 := hf8.lt
  have hbm : ∀ b, b ∈ L → b < bit m := fun b hb => by
    have := fam_lt hlt b (by rw [hTN]; exact hb)
    simpa using this
  have T0 : Hid (Two (u.val.alloc (.cells #[.int .i64 m, .slice a (ints L).length cap] 60)) u.val.heap.size 60 (.int .i64 m) (.slice a (ints L).length cap)) := Lib.hid (Two.new _ _ _ _)
  have hI : IntsAt (u.val.alloc (.cells #[.int .i64 m, .slice a (ints L).length cap] 60)).heap.size (u.val.alloc (.cells #[.int .i64 m, .slice a (ints L).length cap] 60)) a (ints L) := h.to (u.alloc _)
  have HV : Hid (∀ v : Later (u.val.alloc (.cells #[.int .i64 m, .slice a (ints L).length cap] 60)).heap.size (u.val.alloc (.cells #[.int .i64 m, .slice a (ints L).length cap] 60)), ∃ w : Later B W, w.val = v.val) := Lib.hid (fun v => ⟨(u.alloc _).up v, rfl⟩)
  have q0 : ∀ w : Later (u.val.alloc (.cells #[.int .i64 m, .slice a (ints L).length cap] 60)).heap.size (u.val.alloc (.cells #[.int .i64 m, .slice a (ints L).length cap] 60)), w.val.cell? ⟨u.val.heap.size, 0, none⟩ = some (.int .i64 m) := fun w => (T0.out.keep w.below).c0
  have q1 : ∀ w : Later (u.val.alloc (.cells #[.int .i64 m, .slice a (ints L).length cap] 60)).heap.size (u.val.alloc (.cells #[.int .i64 m, .slice a (ints L).length cap] 60)), w.val.cell? ⟨u.val.heap.size, 1, none⟩ = some (.slice a (ints L).length cap) := fun w => (T0.out.keep w.below).c1
  generalize hW1 : (u.val.alloc (.cells #[.int .i64 m, .slice a (ints L).length cap] 60)) = W1 at *
  generalize hgu : u.val.heap.size = gu at *
  have hlenL : L.length ≤ 4611686018427387904 := by rw [ints_len] at hlen; exact hlen
  have KM0 : Hid (Calls Try.prog 74 #[.agg #[.int .i64 m, .slice a (ints L).length cap]] W1 (Ret W1.heap.size W1 (.int .i64 0))) := Lib.hid (c_refMatroid (Later.self W1) m (ints L) a cap 0 hI hlen he)
  have p0 : W1.cell? ⟨gu, 0, none⟩ = some (.int .i64 m) := q0 (Later.self W1)
  have p1 : W1.cell? ⟨gu, 1, none⟩ = some (.slice a (ints L).length cap) := q1 (Later.self W1)
  have KH : Hid (∀ (v : Later W1.heap.size W1) (z : Int) (d : Bool), decide (z ∈ ints L) = d → Calls Try.prog 75 #[.slice a (ints L).length cap, .int .i64 z] v.val (Ret W1.heap.size W1 (.bool d))) := Lib.hid (fun v z d hd => by
    have := c_has v (ints L) z a cap hI (by omega)
    rwa [hd] at this)
  have KBt := Lib.hid (fun (v : Later W1.heap.size W1) (e : Int) => (show Calls Try.prog 14 #[.bool true, .int .i64 e] v.val (Ret W1.heap.size W1 (.int .i64 0)) from c_bad v true e))
  have KBf := Lib.hid (fun (v : Later W1.heap.size W1) (e : Int) => (show Calls Try.prog 14 #[.bool false, .int .i64 e] v.val (Ret W1.heap.size W1 (.int .i64 e)) from c_bad v false e))
  have KHx := Lib.hid (fun v => KH.out v A true (by simp [mem_ints, hA]))
  have KHy := Lib.hid (fun v => KH.out v Bb true (by simp [mem_ints, hB]))
  have KRL := Lib.hid (fun v : Later W1.heap.size W1 => c_refLadder m Bb L a cap hlenL hm hB8 _ _ _ v A l hI hA8 hl rfl)
  clear T0 KH
  subst hW1
  subst hgu
  go_enter Try.func12, Try.ntmps12
  go_upto_region 11 with (first | (go_at_call 74; ((with_reducible refine (KM0.out).mono ?_); rintro e _ ⟨rfl, v1, rfl⟩)) | (go_at_call 75; ((with_reducible refine (KHx.out _).mono ?_); rintro e _ ⟨rfl, v1, rfl⟩)) | (go_at_call 75; ((with_reducible refine (KHy.out _).mono ?_); rintro e _ ⟨rfl, v1, rfl⟩)) | (go_at_call 14; ((with_reducible refine (KBt.out _ _).mono ?_); rintro e _ ⟨rfl, v1, rfl⟩)) | (go_at_call 76; ((with_reducible refine (KRL.out _).mono ?_); rintro e _ ⟨_, rfl, ⟨adR, cpR, rfl, hIR, hcpR⟩, v1, rfl⟩)))
  have hIV : IntsAt v1.val.heap.size v1.val a (ints L) := hI.to v1
  have HIR := Lib.hid hIR
  have HVB : Hid (∀ (w : Later v1.val.heap.size v1.val) (y : Later w.val.heap.size w.val), ∃ w' : Later B W, w'.val = y.val) := Lib.hid (fun w y => HV.out (v1.up (w.up y)))
  have r0 : ∀ w : Later v1.val.heap.size v1.val, w.val.cell? ⟨u.val.heap.size, 0, none⟩ = some (.int .i64 m) := fun w => q0 (v1.up w)
  have r1 : ∀ w : Later v1.val.heap.size v1.val, w.val.cell? ⟨u.val.heap.size, 1, none⟩ = some (.slice a (ints L).length cap) := fun w => q1 (v1.up w)
  clear KM0 p0 p1 KHx KHy KRL KBt KBf hI HV q0 q1 hIR hcpR
  generalize u.val.heap.size = gu at *
  generalize v1.val = V at *
  clear h
  have KBt := Lib.hid (fun (v : Later V.heap.size V) (e : Int) => (show Calls Try.prog 14 #[.bool true, .int .i64 e] v.val (Ret V.heap.size V (.int .i64 0)) from c_bad v true e))
  have KBf := Lib.hid (fun (v : Later V.heap.size V) (e : Int) => (show Calls Try.prog 14 #[.bool false, .int .i64 e] v.val (Ret V.heap.size V (.int .i64 e)) from c_bad v false e))
  have HOk := Lib.hid (fun (B : Nat) (W : World) (u : Later B W) (y : Int) => c_one_ok u y)
  have HO3 := Lib.hid (fun (B : Nat) (W : World) (u : Later B W) (y : Int) => c_one_err u y 3 (by decide))
  have HO1 := Lib.hid (fun (B : Nat) (W : World) (u : Later B W) (y : Int) => c_one_err u y 1 (by decide))
  have HO5 := Lib.hid (fun (B : Nat) (W : World) (u : Later B W) (y : Int) => c_one_err u y 5 (by decide))
  have KS := Lib.hid (fun v : Later V.heap.size V => c_swap_bad v m A Bb x L a cap hIV hlen he hA hB hA8 hB8 hx9 (.inl hx))
  have KL := Lib.hid (fun v : Later V.heap.size V => c_ladder v m A Bb L l a cap hIV hlen he hm hA hB hA8 hB8 hl)
  have KF := Lib.hid (fun v : Later V.heap.size V => c_fund (Later.self v.val) m Bb i F L a cap (hIV.to v) hlen he hm hB hB8 hi hbi hF)
  have KF' : Hid (∀ v : Later V.heap.size V, Calls Try.prog 81 #[.agg #[.int .i64 m, .slice a (ints L).length cap], .int .i64 Bb, .int .i64 i] v.val (Ret v.val.heap.size v.val (.tuple #[.int .i64 F, .int .i64 0]))) := KF
  have hl256 : (ints l).length ≤ 4611686018427387904 := by
    have h1 := LadIs.len l A hA8 hl
    have h2 : nand A Bb < 256 := nand_lt _ _ 8 hA8
    rw [ints_len]; omega
  have HL := Lib.hid (fun (w : Later V.heap.size V) (y : Later w.val.heap.size w.val) (ad : Option Addr) (cp : Nat) (hd : IntsAt w.val.heap.size w.val ad (ints l)) => c_list y (ints l) (ints l) ad adR cp cpR 0 0 hd (HIR.out.to w) hl256 rfl (by rw [if_pos rfl]))
  have o1 := i64_andNot A Bb (by omega) (by omega)
  have i0 : decide ((0 : Int) ≤ (i : Int)) = true := decide_eq_true (by omega)
  have i2 : decide ((i : Int) < (m : Int)) = true := decide_eq_true (by omega)
  have i3 : decide (i < m) = true := decide_eq_true hi
  have x1 : decide ((0 : Int) ≤ x) = false := decide_eq_false (by omega)
  have KIn := Lib.hid (fun v : Later V.heap.size V => c_in v Bb i (by omega) (by omega))
  rw [hbi] at KIn
  have KR := Lib.hid (fun v : Later V.heap.size V => c_ring v m hm L h256 hlenL a cap Bb i F hB8 (by omega) hIV (ring_is hm hf8 hbm hex hB hi hbi hF))
  clear hIV he hlt hex hf8 h256 hbm hl HIR KF
  obtain ⟨v1, hv1⟩ : ∃ v1 : Later V.heap.size V, v1.val = V := ⟨Later.self _, rfl⟩
  rw [← hv1]
  clear hv1
  go_wp2_with (first | (go_at_call 14; ((with_reducible refine (KBf.out _ _).mono ?_); rintro e _ ⟨rfl, v1, rfl⟩)) | (go_at_call 14; ((with_reducible refine (KBt.out _ _).mono ?_); rintro e _ ⟨rfl, v1, rfl⟩)) | (go_at_call 21; ((with_reducible refine (KIn.out _).mono ?_); rintro e _ ⟨rfl, v1, rfl⟩)) | (go_at_call 78; ((with_reducible refine (KR.out _).mono ?_); rintro e _ ⟨rfl, v1, rfl⟩)) | (go_at_call 79; ((with_reducible refine (KS.out _).mono ?_); rintro e _ ⟨rfl, v1, rfl⟩)) | (go_at_call 80; ((with_reducible refine (KL.out _).mono ?_); rintro e _ ⟨_, rfl, ⟨_, rfl, ⟨ad2, cp2, rfl, hI3, hcp3⟩⟩, w2, rfl⟩; have HI3 := Lib.hid hI3; clear hI3 hcp3)) | (go_at_call 81; ((with_reducible refine (KF'.out w2).mono ?_); rintro e _ ⟨rfl, v1, rfl⟩)) | (go_at_call 24; ((with_reducible refine (HO3.out _ _ _ _).mono ?_); rintro e _ ⟨rfl, v1, rfl⟩)) | (go_at_call 24; ((with_reducible refine (HOk.out _ _ _ _).mono ?_); rintro e _ ⟨rfl, v1, rfl⟩)) | (go_at_call 45; ((refine (HL.out _ _ _ _ HI3.out).mono ?_); rintro e _ ⟨rfl, v1, rfl⟩)))
  go_ret
  exact Ret.of (HVB.out _ v1) rfl

set_option maxRecDepth 100000 in
set_option maxHeartbeats 40000000 in
theorem law_sw_d21 {B : Nat} {W : World} (u : Later B W) (m A Bb : Nat) (x : Nat) (i : Int) (L l : List Nat) (a : Option Addr) (cap : Nat) (h : IntsAt B W a (ints L)) (hlen : (ints L).length ≤ 4611686018427387904) (he : MatIs (m : Int) (ints L) 0) (hm : m ≤ 8) (hTN : toN (ints L) = L) (hA : A ∈ L) (hB : Bb ∈ L) (hA8 : A < 256) (hB8 : Bb < 256) (hl : LadIs L Bb A l) (hx9 : (x : Int) < 9223372036854775808) (hx : ¬ x ||| nand A Bb = nand A Bb) (hi : i < 0) :
    Calls Try.prog 12 #[.agg #[.int .i64 m, .slice a (ints L).length cap], .int .i64 A, .int .i64 Bb, .int .i64 x, .int .i64 i] u.val (Ret B W (.bool true)) := by
  have hlt := he.zero.1.1
  have hex := he.zero.2
  have hf8 := he.zero.1.fam8
  rw [show toN (ints L) = L from hTN] at hf8 hex
  have h256 : ∀ b, b ∈ L → b < 256 := hf8.lt
  have hbm : ∀ b, b ∈ L → b < bit m := fun b hb => by
    have := fam_lt hlt b (by rw [hTN]; exact hb)
    simpa using this
  have T0 : Hid (Two (u.val.alloc (.cells #[.int .i64 m, .slice a (ints L).length cap] 60)) u.val.heap.size 60 (.int .i64 m) (.slice a (ints L).length cap)) := Lib.hid (Two.new _ _ _ _)
  have hI : IntsAt (u.val.alloc (.cells #[.int .i64 m, .slice a (ints L).length cap] 60)).heap.size (u.val.alloc (.cells #[.int .i64 m, .slice a (ints L).length cap] 60)) a (ints L) := h.to (u.alloc _)
  have HV : Hid (∀ v : Later (u.val.alloc (.cells #[.int .i64 m, .slice a (ints L).length cap] 60)).heap.size (u.val.alloc (.cells #[.int .i64 m, .slice a (ints L).length cap] 60)), ∃ w : Later B W, w.val = v.val) := Lib.hid (fun v => ⟨(u.alloc _).up v, rfl⟩)
  have q0 : ∀ w : Later (u.val.alloc (.cells #[.int .i64 m, .slice a (ints L).length cap] 60)).heap.size (u.val.alloc (.cells #[.int .i64 m, .slice a (ints L).length cap] 60)), w.val.cell? ⟨u.val.heap.size, 0, none⟩ = some (.int .i64 m) := fun w => (T0.out.keep w.below).c0
  have q1 : ∀ w : Later (u.val.alloc (.cells #[.int .i64 m, .slice a (ints L).length cap] 60)).heap.size (u.val.alloc (.cells #[.int .i64 m, .slice a (ints L).length cap] 60)), w.val.cell? ⟨u.val.heap.size, 1, none⟩ = some (.slice a (ints L).length cap) := fun w => (T0.out.keep w.below).c1
  generalize hW1 : (u.val.alloc (.cells #[.int .i64 m, .slice a (ints L).length cap] 60)) = W1 at *
  generalize hgu : u.val.heap.size = gu at *
  have hlenL : L.length ≤ 4611686018427387904 := by rw [ints_len] at hlen; exact hlen
  have KM0 : Hid (Calls Try.prog 74 #[.agg #[.int .i64 m, .slice a (ints L).length cap]] W1 (Ret W1.heap.size W1 (.int .i64 0))) := Lib.hid (c_refMatroid (Later.self W1) m (ints L) a cap 0 hI hlen he)
  have p0 : W1.cell? ⟨gu, 0, none⟩ = some (.int .i64 m) := q0 (Later.self W1)
  have p1 : W1.cell? ⟨gu, 1, none⟩ = some (.slice a (ints L).length cap) := q1 (Later.self W1)
  have KH : Hid (∀ (v : Later W1.heap.size W1) (z : Int) (d : Bool), decide (z ∈ ints L) = d → Calls Try.prog 75 #[.slice a (ints L).length cap, .int .i64 z] v.val (Ret W1.heap.size W1 (.bool d))) := Lib.hid (fun v z d hd => by
    have := c_has v (ints L) z a cap hI (by omega)
    rwa [hd] at this)
  have KBt := Lib.hid (fun (v : Later W1.heap.size W1) (e : Int) => (show Calls Try.prog 14 #[.bool true, .int .i64 e] v.val (Ret W1.heap.size W1 (.int .i64 0)) from c_bad v true e))
  have KBf := Lib.hid (fun (v : Later W1.heap.size W1) (e : Int) => (show Calls Try.prog 14 #[.bool false, .int .i64 e] v.val (Ret W1.heap.size W1 (.int .i64 e)) from c_bad v false e))
  have KHx := Lib.hid (fun v => KH.out v A true (by simp [mem_ints, hA]))
  have KHy := Lib.hid (fun v => KH.out v Bb true (by simp [mem_ints, hB]))
  have KRL := Lib.hid (fun v : Later W1.heap.size W1 => c_refLadder m Bb L a cap hlenL hm hB8 _ _ _ v A l hI hA8 hl rfl)
  clear T0 KH
  subst hW1
  subst hgu
  go_enter Try.func12, Try.ntmps12
  go_upto_region 11 with (first | (go_at_call 74; ((with_reducible refine (KM0.out).mono ?_); rintro e _ ⟨rfl, v1, rfl⟩)) | (go_at_call 75; ((with_reducible refine (KHx.out _).mono ?_); rintro e _ ⟨rfl, v1, rfl⟩)) | (go_at_call 75; ((with_reducible refine (KHy.out _).mono ?_); rintro e _ ⟨rfl, v1, rfl⟩)) | (go_at_call 14; ((with_reducible refine (KBt.out _ _).mono ?_); rintro e _ ⟨rfl, v1, rfl⟩)) | (go_at_call 76; ((with_reducible refine (KRL.out _).mono ?_); rintro e _ ⟨_, rfl, ⟨adR, cpR, rfl, hIR, hcpR⟩, v1, rfl⟩)))
  have hIV : IntsAt v1.val.heap.size v1.val a (ints L) := hI.to v1
  have HIR := Lib.hid hIR
  have HVB : Hid (∀ (w : Later v1.val.heap.size v1.val) (y : Later w.val.heap.size w.val), ∃ w' : Later B W, w'.val = y.val) := Lib.hid (fun w y => HV.out (v1.up (w.up y)))
  have r0 : ∀ w : Later v1.val.heap.size v1.val, w.val.cell? ⟨u.val.heap.size, 0, none⟩ = some (.int .i64 m) := fun w => q0 (v1.up w)
  have r1 : ∀ w : Later v1.val.heap.size v1.val, w.val.cell? ⟨u.val.heap.size, 1, none⟩ = some (.slice a (ints L).length cap) := fun w => q1 (v1.up w)
  clear KM0 p0 p1 KHx KHy KRL KBt KBf hI HV q0 q1 hIR hcpR
  generalize u.val.heap.size = gu at *
  generalize v1.val = V at *
  clear h
  have KBt := Lib.hid (fun (v : Later V.heap.size V) (e : Int) => (show Calls Try.prog 14 #[.bool true, .int .i64 e] v.val (Ret V.heap.size V (.int .i64 0)) from c_bad v true e))
  have KBf := Lib.hid (fun (v : Later V.heap.size V) (e : Int) => (show Calls Try.prog 14 #[.bool false, .int .i64 e] v.val (Ret V.heap.size V (.int .i64 e)) from c_bad v false e))
  have HOk := Lib.hid (fun (B : Nat) (W : World) (u : Later B W) (y : Int) => c_one_ok u y)
  have HO3 := Lib.hid (fun (B : Nat) (W : World) (u : Later B W) (y : Int) => c_one_err u y 3 (by decide))
  have HO1 := Lib.hid (fun (B : Nat) (W : World) (u : Later B W) (y : Int) => c_one_err u y 1 (by decide))
  have HO5 := Lib.hid (fun (B : Nat) (W : World) (u : Later B W) (y : Int) => c_one_err u y 5 (by decide))
  have hnA : nand A Bb < 256 := nand_lt _ _ 8 hA8
  have KW := Lib.hid (fun v : Later V.heap.size V => dcall_f (c_within v x (nand A Bb) (by omega) (by omega)) hx)
  have KS := Lib.hid (fun v : Later V.heap.size V => c_swap_bad v m A Bb x L a cap hIV hlen he hA hB hA8 hB8 hx9 (.inr (fun h => hx (or_eq_iff.2 (nand_zero_sub.1 (by simpa using h))))))
  have KL := Lib.hid (fun v : Later V.heap.size V => c_ladder v m A Bb L l a cap hIV hlen he hm hA hB hA8 hB8 hl)
  have KF := Lib.hid (fun v : Later V.heap.size V => c_fund_bad (Later.self v.val) m Bb i L a cap (hIV.to v) hlen he hm hB hB8 (.inl hi))
  have KF' : Hid (∀ v : Later V.heap.size V, Calls Try.prog 81 #[.agg #[.int .i64 m, .slice a (ints L).length cap], .int .i64 Bb, .int .i64 i] v.val (Ret v.val.heap.size v.val (.tuple #[.int .i64 0, .int .i64 3]))) := KF
  have hl256 : (ints l).length ≤ 4611686018427387904 := by
    have h1 := LadIs.len l A hA8 hl
    have h2 : nand A Bb < 256 := nand_lt _ _ 8 hA8
    rw [ints_len]; omega
  have HL := Lib.hid (fun (w : Later V.heap.size V) (y : Later w.val.heap.size w.val) (ad : Option Addr) (cp : Nat) (hd : IntsAt w.val.heap.size w.val ad (ints l)) => c_list y (ints l) (ints l) ad adR cp cpR 0 0 hd (HIR.out.to w) hl256 rfl (by rw [if_pos rfl]))
  have o1 := i64_andNot A Bb (by omega) (by omega)
  have i1 : decide ((0 : Int) ≤ i) = false := decide_eq_false (by omega)
  have x0 : decide ((0 : Int) ≤ (x : Int)) = true := decide_eq_true (by omega)
  clear hIV he hlt hex hf8 h256 hbm hl HIR KF
  obtain ⟨v1, hv1⟩ : ∃ v1 : Later V.heap.size V, v1.val = V := ⟨Later.self _, rfl⟩
  rw [← hv1]
  clear hv1
  go_wp2_with (first | (go_at_call 14; ((with_reducible refine (KBf.out _ _).mono ?_); rintro e _ ⟨rfl, v1, rfl⟩)) | (go_at_call 14; ((with_reducible refine (KBt.out _ _).mono ?_); rintro e _ ⟨rfl, v1, rfl⟩)) | (go_at_call 60; ((with_reducible refine (KW.out _).mono ?_); rintro e _ ⟨rfl, v1, rfl⟩)) | (go_at_call 79; ((with_reducible refine (KS.out _).mono ?_); rintro e _ ⟨rfl, v1, rfl⟩)) | (go_at_call 80; ((with_reducible refine (KL.out _).mono ?_); rintro e _ ⟨_, rfl, ⟨_, rfl, ⟨ad2, cp2, rfl, hI3, hcp3⟩⟩, w2, rfl⟩; have HI3 := Lib.hid hI3; clear hI3 hcp3)) | (go_at_call 81; ((with_reducible refine (KF'.out w2).mono ?_); rintro e _ ⟨rfl, v1, rfl⟩)) | (go_at_call 24; ((with_reducible refine (HO3.out _ _ _ _).mono ?_); rintro e _ ⟨rfl, v1, rfl⟩)) | (go_at_call 24; ((with_reducible refine (HO3.out _ _ _ _).mono ?_); rintro e _ ⟨rfl, v1, rfl⟩)) | (go_at_call 45; ((refine (HL.out _ _ _ _ HI3.out).mono ?_); rintro e _ ⟨rfl, v1, rfl⟩)))
  go_ret
  exact Ret.of (HVB.out _ v1) rfl

set_option maxRecDepth 100000 in
set_option maxHeartbeats 40000000 in
theorem law_sw_d22 {B : Nat} {W : World} (u : Later B W) (m A Bb : Nat) (x : Nat) (i : Nat) (L l : List Nat) (a : Option Addr) (cap : Nat) (h : IntsAt B W a (ints L)) (hlen : (ints L).length ≤ 4611686018427387904) (he : MatIs (m : Int) (ints L) 0) (hm : m ≤ 8) (hTN : toN (ints L) = L) (hA : A ∈ L) (hB : Bb ∈ L) (hA8 : A < 256) (hB8 : Bb < 256) (hl : LadIs L Bb A l) (hx9 : (x : Int) < 9223372036854775808) (hx : ¬ x ||| nand A Bb = nand A Bb) (hi : m ≤ i) :
    Calls Try.prog 12 #[.agg #[.int .i64 m, .slice a (ints L).length cap], .int .i64 A, .int .i64 Bb, .int .i64 x, .int .i64 i] u.val (Ret B W (.bool true)) := by
  have hlt := he.zero.1.1
  have hex := he.zero.2
  have hf8 := he.zero.1.fam8
  rw [show toN (ints L) = L from hTN] at hf8 hex
  have h256 : ∀ b, b ∈ L → b < 256 := hf8.lt
  have hbm : ∀ b, b ∈ L → b < bit m := fun b hb => by
    have := fam_lt hlt b (by rw [hTN]; exact hb)
    simpa using this
  have T0 : Hid (Two (u.val.alloc (.cells #[.int .i64 m, .slice a (ints L).length cap] 60)) u.val.heap.size 60 (.int .i64 m) (.slice a (ints L).length cap)) := Lib.hid (Two.new _ _ _ _)
  have hI : IntsAt (u.val.alloc (.cells #[.int .i64 m, .slice a (ints L).length cap] 60)).heap.size (u.val.alloc (.cells #[.int .i64 m, .slice a (ints L).length cap] 60)) a (ints L) := h.to (u.alloc _)
  have HV : Hid (∀ v : Later (u.val.alloc (.cells #[.int .i64 m, .slice a (ints L).length cap] 60)).heap.size (u.val.alloc (.cells #[.int .i64 m, .slice a (ints L).length cap] 60)), ∃ w : Later B W, w.val = v.val) := Lib.hid (fun v => ⟨(u.alloc _).up v, rfl⟩)
  have q0 : ∀ w : Later (u.val.alloc (.cells #[.int .i64 m, .slice a (ints L).length cap] 60)).heap.size (u.val.alloc (.cells #[.int .i64 m, .slice a (ints L).length cap] 60)), w.val.cell? ⟨u.val.heap.size, 0, none⟩ = some (.int .i64 m) := fun w => (T0.out.keep w.below).c0
  have q1 : ∀ w : Later (u.val.alloc (.cells #[.int .i64 m, .slice a (ints L).length cap] 60)).heap.size (u.val.alloc (.cells #[.int .i64 m, .slice a (ints L).length cap] 60)), w.val.cell? ⟨u.val.heap.size, 1, none⟩ = some (.slice a (ints L).length cap) := fun w => (T0.out.keep w.below).c1
  generalize hW1 : (u.val.alloc (.cells #[.int .i64 m, .slice a (ints L).length cap] 60)) = W1 at *
  generalize hgu : u.val.heap.size = gu at *
  have hlenL : L.length ≤ 4611686018427387904 := by rw [ints_len] at hlen; exact hlen
  have KM0 : Hid (Calls Try.prog 74 #[.agg #[.int .i64 m, .slice a (ints L).length cap]] W1 (Ret W1.heap.size W1 (.int .i64 0))) := Lib.hid (c_refMatroid (Later.self W1) m (ints L) a cap 0 hI hlen he)
  have p0 : W1.cell? ⟨gu, 0, none⟩ = some (.int .i64 m) := q0 (Later.self W1)
  have p1 : W1.cell? ⟨gu, 1, none⟩ = some (.slice a (ints L).length cap) := q1 (Later.self W1)
  have KH : Hid (∀ (v : Later W1.heap.size W1) (z : Int) (d : Bool), decide (z ∈ ints L) = d → Calls Try.prog 75 #[.slice a (ints L).length cap, .int .i64 z] v.val (Ret W1.heap.size W1 (.bool d))) := Lib.hid (fun v z d hd => by
    have := c_has v (ints L) z a cap hI (by omega)
    rwa [hd] at this)
  have KBt := Lib.hid (fun (v : Later W1.heap.size W1) (e : Int) => (show Calls Try.prog 14 #[.bool true, .int .i64 e] v.val (Ret W1.heap.size W1 (.int .i64 0)) from c_bad v true e))
  have KBf := Lib.hid (fun (v : Later W1.heap.size W1) (e : Int) => (show Calls Try.prog 14 #[.bool false, .int .i64 e] v.val (Ret W1.heap.size W1 (.int .i64 e)) from c_bad v false e))
  have KHx := Lib.hid (fun v => KH.out v A true (by simp [mem_ints, hA]))
  have KHy := Lib.hid (fun v => KH.out v Bb true (by simp [mem_ints, hB]))
  have KRL := Lib.hid (fun v : Later W1.heap.size W1 => c_refLadder m Bb L a cap hlenL hm hB8 _ _ _ v A l hI hA8 hl rfl)
  clear T0 KH
  subst hW1
  subst hgu
  go_enter Try.func12, Try.ntmps12
  go_upto_region 11 with (first | (go_at_call 74; ((with_reducible refine (KM0.out).mono ?_); rintro e _ ⟨rfl, v1, rfl⟩)) | (go_at_call 75; ((with_reducible refine (KHx.out _).mono ?_); rintro e _ ⟨rfl, v1, rfl⟩)) | (go_at_call 75; ((with_reducible refine (KHy.out _).mono ?_); rintro e _ ⟨rfl, v1, rfl⟩)) | (go_at_call 14; ((with_reducible refine (KBt.out _ _).mono ?_); rintro e _ ⟨rfl, v1, rfl⟩)) | (go_at_call 76; ((with_reducible refine (KRL.out _).mono ?_); rintro e _ ⟨_, rfl, ⟨adR, cpR, rfl, hIR, hcpR⟩, v1, rfl⟩)))
  have hIV : IntsAt v1.val.heap.size v1.val a (ints L) := hI.to v1
  have HIR := Lib.hid hIR
  have HVB : Hid (∀ (w : Later v1.val.heap.size v1.val) (y : Later w.val.heap.size w.val), ∃ w' : Later B W, w'.val = y.val) := Lib.hid (fun w y => HV.out (v1.up (w.up y)))
  have r0 : ∀ w : Later v1.val.heap.size v1.val, w.val.cell? ⟨u.val.heap.size, 0, none⟩ = some (.int .i64 m) := fun w => q0 (v1.up w)
  have r1 : ∀ w : Later v1.val.heap.size v1.val, w.val.cell? ⟨u.val.heap.size, 1, none⟩ = some (.slice a (ints L).length cap) := fun w => q1 (v1.up w)
  clear KM0 p0 p1 KHx KHy KRL KBt KBf hI HV q0 q1 hIR hcpR
  generalize u.val.heap.size = gu at *
  generalize v1.val = V at *
  clear h
  have KBt := Lib.hid (fun (v : Later V.heap.size V) (e : Int) => (show Calls Try.prog 14 #[.bool true, .int .i64 e] v.val (Ret V.heap.size V (.int .i64 0)) from c_bad v true e))
  have KBf := Lib.hid (fun (v : Later V.heap.size V) (e : Int) => (show Calls Try.prog 14 #[.bool false, .int .i64 e] v.val (Ret V.heap.size V (.int .i64 e)) from c_bad v false e))
  have HOk := Lib.hid (fun (B : Nat) (W : World) (u : Later B W) (y : Int) => c_one_ok u y)
  have HO3 := Lib.hid (fun (B : Nat) (W : World) (u : Later B W) (y : Int) => c_one_err u y 3 (by decide))
  have HO1 := Lib.hid (fun (B : Nat) (W : World) (u : Later B W) (y : Int) => c_one_err u y 1 (by decide))
  have HO5 := Lib.hid (fun (B : Nat) (W : World) (u : Later B W) (y : Int) => c_one_err u y 5 (by decide))
  have hnA : nand A Bb < 256 := nand_lt _ _ 8 hA8
  have KW := Lib.hid (fun v : Later V.heap.size V => dcall_f (c_within v x (nand A Bb) (by omega) (by omega)) hx)
  have KS := Lib.hid (fun v : Later V.heap.size V => c_swap_bad v m A Bb x L a cap hIV hlen he hA hB hA8 hB8 hx9 (.inr (fun h => hx (or_eq_iff.2 (nand_zero_sub.1 (by simpa using h))))))
  have KL := Lib.hid (fun v : Later V.heap.size V => c_ladder v m A Bb L l a cap hIV hlen he hm hA hB hA8 hB8 hl)
  have KF := Lib.hid (fun v : Later V.heap.size V => c_fund_bad (Later.self v.val) m Bb i L a cap (hIV.to v) hlen he hm hB hB8 (.inr (.inl (by omega))))
  have KF' : Hid (∀ v : Later V.heap.size V, Calls Try.prog 81 #[.agg #[.int .i64 m, .slice a (ints L).length cap], .int .i64 Bb, .int .i64 i] v.val (Ret v.val.heap.size v.val (.tuple #[.int .i64 0, .int .i64 3]))) := KF
  have hl256 : (ints l).length ≤ 4611686018427387904 := by
    have h1 := LadIs.len l A hA8 hl
    have h2 : nand A Bb < 256 := nand_lt _ _ 8 hA8
    rw [ints_len]; omega
  have HL := Lib.hid (fun (w : Later V.heap.size V) (y : Later w.val.heap.size w.val) (ad : Option Addr) (cp : Nat) (hd : IntsAt w.val.heap.size w.val ad (ints l)) => c_list y (ints l) (ints l) ad adR cp cpR 0 0 hd (HIR.out.to w) hl256 rfl (by rw [if_pos rfl]))
  have o1 := i64_andNot A Bb (by omega) (by omega)
  have i0 : decide ((0 : Int) ≤ (i : Int)) = true := decide_eq_true (by omega)
  have i2 : decide ((i : Int) < (m : Int)) = false := decide_eq_false (by omega)
  have i3 : decide (i < m) = false := decide_eq_false (by omega)
  have x0 : decide ((0 : Int) ≤ (x : Int)) = true := decide_eq_true (by omega)
  clear hIV he hlt hex hf8 h256 hbm hl HIR KF
  obtain ⟨v1, hv1⟩ : ∃ v1 : Later V.heap.size V, v1.val = V := ⟨Later.self _, rfl⟩
  rw [← hv1]
  clear hv1
  go_wp2_with (first | (go_at_call 14; ((with_reducible refine (KBf.out _ _).mono ?_); rintro e _ ⟨rfl, v1, rfl⟩)) | (go_at_call 14; ((with_reducible refine (KBt.out _ _).mono ?_); rintro e _ ⟨rfl, v1, rfl⟩)) | (go_at_call 60; ((with_reducible refine (KW.out _).mono ?_); rintro e _ ⟨rfl, v1, rfl⟩)) | (go_at_call 79; ((with_reducible refine (KS.out _).mono ?_); rintro e _ ⟨rfl, v1, rfl⟩)) | (go_at_call 80; ((with_reducible refine (KL.out _).mono ?_); rintro e _ ⟨_, rfl, ⟨_, rfl, ⟨ad2, cp2, rfl, hI3, hcp3⟩⟩, w2, rfl⟩; have HI3 := Lib.hid hI3; clear hI3 hcp3)) | (go_at_call 81; ((with_reducible refine (KF'.out w2).mono ?_); rintro e _ ⟨rfl, v1, rfl⟩)) | (go_at_call 24; ((with_reducible refine (HO3.out _ _ _ _).mono ?_); rintro e _ ⟨rfl, v1, rfl⟩)) | (go_at_call 24; ((with_reducible refine (HO3.out _ _ _ _).mono ?_); rintro e _ ⟨rfl, v1, rfl⟩)) | (go_at_call 45; ((refine (HL.out _ _ _ _ HI3.out).mono ?_); rintro e _ ⟨rfl, v1, rfl⟩)))
  go_ret
  exact Ret.of (HVB.out _ v1) rfl

set_option maxRecDepth 100000 in
set_option maxHeartbeats 40000000 in
theorem law_sw_d23 {B : Nat} {W : World} (u : Later B W) (m A Bb : Nat) (x : Nat) (i : Nat) (L l : List Nat) (a : Option Addr) (cap : Nat) (h : IntsAt B W a (ints L)) (hlen : (ints L).length ≤ 4611686018427387904) (he : MatIs (m : Int) (ints L) 0) (hm : m ≤ 8) (hTN : toN (ints L) = L) (hA : A ∈ L) (hB : Bb ∈ L) (hA8 : A < 256) (hB8 : Bb < 256) (hl : LadIs L Bb A l) (hx9 : (x : Int) < 9223372036854775808) (hx : ¬ x ||| nand A Bb = nand A Bb) (hi : i < m) (hbi : Bb.testBit i = true) :
    Calls Try.prog 12 #[.agg #[.int .i64 m, .slice a (ints L).length cap], .int .i64 A, .int .i64 Bb, .int .i64 x, .int .i64 i] u.val (Ret B W (.bool true)) := by
  have hlt := he.zero.1.1
  have hex := he.zero.2
  have hf8 := he.zero.1.fam8
  rw [show toN (ints L) = L from hTN] at hf8 hex
  have h256 : ∀ b, b ∈ L → b < 256 := hf8.lt
  have hbm : ∀ b, b ∈ L → b < bit m := fun b hb => by
    have := fam_lt hlt b (by rw [hTN]; exact hb)
    simpa using this
  have T0 : Hid (Two (u.val.alloc (.cells #[.int .i64 m, .slice a (ints L).length cap] 60)) u.val.heap.size 60 (.int .i64 m) (.slice a (ints L).length cap)) := Lib.hid (Two.new _ _ _ _)
  have hI : IntsAt (u.val.alloc (.cells #[.int .i64 m, .slice a (ints L).length cap] 60)).heap.size (u.val.alloc (.cells #[.int .i64 m, .slice a (ints L).length cap] 60)) a (ints L) := h.to (u.alloc _)
  have HV : Hid (∀ v : Later (u.val.alloc (.cells #[.int .i64 m, .slice a (ints L).length cap] 60)).heap.size (u.val.alloc (.cells #[.int .i64 m, .slice a (ints L).length cap] 60)), ∃ w : Later B W, w.val = v.val) := Lib.hid (fun v => ⟨(u.alloc _).up v, rfl⟩)
  have q0 : ∀ w : Later (u.val.alloc (.cells #[.int .i64 m, .slice a (ints L).length cap] 60)).heap.size (u.val.alloc (.cells #[.int .i64 m, .slice a (ints L).length cap] 60)), w.val.cell? ⟨u.val.heap.size, 0, none⟩ = some (.int .i64 m) := fun w => (T0.out.keep w.below).c0
  have q1 : ∀ w : Later (u.val.alloc (.cells #[.int .i64 m, .slice a (ints L).length cap] 60)).heap.size (u.val.alloc (.cells #[.int .i64 m, .slice a (ints L).length cap] 60)), w.val.cell? ⟨u.val.heap.size, 1, none⟩ = some (.slice a (ints L).length cap) := fun w => (T0.out.keep w.below).c1
  generalize hW1 : (u.val.alloc (.cells #[.int .i64 m, .slice a (ints L).length cap] 60)) = W1 at *
  generalize hgu : u.val.heap.size = gu at *
  have hlenL : L.length ≤ 4611686018427387904 := by rw [ints_len] at hlen; exact hlen
  have KM0 : Hid (Calls Try.prog 74 #[.agg #[.int .i64 m, .slice a (ints L).length cap]] W1 (Ret W1.heap.size W1 (.int .i64 0))) := Lib.hid (c_refMatroid (Later.self W1) m (ints L) a cap 0 hI hlen he)
  have p0 : W1.cell? ⟨gu, 0, none⟩ = some (.int .i64 m) := q0 (Later.self W1)
  have p1 : W1.cell? ⟨gu, 1, none⟩ = some (.slice a (ints L).length cap) := q1 (Later.self W1)
  have KH : Hid (∀ (v : Later W1.heap.size W1) (z : Int) (d : Bool), decide (z ∈ ints L) = d → Calls Try.prog 75 #[.slice a (ints L).length cap, .int .i64 z] v.val (Ret W1.heap.size W1 (.bool d))) := Lib.hid (fun v z d hd => by
    have := c_has v (ints L) z a cap hI (by omega)
    rwa [hd] at this)
  have KBt := Lib.hid (fun (v : Later W1.heap.size W1) (e : Int) => (show Calls Try.prog 14 #[.bool true, .int .i64 e] v.val (Ret W1.heap.size W1 (.int .i64 0)) from c_bad v true e))
  have KBf := Lib.hid (fun (v : Later W1.heap.size W1) (e : Int) => (show Calls Try.prog 14 #[.bool false, .int .i64 e] v.val (Ret W1.heap.size W1 (.int .i64 e)) from c_bad v false e))
  have KHx := Lib.hid (fun v => KH.out v A true (by simp [mem_ints, hA]))
  have KHy := Lib.hid (fun v => KH.out v Bb true (by simp [mem_ints, hB]))
  have KRL := Lib.hid (fun v : Later W1.heap.size W1 => c_refLadder m Bb L a cap hlenL hm hB8 _ _ _ v A l hI hA8 hl rfl)
  clear T0 KH
  subst hW1
  subst hgu
  go_enter Try.func12, Try.ntmps12
  go_upto_region 11 with (first | (go_at_call 74; ((with_reducible refine (KM0.out).mono ?_); rintro e _ ⟨rfl, v1, rfl⟩)) | (go_at_call 75; ((with_reducible refine (KHx.out _).mono ?_); rintro e _ ⟨rfl, v1, rfl⟩)) | (go_at_call 75; ((with_reducible refine (KHy.out _).mono ?_); rintro e _ ⟨rfl, v1, rfl⟩)) | (go_at_call 14; ((with_reducible refine (KBt.out _ _).mono ?_); rintro e _ ⟨rfl, v1, rfl⟩)) | (go_at_call 76; ((with_reducible refine (KRL.out _).mono ?_); rintro e _ ⟨_, rfl, ⟨adR, cpR, rfl, hIR, hcpR⟩, v1, rfl⟩)))
  have hIV : IntsAt v1.val.heap.size v1.val a (ints L) := hI.to v1
  have HIR := Lib.hid hIR
  have HVB : Hid (∀ (w : Later v1.val.heap.size v1.val) (y : Later w.val.heap.size w.val), ∃ w' : Later B W, w'.val = y.val) := Lib.hid (fun w y => HV.out (v1.up (w.up y)))
  have r0 : ∀ w : Later v1.val.heap.size v1.val, w.val.cell? ⟨u.val.heap.size, 0, none⟩ = some (.int .i64 m) := fun w => q0 (v1.up w)
  have r1 : ∀ w : Later v1.val.heap.size v1.val, w.val.cell? ⟨u.val.heap.size, 1, none⟩ = some (.slice a (ints L).length cap) := fun w => q1 (v1.up w)
  clear KM0 p0 p1 KHx KHy KRL KBt KBf hI HV q0 q1 hIR hcpR
  generalize u.val.heap.size = gu at *
  generalize v1.val = V at *
  clear h
  have KBt := Lib.hid (fun (v : Later V.heap.size V) (e : Int) => (show Calls Try.prog 14 #[.bool true, .int .i64 e] v.val (Ret V.heap.size V (.int .i64 0)) from c_bad v true e))
  have KBf := Lib.hid (fun (v : Later V.heap.size V) (e : Int) => (show Calls Try.prog 14 #[.bool false, .int .i64 e] v.val (Ret V.heap.size V (.int .i64 e)) from c_bad v false e))
  have HOk := Lib.hid (fun (B : Nat) (W : World) (u : Later B W) (y : Int) => c_one_ok u y)
  have HO3 := Lib.hid (fun (B : Nat) (W : World) (u : Later B W) (y : Int) => c_one_err u y 3 (by decide))
  have HO1 := Lib.hid (fun (B : Nat) (W : World) (u : Later B W) (y : Int) => c_one_err u y 1 (by decide))
  have HO5 := Lib.hid (fun (B : Nat) (W : World) (u : Later B W) (y : Int) => c_one_err u y 5 (by decide))
  have hnA : nand A Bb < 256 := nand_lt _ _ 8 hA8
  have KW := Lib.hid (fun v : Later V.heap.size V => dcall_f (c_within v x (nand A Bb) (by omega) (by omega)) hx)
  have KS := Lib.hid (fun v : Later V.heap.size V => c_swap_bad v m A Bb x L a cap hIV hlen he hA hB hA8 hB8 hx9 (.inr (fun h => hx (or_eq_iff.2 (nand_zero_sub.1 (by simpa using h))))))
  have KL := Lib.hid (fun v : Later V.heap.size V => c_ladder v m A Bb L l a cap hIV hlen he hm hA hB hA8 hB8 hl)
  have KF := Lib.hid (fun v : Later V.heap.size V => c_fund_bad (Later.self v.val) m Bb i L a cap (hIV.to v) hlen he hm hB hB8 (.inr (.inr (by simpa using hbi))))
  have KF' : Hid (∀ v : Later V.heap.size V, Calls Try.prog 81 #[.agg #[.int .i64 m, .slice a (ints L).length cap], .int .i64 Bb, .int .i64 i] v.val (Ret v.val.heap.size v.val (.tuple #[.int .i64 0, .int .i64 3]))) := KF
  have hl256 : (ints l).length ≤ 4611686018427387904 := by
    have h1 := LadIs.len l A hA8 hl
    have h2 : nand A Bb < 256 := nand_lt _ _ 8 hA8
    rw [ints_len]; omega
  have HL := Lib.hid (fun (w : Later V.heap.size V) (y : Later w.val.heap.size w.val) (ad : Option Addr) (cp : Nat) (hd : IntsAt w.val.heap.size w.val ad (ints l)) => c_list y (ints l) (ints l) ad adR cp cpR 0 0 hd (HIR.out.to w) hl256 rfl (by rw [if_pos rfl]))
  have o1 := i64_andNot A Bb (by omega) (by omega)
  have i0 : decide ((0 : Int) ≤ (i : Int)) = true := decide_eq_true (by omega)
  have i2 : decide ((i : Int) < (m : Int)) = true := decide_eq_true (by omega)
  have i3 : decide (i < m) = true := decide_eq_true hi
  have x0 : decide ((0 : Int) ≤ (x : Int)) = true := decide_eq_true (by omega)
  have KIn := Lib.hid (fun v : Later V.heap.size V => c_in v Bb i (by omega) (by omega))
  rw [hbi] at KIn
  clear hIV he hlt hex hf8 h256 hbm hl HIR KF
  obtain ⟨v1, hv1⟩ : ∃ v1 : Later V.heap.size V, v1.val = V := ⟨Later.self _, rfl⟩
  rw [← hv1]
  clear hv1
  go_wp2_with (first | (go_at_call 14; ((with_reducible refine (KBf.out _ _).mono ?_); rintro e _ ⟨rfl, v1, rfl⟩)) | (go_at_call 14; ((with_reducible refine (KBt.out _ _).mono ?_); rintro e _ ⟨rfl, v1, rfl⟩)) | (go_at_call 60; ((with_reducible refine (KW.out _).mono ?_); rintro e _ ⟨rfl, v1, rfl⟩)) | (go_at_call 21; ((with_reducible refine (KIn.out _).mono ?_); rintro e _ ⟨rfl, v1, rfl⟩)) | (go_at_call 79; ((with_reducible refine (KS.out _).mono ?_); rintro e _ ⟨rfl, v1, rfl⟩)) | (go_at_call 80; ((with_reducible refine (KL.out _).mono ?_); rintro e _ ⟨_, rfl, ⟨_, rfl, ⟨ad2, cp2, rfl, hI3, hcp3⟩⟩, w2, rfl⟩; have HI3 := Lib.hid hI3; clear hI3 hcp3)) | (go_at_call 81; ((with_reducible refine (KF'.out w2).mono ?_); rintro e _ ⟨rfl, v1, rfl⟩)) | (go_at_call 24; ((with_reducible refine (HO3.out _ _ _ _).mono ?_); rintro e _ ⟨rfl, v1, rfl⟩)) | (go_at_call 24; ((with_reducible refine (HO3.out _ _ _ _).mono ?_); rintro e _ ⟨rfl, v1, rfl⟩)) | (go_at_call 45; ((refine (HL.out _ _ _ _ HI3.out).mono ?_); rintro e _ ⟨rfl, v1, rfl⟩)))
  go_ret
  exact Ret.of (HVB.out _ v1) rfl

set_option maxRecDepth 100000 in
set_option maxHeartbeats 40000000 in
theorem law_sw_d24 {B : Nat} {W : World} (u : Later B W) (m A Bb : Nat) (x : Nat) (i F : Nat) (L l : List Nat) (a : Option Addr) (cap : Nat) (h : IntsAt B W a (ints L)) (hlen : (ints L).length ≤ 4611686018427387904) (he : MatIs (m : Int) (ints L) 0) (hm : m ≤ 8) (hTN : toN (ints L) = L) (hA : A ∈ L) (hB : Bb ∈ L) (hA8 : A < 256) (hB8 : Bb < 256) (hl : LadIs L Bb A l) (hx9 : (x : Int) < 9223372036854775808) (hx : ¬ x ||| nand A Bb = nand A Bb) (hi : i < m) (hbi : Bb.testBit i = false) (hF : FundIs L Bb i F) :
    Calls Try.prog 12 #[.agg #[.int .i64 m, .slice a (ints L).length cap], .int .i64 A, .int .i64 Bb, .int .i64 x, .int .i64 i] u.val (Ret B W (.bool true)) := by
  have hlt := he.zero.1.1
  have hex := he.zero.2
  have hf8 := he.zero.1.fam8
  rw [show toN (ints L) = L from hTN] at hf8 hex
  have h256 : ∀ b, b ∈ L → b < 256 := hf8.lt
  have hbm : ∀ b, b ∈ L → b < bit m := fun b hb => by
    have := fam_lt hlt b (by rw [hTN]; exact hb)
    simpa using this
  have T0 : Hid (Two (u.val.alloc (.cells #[.int .i64 m, .slice a (ints L).length cap] 60)) u.val.heap.size 60 (.int .i64 m) (.slice a (ints L).length cap)) := Lib.hid (Two.new _ _ _ _)
  have hI : IntsAt (u.val.alloc (.cells #[.int .i64 m, .slice a (ints L).length cap] 60)).heap.size (u.val.alloc (.cells #[.int .i64 m, .slice a (ints L).length cap] 60)) a (ints L) := h.to (u.alloc _)
  have HV : Hid (∀ v : Later (u.val.alloc (.cells #[.int .i64 m, .slice a (ints L).length cap] 60)).heap.size (u.val.alloc (.cells #[.int .i64 m, .slice a (ints L).length cap] 60)), ∃ w : Later B W, w.val = v.val) := Lib.hid (fun v => ⟨(u.alloc _).up v, rfl⟩)
  have q0 : ∀ w : Later (u.val.alloc (.cells #[.int .i64 m, .slice a (ints L).length cap] 60)).heap.size (u.val.alloc (.cells #[.int .i64 m, .slice a (ints L).length cap] 60)), w.val.cell? ⟨u.val.heap.size, 0, none⟩ = some (.int .i64 m) := fun w => (T0.out.keep w.below).c0
  have q1 : ∀ w : Later (u.val.alloc (.cells #[.int .i64 m, .slice a (ints L).length cap] 60)).heap.size (u.val.alloc (.cells #[.int .i64 m, .slice a (ints L).length cap] 60)), w.val.cell? ⟨u.val.heap.size, 1, none⟩ = some (.slice a (ints L).length cap) := fun w => (T0.out.keep w.below).c1
  generalize hW1 : (u.val.alloc (.cells #[.int .i64 m, .slice a (ints L).length cap] 60)) = W1 at *
  generalize hgu : u.val.heap.size = gu at *
  have hlenL : L.length ≤ 4611686018427387904 := by rw [ints_len] at hlen; exact hlen
  have KM0 : Hid (Calls Try.prog 74 #[.agg #[.int .i64 m, .slice a (ints L).length cap]] W1 (Ret W1.heap.size W1 (.int .i64 0))) := Lib.hid (c_refMatroid (Later.self W1) m (ints L) a cap 0 hI hlen he)
  have p0 : W1.cell? ⟨gu, 0, none⟩ = some (.int .i64 m) := q0 (Later.self W1)
  have p1 : W1.cell? ⟨gu, 1, none⟩ = some (.slice a (ints L).length cap) := q1 (Later.self W1)
  have KH : Hid (∀ (v : Later W1.heap.size W1) (z : Int) (d : Bool), decide (z ∈ ints L) = d → Calls Try.prog 75 #[.slice a (ints L).length cap, .int .i64 z] v.val (Ret W1.heap.size W1 (.bool d))) := Lib.hid (fun v z d hd => by
    have := c_has v (ints L) z a cap hI (by omega)
    rwa [hd] at this)
  have KBt := Lib.hid (fun (v : Later W1.heap.size W1) (e : Int) => (show Calls Try.prog 14 #[.bool true, .int .i64 e] v.val (Ret W1.heap.size W1 (.int .i64 0)) from c_bad v true e))
  have KBf := Lib.hid (fun (v : Later W1.heap.size W1) (e : Int) => (show Calls Try.prog 14 #[.bool false, .int .i64 e] v.val (Ret W1.heap.size W1 (.int .i64 e)) from c_bad v false e))
  have KHx := Lib.hid (fun v => KH.out v A true (by simp [mem_ints, hA]))
  have KHy := Lib.hid (fun v => KH.out v Bb true (by simp [mem_ints, hB]))
  have KRL := Lib.hid (fun v : Later W1.heap.size W1 => c_refLadder m Bb L a cap hlenL hm hB8 _ _ _ v A l hI hA8 hl rfl)
  clear T0 KH
  subst hW1
  subst hgu
  go_enter Try.func12, Try.ntmps12
  go_upto_region 11 with (first | (go_at_call 74; ((with_reducible refine (KM0.out).mono ?_); rintro e _ ⟨rfl, v1, rfl⟩)) | (go_at_call 75; ((with_reducible refine (KHx.out _).mono ?_); rintro e _ ⟨rfl, v1, rfl⟩)) | (go_at_call 75; ((with_reducible refine (KHy.out _).mono ?_); rintro e _ ⟨rfl, v1, rfl⟩)) | (go_at_call 14; ((with_reducible refine (KBt.out _ _).mono ?_); rintro e _ ⟨rfl, v1, rfl⟩)) | (go_at_call 76; ((with_reducible refine (KRL.out _).mono ?_); rintro e _ ⟨_, rfl, ⟨adR, cpR, rfl, hIR, hcpR⟩, v1, rfl⟩)))
  have hIV : IntsAt v1.val.heap.size v1.val a (ints L) := hI.to v1
  have HIR := Lib.hid hIR
  have HVB : Hid (∀ (w : Later v1.val.heap.size v1.val) (y : Later w.val.heap.size w.val), ∃ w' : Later B W, w'.val = y.val) := Lib.hid (fun w y => HV.out (v1.up (w.up y)))
  have r0 : ∀ w : Later v1.val.heap.size v1.val, w.val.cell? ⟨u.val.heap.size, 0, none⟩ = some (.int .i64 m) := fun w => q0 (v1.up w)
  have r1 : ∀ w : Later v1.val.heap.size v1.val, w.val.cell? ⟨u.val.heap.size, 1, none⟩ = some (.slice a (ints L).length cap) := fun w => q1 (v1.up w)
  clear KM0 p0 p1 KHx KHy KRL KBt KBf hI HV q0 q1 hIR hcpR
  generalize u.val.heap.size = gu at *
  generalize v1.val = V at *
  clear h
  have KBt := Lib.hid (fun (v : Later V.heap.size V) (e : Int) => (show Calls Try.prog 14 #[.bool true, .int .i64 e] v.val (Ret V.heap.size V (.int .i64 0)) from c_bad v true e))
  have KBf := Lib.hid (fun (v : Later V.heap.size V) (e : Int) => (show Calls Try.prog 14 #[.bool false, .int .i64 e] v.val (Ret V.heap.size V (.int .i64 e)) from c_bad v false e))
  have HOk := Lib.hid (fun (B : Nat) (W : World) (u : Later B W) (y : Int) => c_one_ok u y)
  have HO3 := Lib.hid (fun (B : Nat) (W : World) (u : Later B W) (y : Int) => c_one_err u y 3 (by decide))
  have HO1 := Lib.hid (fun (B : Nat) (W : World) (u : Later B W) (y : Int) => c_one_err u y 1 (by decide))
  have HO5 := Lib.hid (fun (B : Nat) (W : World) (u : Later B W) (y : Int) => c_one_err u y 5 (by decide))
  have hnA : nand A Bb < 256 := nand_lt _ _ 8 hA8
  have KW := Lib.hid (fun v : Later V.heap.size V => dcall_f (c_within v x (nand A Bb) (by omega) (by omega)) hx)
  have KS := Lib.hid (fun v : Later V.heap.size V => c_swap_bad v m A Bb x L a cap hIV hlen he hA hB hA8 hB8 hx9 (.inr (fun h => hx (or_eq_iff.2 (nand_zero_sub.1 (by simpa using h))))))
  have KL := Lib.hid (fun v : Later V.heap.size V => c_ladder v m A Bb L l a cap hIV hlen he hm hA hB hA8 hB8 hl)
  have KF := Lib.hid (fun v : Later V.heap.size V => c_fund (Later.self v.val) m Bb i F L a cap (hIV.to v) hlen he hm hB hB8 hi hbi hF)
  have KF' : Hid (∀ v : Later V.heap.size V, Calls Try.prog 81 #[.agg #[.int .i64 m, .slice a (ints L).length cap], .int .i64 Bb, .int .i64 i] v.val (Ret v.val.heap.size v.val (.tuple #[.int .i64 F, .int .i64 0]))) := KF
  have hl256 : (ints l).length ≤ 4611686018427387904 := by
    have h1 := LadIs.len l A hA8 hl
    have h2 : nand A Bb < 256 := nand_lt _ _ 8 hA8
    rw [ints_len]; omega
  have HL := Lib.hid (fun (w : Later V.heap.size V) (y : Later w.val.heap.size w.val) (ad : Option Addr) (cp : Nat) (hd : IntsAt w.val.heap.size w.val ad (ints l)) => c_list y (ints l) (ints l) ad adR cp cpR 0 0 hd (HIR.out.to w) hl256 rfl (by rw [if_pos rfl]))
  have o1 := i64_andNot A Bb (by omega) (by omega)
  have i0 : decide ((0 : Int) ≤ (i : Int)) = true := decide_eq_true (by omega)
  have i2 : decide ((i : Int) < (m : Int)) = true := decide_eq_true (by omega)
  have i3 : decide (i < m) = true := decide_eq_true hi
  have x0 : decide ((0 : Int) ≤ (x : Int)) = true := decide_eq_true (by omega)
  have KIn := Lib.hid (fun v : Later V.heap.size V => c_in v Bb i (by omega) (by omega))
  rw [hbi] at KIn
  have KR := Lib.hid (fun v : Later V.heap.size V => c_ring v m hm L h256 hlenL a cap Bb i F hB8 (by omega) hIV (ring_is hm hf8 hbm hex hB hi hbi hF))
  clear hIV he hlt hex hf8 h256 hbm hl HIR KF
  obtain ⟨v1, hv1⟩ : ∃ v1 : Later V.heap.size V, v1.val = V := ⟨Later.self _, rfl⟩
  rw [← hv1]
  clear hv1
  go_wp2_with (first | (go_at_call 14; ((with_reducible refine (KBf.out _ _).mono ?_); rintro e _ ⟨rfl, v1, rfl⟩)) | (go_at_call 14; ((with_reducible refine (KBt.out _ _).mono ?_); rintro e _ ⟨rfl, v1, rfl⟩)) | (go_at_call 60; ((with_reducible refine (KW.out _).mono ?_); rintro e _ ⟨rfl, v1, rfl⟩)) | (go_at_call 21; ((with_reducible refine (KIn.out _).mono ?_); rintro e _ ⟨rfl, v1, rfl⟩)) | (go_at_call 78; ((with_reducible refine (KR.out _).mono ?_); rintro e _ ⟨rfl, v1, rfl⟩)) | (go_at_call 79; ((with_reducible refine (KS.out _).mono ?_); rintro e _ ⟨rfl, v1, rfl⟩)) | (go_at_call 80; ((with_reducible refine (KL.out _).mono ?_); rintro e _ ⟨_, rfl, ⟨_, rfl, ⟨ad2, cp2, rfl, hI3, hcp3⟩⟩, w2, rfl⟩; have HI3 := Lib.hid hI3; clear hI3 hcp3)) | (go_at_call 81; ((with_reducible refine (KF'.out w2).mono ?_); rintro e _ ⟨rfl, v1, rfl⟩)) | (go_at_call 24; ((with_reducible refine (HO3.out _ _ _ _).mono ?_); rintro e _ ⟨rfl, v1, rfl⟩)) | (go_at_call 24; ((with_reducible refine (HOk.out _ _ _ _).mono ?_); rintro e _ ⟨rfl, v1, rfl⟩)) | (go_at_call 45; ((refine (HL.out _ _ _ _ HI3.out).mono ?_); rintro e _ ⟨rfl, v1, rfl⟩)))
  go_ret
  exact Ret.of (HVB.out _ v1) rfl

set_option maxRecDepth 100000 in
set_option maxHeartbeats 40000000 in
theorem law_sw_d31 {B : Nat} {W : World} (u : Later B W) (m A Bb : Nat) (x : Nat) (r : Int) (i : Int) (L l : List Nat) (a : Option Addr) (cap : Nat) (h : IntsAt B W a (ints L)) (hlen : (ints L).length ≤ 4611686018427387904) (he : MatIs (m : Int) (ints L) 0) (hm : m ≤ 8) (hTN : toN (ints L) = L) (hA : A ∈ L) (hB : Bb ∈ L) (hA8 : A < 256) (hB8 : Bb < 256) (hl : LadIs L Bb A l) (hx8 : x < 256) (hx : x ||| nand A Bb = nand A Bb) (hs : SwIs m L A Bb x r 0) (hi : i < 0) :
    Calls Try.prog 12 #[.agg #[.int .i64 m, .slice a (ints L).length cap], .int .i64 A, .int .i64 Bb, .int .i64 x, .int .i64 i] u.val (Ret B W (.bool true)) := by
  have hlt := he.zero.1.1
  have hex := he.zero.2
  have hf8 := he.zero.1.fam8
  rw [show toN (ints L) = L from hTN] at hf8 hex
  have h256 : ∀ b, b ∈ L → b < 256 := hf8.lt
  have hbm : ∀ b, b ∈ L → b < bit m := fun b hb => by
    have := fam_lt hlt b (by rw [hTN]; exact hb)
    simpa using this
  have T0 : Hid (Two (u.val.alloc (.cells #[.int .i64 m, .slice a (ints L).length cap] 60)) u.val.heap.size 60 (.int .i64 m) (.slice a (ints L).length cap)) := Lib.hid (Two.new _ _ _ _)
  have hI : IntsAt (u.val.alloc (.cells #[.int .i64 m, .slice a (ints L).length cap] 60)).heap.size (u.val.alloc (.cells #[.int .i64 m, .slice a (ints L).length cap] 60)) a (ints L) := h.to (u.alloc _)
  have HV : Hid (∀ v : Later (u.val.alloc (.cells #[.int .i64 m, .slice a (ints L).length cap] 60)).heap.size (u.val.alloc (.cells #[.int .i64 m, .slice a (ints L).length cap] 60)), ∃ w : Later B W, w.val = v.val) := Lib.hid (fun v => ⟨(u.alloc _).up v, rfl⟩)
  have q0 : ∀ w : Later (u.val.alloc (.cells #[.int .i64 m, .slice a (ints L).length cap] 60)).heap.size (u.val.alloc (.cells #[.int .i64 m, .slice a (ints L).length cap] 60)), w.val.cell? ⟨u.val.heap.size, 0, none⟩ = some (.int .i64 m) := fun w => (T0.out.keep w.below).c0
  have q1 : ∀ w : Later (u.val.alloc (.cells #[.int .i64 m, .slice a (ints L).length cap] 60)).heap.size (u.val.alloc (.cells #[.int .i64 m, .slice a (ints L).length cap] 60)), w.val.cell? ⟨u.val.heap.size, 1, none⟩ = some (.slice a (ints L).length cap) := fun w => (T0.out.keep w.below).c1
  generalize hW1 : (u.val.alloc (.cells #[.int .i64 m, .slice a (ints L).length cap] 60)) = W1 at *
  generalize hgu : u.val.heap.size = gu at *
  have hlenL : L.length ≤ 4611686018427387904 := by rw [ints_len] at hlen; exact hlen
  have KM0 : Hid (Calls Try.prog 74 #[.agg #[.int .i64 m, .slice a (ints L).length cap]] W1 (Ret W1.heap.size W1 (.int .i64 0))) := Lib.hid (c_refMatroid (Later.self W1) m (ints L) a cap 0 hI hlen he)
  have p0 : W1.cell? ⟨gu, 0, none⟩ = some (.int .i64 m) := q0 (Later.self W1)
  have p1 : W1.cell? ⟨gu, 1, none⟩ = some (.slice a (ints L).length cap) := q1 (Later.self W1)
  have KH : Hid (∀ (v : Later W1.heap.size W1) (z : Int) (d : Bool), decide (z ∈ ints L) = d → Calls Try.prog 75 #[.slice a (ints L).length cap, .int .i64 z] v.val (Ret W1.heap.size W1 (.bool d))) := Lib.hid (fun v z d hd => by
    have := c_has v (ints L) z a cap hI (by omega)
    rwa [hd] at this)
  have KBt := Lib.hid (fun (v : Later W1.heap.size W1) (e : Int) => (show Calls Try.prog 14 #[.bool true, .int .i64 e] v.val (Ret W1.heap.size W1 (.int .i64 0)) from c_bad v true e))
  have KBf := Lib.hid (fun (v : Later W1.heap.size W1) (e : Int) => (show Calls Try.prog 14 #[.bool false, .int .i64 e] v.val (Ret W1.heap.size W1 (.int .i64 e)) from c_bad v false e))
  have KHx := Lib.hid (fun v => KH.out v A true (by simp [mem_ints, hA]))
  have KHy := Lib.hid (fun v => KH.out v Bb true (by simp [mem_ints, hB]))
  have KRL := Lib.hid (fun v : Later W1.heap.size W1 => c_refLadder m Bb L a cap hlenL hm hB8 _ _ _ v A l hI hA8 hl rfl)
  clear T0 KH
  subst hW1
  subst hgu
  go_enter Try.func12, Try.ntmps12
  go_upto_region 11 with (first | (go_at_call 74; ((with_reducible refine (KM0.out).mono ?_); rintro e _ ⟨rfl, v1, rfl⟩)) | (go_at_call 75; ((with_reducible refine (KHx.out _).mono ?_); rintro e _ ⟨rfl, v1, rfl⟩)) | (go_at_call 75; ((with_reducible refine (KHy.out _).mono ?_); rintro e _ ⟨rfl, v1, rfl⟩)) | (go_at_call 14; ((with_reducible refine (KBt.out _ _).mono ?_); rintro e _ ⟨rfl, v1, rfl⟩)) | (go_at_call 76; ((with_reducible refine (KRL.out _).mono ?_); rintro e _ ⟨_, rfl, ⟨adR, cpR, rfl, hIR, hcpR⟩, v1, rfl⟩)))
  have hIV : IntsAt v1.val.heap.size v1.val a (ints L) := hI.to v1
  have HIR := Lib.hid hIR
  have HVB : Hid (∀ (w : Later v1.val.heap.size v1.val) (y : Later w.val.heap.size w.val), ∃ w' : Later B W, w'.val = y.val) := Lib.hid (fun w y => HV.out (v1.up (w.up y)))
  have r0 : ∀ w : Later v1.val.heap.size v1.val, w.val.cell? ⟨u.val.heap.size, 0, none⟩ = some (.int .i64 m) := fun w => q0 (v1.up w)
  have r1 : ∀ w : Later v1.val.heap.size v1.val, w.val.cell? ⟨u.val.heap.size, 1, none⟩ = some (.slice a (ints L).length cap) := fun w => q1 (v1.up w)
  clear KM0 p0 p1 KHx KHy KRL KBt KBf hI HV q0 q1 hIR hcpR
  generalize u.val.heap.size = gu at *
  generalize v1.val = V at *
  clear h
  have KBt := Lib.hid (fun (v : Later V.heap.size V) (e : Int) => (show Calls Try.prog 14 #[.bool true, .int .i64 e] v.val (Ret V.heap.size V (.int .i64 0)) from c_bad v true e))
  have KBf := Lib.hid (fun (v : Later V.heap.size V) (e : Int) => (show Calls Try.prog 14 #[.bool false, .int .i64 e] v.val (Ret V.heap.size V (.int .i64 e)) from c_bad v false e))
  have HOk := Lib.hid (fun (B : Nat) (W : World) (u : Later B W) (y : Int) => c_one_ok u y)
  have HO3 := Lib.hid (fun (B : Nat) (W : World) (u : Later B W) (y : Int) => c_one_err u y 3 (by decide))
  have HO1 := Lib.hid (fun (B : Nat) (W : World) (u : Later B W) (y : Int) => c_one_err u y 1 (by decide))
  have HO5 := Lib.hid (fun (B : Nat) (W : World) (u : Later B W) (y : Int) => c_one_err u y 5 (by decide))
  have hnA : nand A Bb < 256 := nand_lt _ _ 8 hA8
  have KW := Lib.hid (fun v : Later V.heap.size V => dcall_t (c_within v x (nand A Bb) (by omega) (by omega)) hx)
  have hx0 : nand x (nand A Bb) = 0 := nand_zero_sub.2 (or_eq_iff.1 hx)
  have KS := Lib.hid (fun v : Later V.heap.size V => c_swap v m A Bb x r 0 L a cap hIV hlen he hm hA hB hA8 hB8 hx8 hx0 hs)
  have KW2 := Lib.hid (fun v : Later V.heap.size V => (show Calls Try.prog 77 #[.agg #[.int .i64 m, .slice a (ints L).length cap], .int .i64 A, .int .i64 Bb, .int .i64 x] v.val (Ret V.heap.size V (.tuple #[.int .i64 r, .bool true])) from c_refSwapped v m A Bb x r 0 L a cap hIV hlenL hm hA8 hB8 hx8 hx0 hs))
  have KL := Lib.hid (fun v : Later V.heap.size V => c_ladder v m A Bb L l a cap hIV hlen he hm hA hB hA8 hB8 hl)
  have KF := Lib.hid (fun v : Later V.heap.size V => c_fund_bad (Later.self v.val) m Bb i L a cap (hIV.to v) hlen he hm hB hB8 (.inl hi))
  have KF' : Hid (∀ v : Later V.heap.size V, Calls Try.prog 81 #[.agg #[.int .i64 m, .slice a (ints L).length cap], .int .i64 Bb, .int .i64 i] v.val (Ret v.val.heap.size v.val (.tuple #[.int .i64 0, .int .i64 3]))) := KF
  have hl256 : (ints l).length ≤ 4611686018427387904 := by
    have h1 := LadIs.len l A hA8 hl
    have h2 : nand A Bb < 256 := nand_lt _ _ 8 hA8
    rw [ints_len]; omega
  have HL := Lib.hid (fun (w : Later V.heap.size V) (y : Later w.val.heap.size w.val) (ad : Option Addr) (cp : Nat) (hd : IntsAt w.val.heap.size w.val ad (ints l)) => c_list y (ints l) (ints l) ad adR cp cpR 0 0 hd (HIR.out.to w) hl256 rfl (by rw [if_pos rfl]))
  have o1 := i64_andNot A Bb (by omega) (by omega)
  have i1 : decide ((0 : Int) ≤ i) = false := decide_eq_false (by omega)
  have x0 : decide ((0 : Int) ≤ (x : Int)) = true := decide_eq_true (by omega)
  clear hIV he hlt hex hf8 h256 hbm hl HIR KF
  obtain ⟨v1, hv1⟩ : ∃ v1 : Later V.heap.size V, v1.val = V := ⟨Later.self _, rfl⟩
  rw [← hv1]
  clear hv1
  go_wp2_with (first | (go_at_call 14; ((with_reducible refine (KBf.out _ _).mono ?_); rintro e _ ⟨rfl, v1, rfl⟩)) | (go_at_call 14; ((with_reducible refine (KBt.out _ _).mono ?_); rintro e _ ⟨rfl, v1, rfl⟩)) | (go_at_call 60; ((with_reducible refine (KW.out _).mono ?_); rintro e _ ⟨rfl, v1, rfl⟩)) | (go_at_call 77; ((with_reducible refine (KW2.out _).mono ?_); rintro e _ ⟨rfl, v1, rfl⟩)) | (go_at_call 79; ((with_reducible refine (KS.out _).mono ?_); rintro e _ ⟨rfl, v1, rfl⟩)) | (go_at_call 80; ((with_reducible refine (KL.out _).mono ?_); rintro e _ ⟨_, rfl, ⟨_, rfl, ⟨ad2, cp2, rfl, hI3, hcp3⟩⟩, w2, rfl⟩; have HI3 := Lib.hid hI3; clear hI3 hcp3)) | (go_at_call 81; ((with_reducible refine (KF'.out w2).mono ?_); rintro e _ ⟨rfl, v1, rfl⟩)) | (go_at_call 24; ((with_reducible refine (HOk.out _ _ _ _).mono ?_); rintro e _ ⟨rfl, v1, rfl⟩)) | (go_at_call 24; ((with_reducible refine (HO3.out _ _ _ _).mono ?_); rintro e _ ⟨rfl, v1, rfl⟩)) | (go_at_call 45; ((refine (HL.out _ _ _ _ HI3.out).mono ?_); rintro e _ ⟨rfl, v1, rfl⟩)))
  go_ret
  exact Ret.of (HVB.out _ v1) rfl

set_option maxRecDepth 100000 in
set_option maxHeartbeats 40000000 in
theorem law_sw_d32 {B : Nat} {W : World} (u : Later B W) (m A Bb : Nat) (x : Nat) (r : Int) (i : Nat) (L l : List Nat) (a : Option Addr) (cap : Nat) (h : IntsAt B W a (ints L)) (hlen : (ints L).length ≤ 4611686018427387904) (he : MatIs (m : Int) (ints L) 0) (hm : m ≤ 8) (hTN : toN (ints L) = L) (hA : A ∈ L) (hB : Bb ∈ L) (hA8 : A < 256) (hB8 : Bb < 256) (hl : LadIs L Bb A l) (hx8 : x < 256) (hx : x ||| nand A Bb = nand A Bb) (hs : SwIs m L A Bb x r 0) (hi : m ≤ i) :
    Calls Try.prog 12 #[.agg #[.int .i64 m, .slice a (ints L).length cap], .int .i64 A, .int .i64 Bb, .int .i64 x, .int .i64 i] u.val (Ret B W (.bool true)) := by
  have hlt := he.zero.1.1
  have hex := he.zero.2
  have hf8 := he.zero.1.fam8
  rw [show toN (ints L) = L from hTN] at hf8 hex
  have h256 : ∀ b, b ∈ L → b < 256 := hf8.lt
  have hbm : ∀ b, b ∈ L → b < bit m := fun b hb => by
    have := fam_lt hlt b (by rw [hTN]; exact hb)
    simpa using this
  have T0 : Hid (Two (u.val.alloc (.cells #[.int .i64 m, .slice a (ints L).length cap] 60)) u.val.heap.size 60 (.int .i64 m) (.slice a (ints L).length cap)) := Lib.hid (Two.new _ _ _ _)
  have hI : IntsAt (u.val.alloc (.cells #[.int .i64 m, .slice a (ints L).length cap] 60)).heap.size (u.val.alloc (.cells #[.int .i64 m, .slice a (ints L).length cap] 60)) a (ints L) := h.to (u.alloc _)
  have HV : Hid (∀ v : Later (u.val.alloc (.cells #[.int .i64 m, .slice a (ints L).length cap] 60)).heap.size (u.val.alloc (.cells #[.int .i64 m, .slice a (ints L).length cap] 60)), ∃ w : Later B W, w.val = v.val) := Lib.hid (fun v => ⟨(u.alloc _).up v, rfl⟩)
  have q0 : ∀ w : Later (u.val.alloc (.cells #[.int .i64 m, .slice a (ints L).length cap] 60)).heap.size (u.val.alloc (.cells #[.int .i64 m, .slice a (ints L).length cap] 60)), w.val.cell? ⟨u.val.heap.size, 0, none⟩ = some (.int .i64 m) := fun w => (T0.out.keep w.below).c0
  have q1 : ∀ w : Later (u.val.alloc (.cells #[.int .i64 m, .slice a (ints L).length cap] 60)).heap.size (u.val.alloc (.cells #[.int .i64 m, .slice a (ints L).length cap] 60)), w.val.cell? ⟨u.val.heap.size, 1, none⟩ = some (.slice a (ints L).length cap) := fun w => (T0.out.keep w.below).c1
  generalize hW1 : (u.val.alloc (.cells #[.int .i64 m, .slice a (ints L).length cap] 60)) = W1 at *
  generalize hgu : u.val.heap.size = gu at *
  have hlenL : L.length ≤ 4611686018427387904 := by rw [ints_len] at hlen; exact hlen
  have KM0 : Hid (Calls Try.prog 74 #[.agg #[.int .i64 m, .slice a (ints L).length cap]] W1 (Ret W1.heap.size W1 (.int .i64 0))) := Lib.hid (c_refMatroid (Later.self W1) m (ints L) a cap 0 hI hlen he)
  have p0 : W1.cell? ⟨gu, 0, none⟩ = some (.int .i64 m) := q0 (Later.self W1)
  have p1 : W1.cell? ⟨gu, 1, none⟩ = some (.slice a (ints L).length cap) := q1 (Later.self W1)
  have KH : Hid (∀ (v : Later W1.heap.size W1) (z : Int) (d : Bool), decide (z ∈ ints L) = d → Calls Try.prog 75 #[.slice a (ints L).length cap, .int .i64 z] v.val (Ret W1.heap.size W1 (.bool d))) := Lib.hid (fun v z d hd => by
    have := c_has v (ints L) z a cap hI (by omega)
    rwa [hd] at this)
  have KBt := Lib.hid (fun (v : Later W1.heap.size W1) (e : Int) => (show Calls Try.prog 14 #[.bool true, .int .i64 e] v.val (Ret W1.heap.size W1 (.int .i64 0)) from c_bad v true e))
  have KBf := Lib.hid (fun (v : Later W1.heap.size W1) (e : Int) => (show Calls Try.prog 14 #[.bool false, .int .i64 e] v.val (Ret W1.heap.size W1 (.int .i64 e)) from c_bad v false e))
  have KHx := Lib.hid (fun v => KH.out v A true (by simp [mem_ints, hA]))
  have KHy := Lib.hid (fun v => KH.out v Bb true (by simp [mem_ints, hB]))
  have KRL := Lib.hid (fun v : Later W1.heap.size W1 => c_refLadder m Bb L a cap hlenL hm hB8 _ _ _ v A l hI hA8 hl rfl)
  clear T0 KH
  subst hW1
  subst hgu
  go_enter Try.func12, Try.ntmps12
  go_upto_region 11 with (first | (go_at_call 74; ((with_reducible refine (KM0.out).mono ?_); rintro e _ ⟨rfl, v1, rfl⟩)) | (go_at_call 75; ((with_reducible refine (KHx.out _).mono ?_); rintro e _ ⟨rfl, v1, rfl⟩)) | (go_at_call 75; ((with_reducible refine (KHy.out _).mono ?_); rintro e _ ⟨rfl, v1, rfl⟩)) | (go_at_call 14; ((with_reducible refine (KBt.out _ _).mono ?_); rintro e _ ⟨rfl, v1, rfl⟩)) | (go_at_call 76; ((with_reducible refine (KRL.out _).mono ?_); rintro e _ ⟨_, rfl, ⟨adR, cpR, rfl, hIR, hcpR⟩, v1, rfl⟩)))
  have hIV : IntsAt v1.val.heap.size v1.val a (ints L) := hI.to v1
  have HIR := Lib.hid hIR
  have HVB : Hid (∀ (w : Later v1.val.heap.size v1.val) (y : Later w.val.heap.size w.val), ∃ w' : Later B W, w'.val = y.val) := Lib.hid (fun w y => HV.out (v1.up (w.up y)))
  have r0 : ∀ w : Later v1.val.heap.size v1.val, w.val.cell? ⟨u.val.heap.size, 0, none⟩ = some (.int .i64 m) := fun w => q0 (v1.up w)
  have r1 : ∀ w : Later v1.val.heap.size v1.val, w.val.cell? ⟨u.val.heap.size, 1, none⟩ = some (.slice a (ints L).length cap) := fun w => q1 (v1.up w)
  clear KM0 p0 p1 KHx KHy KRL KBt KBf hI HV q0 q1 hIR hcpR
  generalize u.val.heap.size = gu at *
  generalize v1.val = V at *
  clear h
  have KBt := Lib.hid (fun (v : Later V.heap.size V) (e : Int) => (show Calls Try.prog 14 #[.bool true, .int .i64 e] v.val (Ret V.heap.size V (.int .i64 0)) from c_bad v true e))
  have KBf := Lib.hid (fun (v : Later V.heap.size V) (e : Int) => (show Calls Try.prog 14 #[.bool false, .int .i64 e] v.val (Ret V.heap.size V (.int .i64 e)) from c_bad v false e))
  have HOk := Lib.hid (fun (B : Nat) (W : World) (u : Later B W) (y : Int) => c_one_ok u y)
  have HO3 := Lib.hid (fun (B : Nat) (W : World) (u : Later B W) (y : Int) => c_one_err u y 3 (by decide))
  have HO1 := Lib.hid (fun (B : Nat) (W : World) (u : Later B W) (y : Int) => c_one_err u y 1 (by decide))
  have HO5 := Lib.hid (fun (B : Nat) (W : World) (u : Later B W) (y : Int) => c_one_err u y 5 (by decide))
  have hnA : nand A Bb < 256 := nand_lt _ _ 8 hA8
  have KW := Lib.hid (fun v : Later V.heap.size V => dcall_t (c_within v x (nand A Bb) (by omega) (by omega)) hx)
  have hx0 : nand x (nand A Bb) = 0 := nand_zero_sub.2 (or_eq_iff.1 hx)
  have KS := Lib.hid (fun v : Later V.heap.size V => c_swap v m A Bb x r 0 L a cap hIV hlen he hm hA hB hA8 hB8 hx8 hx0 hs)
  have KW2 := Lib.hid (fun v : Later V.heap.size V => (show Calls Try.prog 77 #[.agg #[.int .i64 m, .slice a (ints L).length cap], .int .i64 A, .int .i64 Bb, .int .i64 x] v.val (Ret V.heap.size V (.tuple #[.int .i64 r, .bool true])) from c_refSwapped v m A Bb x r 0 L a cap hIV hlenL hm hA8 hB8 hx8 hx0 hs))
  have KL := Lib.hid (fun v : Later V.heap.size V => c_ladder v m A Bb L l a cap hIV hlen he hm hA hB hA8 hB8 hl)
  have KF := Lib.hid (fun v : Later V.heap.size V => c_fund_bad (Later.self v.val) m Bb i L a cap (hIV.to v) hlen he hm hB hB8 (.inr (.inl (by omega))))
  have KF' : Hid (∀ v : Later V.heap.size V, Calls Try.prog 81 #[.agg #[.int .i64 m, .slice a (ints L).length cap], .int .i64 Bb, .int .i64 i] v.val (Ret v.val.heap.size v.val (.tuple #[.int .i64 0, .int .i64 3]))) := KF
  have hl256 : (ints l).length ≤ 4611686018427387904 := by
    have h1 := LadIs.len l A hA8 hl
    have h2 : nand A Bb < 256 := nand_lt _ _ 8 hA8
    rw [ints_len]; omega
  have HL := Lib.hid (fun (w : Later V.heap.size V) (y : Later w.val.heap.size w.val) (ad : Option Addr) (cp : Nat) (hd : IntsAt w.val.heap.size w.val ad (ints l)) => c_list y (ints l) (ints l) ad adR cp cpR 0 0 hd (HIR.out.to w) hl256 rfl (by rw [if_pos rfl]))
  have o1 := i64_andNot A Bb (by omega) (by omega)
  have i0 : decide ((0 : Int) ≤ (i : Int)) = true := decide_eq_true (by omega)
  have i2 : decide ((i : Int) < (m : Int)) = false := decide_eq_false (by omega)
  have i3 : decide (i < m) = false := decide_eq_false (by omega)
  have x0 : decide ((0 : Int) ≤ (x : Int)) = true := decide_eq_true (by omega)
  clear hIV he hlt hex hf8 h256 hbm hl HIR KF
  obtain ⟨v1, hv1⟩ : ∃ v1 : Later V.heap.size V, v1.val = V := ⟨Later.self _, rfl⟩
  rw [← hv1]
  clear hv1
  go_wp2_with (first | (go_at_call 14; ((with_reducible refine (KBf.out _ _).mono ?_); rintro e _ ⟨rfl, v1, rfl⟩)) | (go_at_call 14; ((with_reducible refine (KBt.out _ _).mono ?_); rintro e _ ⟨rfl, v1, rfl⟩)) | (go_at_call 60; ((with_reducible refine (KW.out _).mono ?_); rintro e _ ⟨rfl, v1, rfl⟩)) | (go_at_call 77; ((with_reducible refine (KW2.out _).mono ?_); rintro e _ ⟨rfl, v1, rfl⟩)) | (go_at_call 79; ((with_reducible refine (KS.out _).mono ?_); rintro e _ ⟨rfl, v1, rfl⟩)) | (go_at_call 80; ((with_reducible refine (KL.out _).mono ?_); rintro e _ ⟨_, rfl, ⟨_, rfl, ⟨ad2, cp2, rfl, hI3, hcp3⟩⟩, w2, rfl⟩; have HI3 := Lib.hid hI3; clear hI3 hcp3)) | (go_at_call 81; ((with_reducible refine (KF'.out w2).mono ?_); rintro e _ ⟨rfl, v1, rfl⟩)) | (go_at_call 24; ((with_reducible refine (HOk.out _ _ _ _).mono ?_); rintro e _ ⟨rfl, v1, rfl⟩)) | (go_at_call 24; ((with_reducible refine (HO3.out _ _ _ _).mono ?_); rintro e _ ⟨rfl, v1, rfl⟩)) | (go_at_call 45; ((refine (HL.out _ _ _ _ HI3.out).mono ?_); rintro e _ ⟨rfl, v1, rfl⟩)))
  go_ret
  exact Ret.of (HVB.out _ v1) rfl

set_option maxRecDepth 100000 in
set_option maxHeartbeats 40000000 in
theorem law_sw_d33 {B : Nat} {W : World} (u : Later B W) (m A Bb : Nat) (x : Nat) (r : Int) (i : Nat) (L l : List Nat) (a : Option Addr) (cap : Nat) (h : IntsAt B W a (ints L)) (hlen : (ints L).length ≤ 4611686018427387904) (he : MatIs (m : Int) (ints L) 0) (hm : m ≤ 8) (hTN : toN (ints L) = L) (hA : A ∈ L) (hB : Bb ∈ L) (hA8 : A < 256) (hB8 : Bb < 256) (hl : LadIs L Bb A l) (hx8 : x < 256) (hx : x ||| nand A Bb = nand A Bb) (hs : SwIs m L A Bb x r 0) (hi : i < m) (hbi : Bb.testBit i = true) :
    Calls Try.prog 12 #[.agg #[.int .i64 m, .slice a (ints L).length cap], .int .i64 A, .int .i64 Bb, .int .i64 x, .int .i64 i] u.val (Ret B W (.bool true)) := by
  have hlt := he.zero.1.1
  have hex := he.zero.2
  have hf8 := he.zero.1.fam8
  rw [show toN (ints L) = L from hTN] at hf8 hex
  have h256 : ∀ b, b ∈ L → b < 256 := hf8.lt
  have hbm : ∀ b, b ∈ L → b < bit m := fun b hb => by
    have := fam_lt hlt b (by rw [hTN]; exact hb)
    simpa using this
  have T0 : Hid (Two (u.val.alloc (.cells #[.int .i64 m, .slice a (ints L).length cap] 60)) u.val.heap.size 60 (.int .i64 m) (.slice a (ints L).length cap)) := Lib.hid (Two.new _ _ _ _)
  have hI : IntsAt (u.val.alloc (.cells #[.int .i64 m, .slice a (ints L).length cap] 60)).heap.size (u.val.alloc (.cells #[.int .i64 m, .slice a (ints L).length cap] 60)) a (ints L) := h.to (u.alloc _)
  have HV : Hid (∀ v : Later (u.val.alloc (.cells #[.int .i64 m, .slice a (ints L).length cap] 60)).heap.size (u.val.alloc (.cells #[.int .i64 m, .slice a (ints L).length cap] 60)), ∃ w : Later B W, w.val = v.val) := Lib.hid (fun v => ⟨(u.alloc _).up v, rfl⟩)
  have q0 : ∀ w : Later (u.val.alloc (.cells #[.int .i64 m, .slice a (ints L).length cap] 60)).heap.size (u.val.alloc (.cells #[.int .i64 m, .slice a (ints L).length cap] 60)), w.val.cell? ⟨u.val.heap.size, 0, none⟩ = some (.int .i64 m) := fun w => (T0.out.keep w.below).c0
  have q1 : ∀ w : Later (u.val.alloc (.cells #[.int .i64 m, .slice a (ints L).length cap] 60)).heap.size (u.val.alloc (.cells #[.int .i64 m, .slice a (ints L).length cap] 60)), w.val.cell? ⟨u.val.heap.size, 1, none⟩ = some (.slice a (ints L).length cap) := fun w => (T0.out.keep w.below).c1
  generalize hW1 : (u.val.alloc (.cells #[.int .i64 m, .slice a (ints L).length cap] 60)) = W1 at *
  generalize hgu : u.val.heap.size = gu at *
  have hlenL : L.length ≤ 4611686018427387904 := by rw [ints_len] at hlen; exact hlen
  have KM0 : Hid (Calls Try.prog 74 #[.agg #[.int .i64 m, .slice a (ints L).length cap]] W1 (Ret W1.heap.size W1 (.int .i64 0))) := Lib.hid (c_refMatroid (Later.self W1) m (ints L) a cap 0 hI hlen he)
  have p0 : W1.cell? ⟨gu, 0, none⟩ = some (.int .i64 m) := q0 (Later.self W1)
  have p1 : W1.cell? ⟨gu, 1, none⟩ = some (.slice a (ints L).length cap) := q1 (Later.self W1)
  have KH : Hid (∀ (v : Later W1.heap.size W1) (z : Int) (d : Bool), decide (z ∈ ints L) = d → Calls Try.prog 75 #[.slice a (ints L).length cap, .int .i64 z] v.val (Ret W1.heap.size W1 (.bool d))) := Lib.hid (fun v z d hd => by
    have := c_has v (ints L) z a cap hI (by omega)
    rwa [hd] at this)
  have KBt := Lib.hid (fun (v : Later W1.heap.size W1) (e : Int) => (show Calls Try.prog 14 #[.bool true, .int .i64 e] v.val (Ret W1.heap.size W1 (.int .i64 0)) from c_bad v true e))
  have KBf := Lib.hid (fun (v : Later W1.heap.size W1) (e : Int) => (show Calls Try.prog 14 #[.bool false, .int .i64 e] v.val (Ret W1.heap.size W1 (.int .i64 e)) from c_bad v false e))
  have KHx := Lib.hid (fun v => KH.out v A true (by simp [mem_ints, hA]))
  have KHy := Lib.hid (fun v => KH.out v Bb true (by simp [mem_ints, hB]))
  have KRL := Lib.hid (fun v : Later W1.heap.size W1 => c_refLadder m Bb L a cap hlenL hm hB8 _ _ _ v A l hI hA8 hl rfl)
  clear T0 KH
  subst hW1
  subst hgu
  go_enter Try.func12, Try.ntmps12
  go_upto_region 11 with (first | (go_at_call 74; ((with_reducible refine (KM0.out).mono ?_); rintro e _ ⟨rfl, v1, rfl⟩)) | (go_at_call 75; ((with_reducible refine (KHx.out _).mono ?_); rintro e _ ⟨rfl, v1, rfl⟩)) | (go_at_call 75; ((with_reducible refine (KHy.out _).mono ?_); rintro e _ ⟨rfl, v1, rfl⟩)) | (go_at_call 14; ((with_reducible refine (KBt.out _ _).mono ?_); rintro e _ ⟨rfl, v1, rfl⟩)) | (go_at_call 76; ((with_reducible refine (KRL.out _).mono ?_); rintro e _ ⟨_, rfl, ⟨adR, cpR, rfl, hIR, hcpR⟩, v1, rfl⟩)))
  have hIV : IntsAt v1.val.heap.size v1.val a (ints L) := hI.to v1
  have HIR := Lib.hid hIR
  have HVB : Hid (∀ (w : Later v1.val.heap.size v1.val) (y : Later w.val.heap.size w.val), ∃ w' : Later B W, w'.val = y.val) := Lib.hid (fun w y => HV.out (v1.up (w.up y)))
  have r0 : ∀ w : Later v1.val.heap.size v1.val, w.val.cell? ⟨u.val.heap.size, 0, none⟩ = some (.int .i64 m) := fun w => q0 (v1.up w)
  have r1 : ∀ w : Later v1.val.heap.size v1.val, w.val.cell? ⟨u.val.heap.size, 1, none⟩ = some (.slice a (ints L).length cap) := fun w => q1 (v1.up w)
  clear KM0 p0 p1 KHx KHy KRL KBt KBf hI HV q0 q1 hIR hcpR
  generalize u.val.heap.size = gu at *
  generalize v1.val = V at *
  clear h
  have KBt := Lib.hid (fun (v : Later V.heap.size V) (e : Int) => (show Calls Try.prog 14 #[.bool true, .int .i64 e] v.val (Ret V.heap.size V (.int .i64 0)) from c_bad v true e))
  have KBf := Lib.hid (fun (v : Later V.heap.size V) (e : Int) => (show Calls Try.prog 14 #[.bool false, .int .i64 e] v.val (Ret V.heap.size V (.int .i64 e)) from c_bad v false e))
  have HOk := Lib.hid (fun (B : Nat) (W : World) (u : Later B W) (y : Int) => c_one_ok u y)
  have HO3 := Lib.hid (fun (B : Nat) (W : World) (u : Later B W) (y : Int) => c_one_err u y 3 (by decide))
  have HO1 := Lib.hid (fun (B : Nat) (W : World) (u : Later B W) (y : Int) => c_one_err u y 1 (by decide))
  have HO5 := Lib.hid (fun (B : Nat) (W : World) (u : Later B W) (y : Int) => c_one_err u y 5 (by decide))
  have hnA : nand A Bb < 256 := nand_lt _ _ 8 hA8
  have KW := Lib.hid (fun v : Later V.heap.size V => dcall_t (c_within v x (nand A Bb) (by omega) (by omega)) hx)
  have hx0 : nand x (nand A Bb) = 0 := nand_zero_sub.2 (or_eq_iff.1 hx)
  have KS := Lib.hid (fun v : Later V.heap.size V => c_swap v m A Bb x r 0 L a cap hIV hlen he hm hA hB hA8 hB8 hx8 hx0 hs)
  have KW2 := Lib.hid (fun v : Later V.heap.size V => (show Calls Try.prog 77 #[.agg #[.int .i64 m, .slice a (ints L).length cap], .int .i64 A, .int .i64 Bb, .int .i64 x] v.val (Ret V.heap.size V (.tuple #[.int .i64 r, .bool true])) from c_refSwapped v m A Bb x r 0 L a cap hIV hlenL hm hA8 hB8 hx8 hx0 hs))
  have KL := Lib.hid (fun v : Later V.heap.size V => c_ladder v m A Bb L l a cap hIV hlen he hm hA hB hA8 hB8 hl)
  have KF := Lib.hid (fun v : Later V.heap.size V => c_fund_bad (Later.self v.val) m Bb i L a cap (hIV.to v) hlen he hm hB hB8 (.inr (.inr (by simpa using hbi))))
  have KF' : Hid (∀ v : Later V.heap.size V, Calls Try.prog 81 #[.agg #[.int .i64 m, .slice a (ints L).length cap], .int .i64 Bb, .int .i64 i] v.val (Ret v.val.heap.size v.val (.tuple #[.int .i64 0, .int .i64 3]))) := KF
  have hl256 : (ints l).length ≤ 4611686018427387904 := by
    have h1 := LadIs.len l A hA8 hl
    have h2 : nand A Bb < 256 := nand_lt _ _ 8 hA8
    rw [ints_len]; omega
  have HL := Lib.hid (fun (w : Later V.heap.size V) (y : Later w.val.heap.size w.val) (ad : Option Addr) (cp : Nat) (hd : IntsAt w.val.heap.size w.val ad (ints l)) => c_list y (ints l) (ints l) ad adR cp cpR 0 0 hd (HIR.out.to w) hl256 rfl (by rw [if_pos rfl]))
  have o1 := i64_andNot A Bb (by omega) (by omega)
  have i0 : decide ((0 : Int) ≤ (i : Int)) = true := decide_eq_true (by omega)
  have i2 : decide ((i : Int) < (m : Int)) = true := decide_eq_true (by omega)
  have i3 : decide (i < m) = true := decide_eq_true hi
  have x0 : decide ((0 : Int) ≤ (x : Int)) = true := decide_eq_true (by omega)
  have KIn := Lib.hid (fun v : Later V.heap.size V => c_in v Bb i (by omega) (by omega))
  rw [hbi] at KIn
  clear hIV he hlt hex hf8 h256 hbm hl HIR KF
  obtain ⟨v1, hv1⟩ : ∃ v1 : Later V.heap.size V, v1.val = V := ⟨Later.self _, rfl⟩
  rw [← hv1]
  clear hv1
  go_wp2_with (first | (go_at_call 14; ((with_reducible refine (KBf.out _ _).mono ?_); rintro e _ ⟨rfl, v1, rfl⟩)) | (go_at_call 14; ((with_reducible refine (KBt.out _ _).mono ?_); rintro e _ ⟨rfl, v1, rfl⟩)) | (go_at_call 60; ((with_reducible refine (KW.out _).mono ?_); rintro e _ ⟨rfl, v1, rfl⟩)) | (go_at_call 77; ((with_reducible refine (KW2.out _).mono ?_); rintro e _ ⟨rfl, v1, rfl⟩)) | (go_at_call 21; ((with_reducible refine (KIn.out _).mono ?_); rintro e _ ⟨rfl, v1, rfl⟩)) | (go_at_call 79; ((with_reducible refine (KS.out _).mono ?_); rintro e _ ⟨rfl, v1, rfl⟩)) | (go_at_call 80; ((with_reducible refine (KL.out _).mono ?_); rintro e _ ⟨_, rfl, ⟨_, rfl, ⟨ad2, cp2, rfl, hI3, hcp3⟩⟩, w2, rfl⟩; have HI3 := Lib.hid hI3; clear hI3 hcp3)) | (go_at_call 81; ((with_reducible refine (KF'.out w2).mono ?_); rintro e _ ⟨rfl, v1, rfl⟩)) | (go_at_call 24; ((with_reducible refine (HOk.out _ _ _ _).mono ?_); rintro e _ ⟨rfl, v1, rfl⟩)) | (go_at_call 24; ((with_reducible refine (HO3.out _ _ _ _).mono ?_); rintro e _ ⟨rfl, v1, rfl⟩)) | (go_at_call 45; ((refine (HL.out _ _ _ _ HI3.out).mono ?_); rintro e _ ⟨rfl, v1, rfl⟩)))
  go_ret
  exact Ret.of (HVB.out _ v1) rfl

set_option maxRecDepth 100000 in
set_option maxHeartbeats 40000000 in
theorem law_sw_d34 {B : Nat} {W : World} (u : Later B W) (m A Bb : Nat) (x : Nat) (r : Int) (i F : Nat) (L l : List Nat) (a : Option Addr) (cap : Nat) (h : IntsAt B W a (ints L)) (hlen : (ints L).length ≤ 4611686018427387904) (he : MatIs (m : Int) (ints L) 0) (hm : m ≤ 8) (hTN : toN (ints L) = L) (hA : A ∈ L) (hB : Bb ∈ L) (hA8 : A < 256) (hB8 : Bb < 256) (hl : LadIs L Bb A l) (hx8 : x < 256) (hx : x ||| nand A Bb = nand A Bb) (hs : SwIs m L A Bb x r 0) (hi : i < m) (hbi : Bb.testBit i = false) (hF : FundIs L Bb i F) :
    Calls Try.prog 12 #[.agg #[.int .i64 m, .slice a (ints L).length cap], .int .i64 A, .int .i64 Bb, .int .i64 x, .int .i64 i] u.val (Ret B W (.bool true)) := by
  have hlt := he.zero.1.1
  have hex := he.zero.2
  have hf8 := he.zero.1.fam8
  rw [show toN (ints L) = L from hTN] at hf8 hex
  have h256 : ∀ b, b ∈ L → b < 256 := hf8.lt
  have hbm : ∀ b, b ∈ L → b < bit m := fun b hb => by
    have := fam_lt hlt b (by rw [hTN]; exact hb)
    simpa using this
  have T0 : Hid (Two (u.val.alloc (.cells #[.int .i64 m, .slice a (ints L).length cap] 60)) u.val.heap.size 60 (.int .i64 m) (.slice a (ints L).length cap)) := Lib.hid (Two.new _ _ _ _)
  have hI : IntsAt (u.val.alloc (.cells #[.int .i64 m, .slice a (ints L).length cap] 60)).heap.size (u.val.alloc (.cells #[.int .i64 m, .slice a (ints L).length cap] 60)) a (ints L) := h.to (u.alloc _)
  have HV : Hid (∀ v : Later (u.val.alloc (.cells #[.int .i64 m, .slice a (ints L).length cap] 60)).heap.size (u.val.alloc (.cells #[.int .i64 m, .slice a (ints L).length cap] 60)), ∃ w : Later B W, w.val = v.val) := Lib.hid (fun v => ⟨(u.alloc _).up v, rfl⟩)
  have q0 : ∀ w : Later (u.val.alloc (.cells #[.int .i64 m, .slice a (ints L).length cap] 60)).heap.size (u.val.alloc (.cells #[.int .i64 m, .slice a (ints L).length cap] 60)), w.val.cell? ⟨u.val.heap.size, 0, none⟩ = some (.int .i64 m) := fun w => (T0.out.keep w.below).c0
  have q1 : ∀ w : Later (u.val.alloc (.cells #[.int .i64 m, .slice a (ints L).length cap] 60)).heap.size (u.val.alloc (.cells #[.int .i64 m, .slice a (ints L).length cap] 60)), w.val.cell? ⟨u.val.heap.size, 1, none⟩ = some (.slice a (ints L).length cap) := fun w => (T0.out.keep w.below).c1
  generalize hW1 : (u.val.alloc (.cells #[.int .i64 m, .slice a (ints L).length cap] 60)) = W1 at *
  generalize hgu : u.val.heap.size = gu at *
  have hlenL : L.length ≤ 4611686018427387904 := by rw [ints_len] at hlen; exact hlen
  have KM0 : Hid (Calls Try.prog 74 #[.agg #[.int .i64 m, .slice a (ints L).length cap]] W1 (Ret W1.heap.size W1 (.int .i64 0))) := Lib.hid (c_refMatroid (Later.self W1) m (ints L) a cap 0 hI hlen he)
  have p0 : W1.cell? ⟨gu, 0, none⟩ = some (.int .i64 m) := q0 (Later.self W1)
  have p1 : W1.cell? ⟨gu, 1, none⟩ = some (.slice a (ints L).length cap) := q1 (Later.self W1)
  have KH : Hid (∀ (v : Later W1.heap.size W1) (z : Int) (d : Bool), decide (z ∈ ints L) = d → Calls Try.prog 75 #[.slice a (ints L).length cap, .int .i64 z] v.val (Ret W1.heap.size W1 (.bool d))) := Lib.hid (fun v z d hd => by
    have := c_has v (ints L) z a cap hI (by omega)
    rwa [hd] at this)
  have KBt := Lib.hid (fun (v : Later W1.heap.size W1) (e : Int) => (show Calls Try.prog 14 #[.bool true, .int .i64 e] v.val (Ret W1.heap.size W1 (.int .i64 0)) from c_bad v true e))
  have KBf := Lib.hid (fun (v : Later W1.heap.size W1) (e : Int) => (show Calls Try.prog 14 #[.bool false, .int .i64 e] v.val (Ret W1.heap.size W1 (.int .i64 e)) from c_bad v false e))
  have KHx := Lib.hid (fun v => KH.out v A true (by simp [mem_ints, hA]))
  have KHy := Lib.hid (fun v => KH.out v Bb true (by simp [mem_ints, hB]))
  have KRL := Lib.hid (fun v : Later W1.heap.size W1 => c_refLadder m Bb L a cap hlenL hm hB8 _ _ _ v A l hI hA8 hl rfl)
  clear T0 KH
  subst hW1
  subst hgu
  go_enter Try.func12, Try.ntmps12
  go_upto_region 11 with (first | (go_at_call 74; ((with_reducible refine (KM0.out).mono ?_); rintro e _ ⟨rfl, v1, rfl⟩)) | (go_at_call 75; ((with_reducible refine (KHx.out _).mono ?_); rintro e _ ⟨rfl, v1, rfl⟩)) | (go_at_call 75; ((with_reducible refine (KHy.out _).mono ?_); rintro e _ ⟨rfl, v1, rfl⟩)) | (go_at_call 14; ((with_reducible refine (KBt.out _ _).mono ?_); rintro e _ ⟨rfl, v1, rfl⟩)) | (go_at_call 76; ((with_reducible refine (KRL.out _).mono ?_); rintro e _ ⟨_, rfl, ⟨adR, cpR, rfl, hIR, hcpR⟩, v1, rfl⟩)))
  have hIV : IntsAt v1.val.heap.size v1.val a (ints L) := hI.to v1
  have HIR := Lib.hid hIR
  have HVB : Hid (∀ (w : Later v1.val.heap.size v1.val) (y : Later w.val.heap.size w.val), ∃ w' : Later B W, w'.val = y.val) := Lib.hid (fun w y => HV.out (v1.up (w.up y)))
  have r0 : ∀ w : Later v1.val.heap.size v1.val, w.val.cell? ⟨u.val.heap.size, 0, none⟩ = some (.int .i64 m) := fun w => q0 (v1.up w)
  have r1 : ∀ w : Later v1.val.heap.size v1.val, w.val.cell? ⟨u.val.heap.size, 1, none⟩ = some (.slice a (ints L).length cap) := fun w => q1 (v1.up w)
  clear KM0 p0 p1 KHx KHy KRL KBt KBf hI HV q0 q1 hIR hcpR
  generalize u.val.heap.size = gu at *
  generalize v1.val = V at *
  clear h
  have KBt := Lib.hid (fun (v : Later V.heap.size V) (e : Int) => (show Calls Try.prog 14 #[.bool true, .int .i64 e] v.val (Ret V.heap.size V (.int .i64 0)) from c_bad v true e))
  have KBf := Lib.hid (fun (v : Later V.heap.size V) (e : Int) => (show Calls Try.prog 14 #[.bool false, .int .i64 e] v.val (Ret V.heap.size V (.int .i64 e)) from c_bad v false e))
  have HOk := Lib.hid (fun (B : Nat) (W : World) (u : Later B W) (y : Int) => c_one_ok u y)
  have HO3 := Lib.hid (fun (B : Nat) (W : World) (u : Later B W) (y : Int) => c_one_err u y 3 (by decide))
  have HO1 := Lib.hid (fun (B : Nat) (W : World) (u : Later B W) (y : Int) => c_one_err u y 1 (by decide))
  have HO5 := Lib.hid (fun (B : Nat) (W : World) (u : Later B W) (y : Int) => c_one_err u y 5 (by decide))
  have hnA : nand A Bb < 256 := nand_lt _ _ 8 hA8
  have KW := Lib.hid (fun v : Later V.heap.size V => dcall_t (c_within v x (nand A Bb) (by omega) (by omega)) hx)
  have hx0 : nand x (nand A Bb) = 0 := nand_zero_sub.2 (or_eq_iff.1 hx)
  have KS := Lib.hid (fun v : Later V.heap.size V => c_swap v m A Bb x r 0 L a cap hIV hlen he hm hA hB hA8 hB8 hx8 hx0 hs)
  have KW2 := Lib.hid (fun v : Later V.heap.size V => (show Calls Try.prog 77 #[.agg #[.int .i64 m, .slice a (ints L).length cap], .int .i64 A, .int .i64 Bb, .int .i64 x] v.val (Ret V.heap.size V (.tuple #[.int .i64 r, .bool true])) from c_refSwapped v m A Bb x r 0 L a cap hIV hlenL hm hA8 hB8 hx8 hx0 hs))
  have KL := Lib.hid (fun v : Later V.heap.size V => c_ladder v m A Bb L l a cap hIV hlen he hm hA hB hA8 hB8 hl)
  have KF := Lib.hid (fun v : Later V.heap.size V => c_fund (Later.self v.val) m Bb i F L a cap (hIV.to v) hlen he hm hB hB8 hi hbi hF)
  have KF' : Hid (∀ v : Later V.heap.size V, Calls Try.prog 81 #[.agg #[.int .i64 m, .slice a (ints L).length cap], .int .i64 Bb, .int .i64 i] v.val (Ret v.val.heap.size v.val (.tuple #[.int .i64 F, .int .i64 0]))) := KF
  have hl256 : (ints l).length ≤ 4611686018427387904 := by
    have h1 := LadIs.len l A hA8 hl
    have h2 : nand A Bb < 256 := nand_lt _ _ 8 hA8
    rw [ints_len]; omega
  have HL := Lib.hid (fun (w : Later V.heap.size V) (y : Later w.val.heap.size w.val) (ad : Option Addr) (cp : Nat) (hd : IntsAt w.val.heap.size w.val ad (ints l)) => c_list y (ints l) (ints l) ad adR cp cpR 0 0 hd (HIR.out.to w) hl256 rfl (by rw [if_pos rfl]))
  have o1 := i64_andNot A Bb (by omega) (by omega)
  have i0 : decide ((0 : Int) ≤ (i : Int)) = true := decide_eq_true (by omega)
  have i2 : decide ((i : Int) < (m : Int)) = true := decide_eq_true (by omega)
  have i3 : decide (i < m) = true := decide_eq_true hi
  have x0 : decide ((0 : Int) ≤ (x : Int)) = true := decide_eq_true (by omega)
  have KIn := Lib.hid (fun v : Later V.heap.size V => c_in v Bb i (by omega) (by omega))
  rw [hbi] at KIn
  have KR := Lib.hid (fun v : Later V.heap.size V => c_ring v m hm L h256 hlenL a cap Bb i F hB8 (by omega) hIV (ring_is hm hf8 hbm hex hB hi hbi hF))
  clear hIV he hlt hex hf8 h256 hbm hl HIR KF
  obtain ⟨v1, hv1⟩ : ∃ v1 : Later V.heap.size V, v1.val = V := ⟨Later.self _, rfl⟩
  rw [← hv1]
  clear hv1
  go_wp2_with (first | (go_at_call 14; ((with_reducible refine (KBf.out _ _).mono ?_); rintro e _ ⟨rfl, v1, rfl⟩)) | (go_at_call 14; ((with_reducible refine (KBt.out _ _).mono ?_); rintro e _ ⟨rfl, v1, rfl⟩)) | (go_at_call 60; ((with_reducible refine (KW.out _).mono ?_); rintro e _ ⟨rfl, v1, rfl⟩)) | (go_at_call 77; ((with_reducible refine (KW2.out _).mono ?_); rintro e _ ⟨rfl, v1, rfl⟩)) | (go_at_call 21; ((with_reducible refine (KIn.out _).mono ?_); rintro e _ ⟨rfl, v1, rfl⟩)) | (go_at_call 78; ((with_reducible refine (KR.out _).mono ?_); rintro e _ ⟨rfl, v1, rfl⟩)) | (go_at_call 79; ((with_reducible refine (KS.out _).mono ?_); rintro e _ ⟨rfl, v1, rfl⟩)) | (go_at_call 80; ((with_reducible refine (KL.out _).mono ?_); rintro e _ ⟨_, rfl, ⟨_, rfl, ⟨ad2, cp2, rfl, hI3, hcp3⟩⟩, w2, rfl⟩; have HI3 := Lib.hid hI3; clear hI3 hcp3)) | (go_at_call 81; ((with_reducible refine (KF'.out w2).mono ?_); rintro e _ ⟨rfl, v1, rfl⟩)) | (go_at_call 24; ((with_reducible refine (HOk.out _ _ _ _).mono ?_); rintro e _ ⟨rfl, v1, rfl⟩)) | (go_at_call 24; ((with_reducible refine (HOk.out _ _ _ _).mono ?_); rintro e _ ⟨rfl, v1, rfl⟩)) | (go_at_call 45; ((refine (HL.out _ _ _ _ HI3.out).mono ?_); rintro e _ ⟨rfl, v1, rfl⟩)))
  go_ret
  exact Ret.of (HVB.out _ v1) rfl

set_option maxRecDepth 100000 in
set_option maxHeartbeats 40000000 in
theorem law_sw_d41 {B : Nat} {W : World} (u : Later B W) (m A Bb : Nat) (x : Nat) (i : Int) (L l : List Nat) (a : Option Addr) (cap : Nat) (h : IntsAt B W a (ints L)) (hlen : (ints L).length ≤ 4611686018427387904) (he : MatIs (m : Int) (ints L) 0) (hm : m ≤ 8) (hTN : toN (ints L) = L) (hA : A ∈ L) (hB : Bb ∈ L) (hA8 : A < 256) (hB8 : Bb < 256) (hl : LadIs L Bb A l) (hx8 : x < 256) (hx : x ||| nand A Bb = nand A Bb) (hs : SwIs m L A Bb x 0 5) (hi : i < 0) :
    Calls Try.prog 12 #[.agg #[.int .i64 m, .slice a (ints L).length cap], .int .i64 A, .int .i64 Bb, .int .i64 x, .int .i64 i] u.val (Ret B W (.bool true)) := by
  have hlt := he.zero.1.1
  have hex := he.zero.2
  have hf8 := he.zero.1.fam8
  rw [show toN (ints L) = L from hTN] at hf8 hex
  have h256 : ∀ b, b ∈ L → b < 256 := hf8.lt
  have hbm : ∀ b, b ∈ L → b < bit m := fun b hb => by
    have := fam_lt hlt b (by rw [hTN]; exact hb)
    simpa using this
  have T0 : Hid (Two (u.val.alloc (.cells #[.int .i64 m, .slice a (ints L).length cap] 60)) u.val.heap.size 60 (.int .i64 m) (.slice a (ints L).length cap)) := Lib.hid (Two.new _ _ _ _)
  have hI : IntsAt (u.val.alloc (.cells #[.int .i64 m, .slice a (ints L).length cap] 60)).heap.size (u.val.alloc (.cells #[.int .i64 m, .slice a (ints L).length cap] 60)) a (ints L) := h.to (u.alloc _)
  have HV : Hid (∀ v : Later (u.val.alloc (.cells #[.int .i64 m, .slice a (ints L).length cap] 60)).heap.size (u.val.alloc (.cells #[.int .i64 m, .slice a (ints L).length cap] 60)), ∃ w : Later B W, w.val = v.val) := Lib.hid (fun v => ⟨(u.alloc _).up v, rfl⟩)
  have q0 : ∀ w : Later (u.val.alloc (.cells #[.int .i64 m, .slice a (ints L).length cap] 60)).heap.size (u.val.alloc (.cells #[.int .i64 m, .slice a (ints L).length cap] 60)), w.val.cell? ⟨u.val.heap.size, 0, none⟩ = some (.int .i64 m) := fun w => (T0.out.keep w.below).c0
  have q1 : ∀ w : Later (u.val.alloc (.cells #[.int .i64 m, .slice a (ints L).length cap] 60)).heap.size (u.val.alloc (.cells #[.int .i64 m, .slice a (ints L).length cap] 60)), w.val.cell? ⟨u.val.heap.size, 1, none⟩ = some (.slice a (ints L).length cap) := fun w => (T0.out.keep w.below).c1
  generalize hW1 : (u.val.alloc (.cells #[.int .i64 m, .slice a (ints L).length cap] 60)) = W1 at *
  generalize hgu : u.val.heap.size = gu at *
  have hlenL : L.length ≤ 4611686018427387904 := by rw [ints_len] at hlen; exact hlen
  have KM0 : Hid (Calls Try.prog 74 #[.agg #[.int .i64 m, .slice a (ints L).length cap]] W1 (Ret W1.heap.size W1 (.int .i64 0))) := Lib.hid (c_refMatroid (Later.self W1) m (ints L) a cap 0 hI hlen he)
  have p0 : W1.cell? ⟨gu, 0, none⟩ = some (.int .i64 m) := q0 (Later.self W1)
  have p1 : W1.cell? ⟨gu, 1, none⟩ = some (.slice a (ints L).length cap) := q1 (Later.self W1)
  have KH : Hid (∀ (v : Later W1.heap.size W1) (z : Int) (d : Bool), decide (z ∈ ints L) = d → Calls Try.prog 75 #[.slice a (ints L).length cap, .int .i64 z] v.val (Ret W1.heap.size W1 (.bool d))) := Lib.hid (fun v z d hd => by
    have := c_has v (ints L) z a cap hI (by omega)
    rwa [hd] at this)
  have KBt := Lib.hid (fun (v : Later W1.heap.size W1) (e : Int) => (show Calls Try.prog 14 #[.bool true, .int .i64 e] v.val (Ret W1.heap.size W1 (.int .i64 0)) from c_bad v true e))
  have KBf := Lib.hid (fun (v : Later W1.heap.size W1) (e : Int) => (show Calls Try.prog 14 #[.bool false, .int .i64 e] v.val (Ret W1.heap.size W1 (.int .i64 e)) from c_bad v false e))
  have KHx := Lib.hid (fun v => KH.out v A true (by simp [mem_ints, hA]))
  have KHy := Lib.hid (fun v => KH.out v Bb true (by simp [mem_ints, hB]))
  have KRL := Lib.hid (fun v : Later W1.heap.size W1 => c_refLadder m Bb L a cap hlenL hm hB8 _ _ _ v A l hI hA8 hl rfl)
  clear T0 KH
  subst hW1
  subst hgu
  go_enter Try.func12, Try.ntmps12
  go_upto_region 11 with (first | (go_at_call 74; ((with_reducible refine (KM0.out).mono ?_); rintro e _ ⟨rfl, v1, rfl⟩)) | (go_at_call 75; ((with_reducible refine (KHx.out _).mono ?_); rintro e _ ⟨rfl, v1, rfl⟩)) | (go_at_call 75; ((with_reducible refine (KHy.out _).mono ?_); rintro e _ ⟨rfl, v1, rfl⟩)) | (go_at_call 14; ((with_reducible refine (KBt.out _ _).mono ?_); rintro e _ ⟨rfl, v1, rfl⟩)) | (go_at_call 76; ((with_reducible refine (KRL.out _).mono ?_); rintro e _ ⟨_, rfl, ⟨adR, cpR, rfl, hIR, hcpR⟩, v1, rfl⟩)))
  have hIV : IntsAt v1.val.heap.size v1.val a (ints L) := hI.to v1
  have HIR := Lib.hid hIR
  have HVB : Hid (∀ (w : Later v1.val.heap.size v1.val) (y : Later w.val.heap.size w.val), ∃ w' : Later B W, w'.val = y.val) := Lib.hid (fun w y => HV.out (v1.up (w.up y)))
  have r0 : ∀ w : Later v1.val.heap.size v1.val, w.val.cell? ⟨u.val.heap.size, 0, none⟩ = some (.int .i64 m) := fun w => q0 (v1.up w)
  have r1 : ∀ w : Later v1.val.heap.size v1.val, w.val.cell? ⟨u.val.heap.size, 1, none⟩ = some (.slice a (ints L).length cap) := fun w => q1 (v1.up w)
  clear KM0 p0 p1 KHx KHy KRL KBt KBf hI HV q0 q1 hIR hcpR
  generalize u.val.heap.size = gu at *
  generalize v1.val = V at *
  clear h
  have KBt := Lib.hid (fun (v : Later V.heap.size V) (e : Int) => (show Calls Try.prog 14 #[.bool true, .int .i64 e] v.val (Ret V.heap.size V (.int .i64 0)) from c_bad v true e))
  have KBf := Lib.hid (fun (v : Later V.heap.size V) (e : Int) => (show Calls Try.prog 14 #[.bool false, .int .i64 e] v.val (Ret V.heap.size V (.int .i64 e)) from c_bad v false e))
  have HOk := Lib.hid (fun (B : Nat) (W : World) (u : Later B W) (y : Int) => c_one_ok u y)
  have HO3 := Lib.hid (fun (B : Nat) (W : World) (u : Later B W) (y : Int) => c_one_err u y 3 (by decide))
  have HO1 := Lib.hid (fun (B : Nat) (W : World) (u : Later B W) (y : Int) => c_one_err u y 1 (by decide))
  have HO5 := Lib.hid (fun (B : Nat) (W : World) (u : Later B W) (y : Int) => c_one_err u y 5 (by decide))
  have hnA : nand A Bb < 256 := nand_lt _ _ 8 hA8
  have KW := Lib.hid (fun v : Later V.heap.size V => dcall_t (c_within v x (nand A Bb) (by omega) (by omega)) hx)
  have hx0 : nand x (nand A Bb) = 0 := nand_zero_sub.2 (or_eq_iff.1 hx)
  have KS := Lib.hid (fun v : Later V.heap.size V => c_swap v m A Bb x 0 5 L a cap hIV hlen he hm hA hB hA8 hB8 hx8 hx0 hs)
  have KW2 := Lib.hid (fun v : Later V.heap.size V => (show Calls Try.prog 77 #[.agg #[.int .i64 m, .slice a (ints L).length cap], .int .i64 A, .int .i64 Bb, .int .i64 x] v.val (Ret V.heap.size V (.tuple #[.int .i64 0, .bool false])) from c_refSwapped v m A Bb x 0 5 L a cap hIV hlenL hm hA8 hB8 hx8 hx0 hs))
  have KL := Lib.hid (fun v : Later V.heap.size V => c_ladder v m A Bb L l a cap hIV hlen he hm hA hB hA8 hB8 hl)
  have KF := Lib.hid (fun v : Later V.heap.size V => c_fund_bad (Later.self v.val) m Bb i L a cap (hIV.to v) hlen he hm hB hB8 (.inl hi))
  have KF' : Hid (∀ v : Later V.heap.size V, Calls Try.prog 81 #[.agg #[.int .i64 m, .slice a (ints L).length cap], .int .i64 Bb, .int .i64 i] v.val (Ret v.val.heap.size v.val (.tuple #[.int .i64 0, .int .i64 3]))) := KF
  have hl256 : (ints l).length ≤ 4611686018427387904 := by
    have h1 := LadIs.len l A hA8 hl
    have h2 : nand A Bb < 256 := nand_lt _ _ 8 hA8
    rw [ints_len]; omega
  have HL := Lib.hid (fun (w : Later V.heap.size V) (y : Later w.val.heap.size w.val) (ad : Option Addr) (cp : Nat) (hd : IntsAt w.val.heap.size w.val ad (ints l)) => c_list y (ints l) (ints l) ad adR cp cpR 0 0 hd (HIR.out.to w) hl256 rfl (by rw [if_pos rfl]))
  have o1 := i64_andNot A Bb (by omega) (by omega)
  have i1 : decide ((0 : Int) ≤ i) = false := decide_eq_false (by omega)
  have x0 : decide ((0 : Int) ≤ (x : Int)) = true := decide_eq_true (by omega)
  clear hIV he hlt hex hf8 h256 hbm hl HIR KF
  obtain ⟨v1, hv1⟩ : ∃ v1 : Later V.heap.size V, v1.val = V := ⟨Later.self _, rfl⟩
  rw [← hv1]
  clear hv1
  go_wp2_with (first | (go_at_call 14; ((with_reducible refine (KBf.out _ _).mono ?_); rintro e _ ⟨rfl, v1, rfl⟩)) | (go_at_call 14; ((with_reducible refine (KBt.out _ _).mono ?_); rintro e _ ⟨rfl, v1, rfl⟩)) | (go_at_call 60; ((with_reducible refine (KW.out _).mono ?_); rintro e _ ⟨rfl, v1, rfl⟩)) | (go_at_call 77; ((with_reducible refine (KW2.out _).mono ?_); rintro e _ ⟨rfl, v1, rfl⟩)) | (go_at_call 79; ((with_reducible refine (KS.out _).mono ?_); rintro e _ ⟨rfl, v1, rfl⟩)) | (go_at_call 80; ((with_reducible refine (KL.out _).mono ?_); rintro e _ ⟨_, rfl, ⟨_, rfl, ⟨ad2, cp2, rfl, hI3, hcp3⟩⟩, w2, rfl⟩; have HI3 := Lib.hid hI3; clear hI3 hcp3)) | (go_at_call 81; ((with_reducible refine (KF'.out w2).mono ?_); rintro e _ ⟨rfl, v1, rfl⟩)) | (go_at_call 24; ((with_reducible refine (HO5.out _ _ _ _).mono ?_); rintro e _ ⟨rfl, v1, rfl⟩)) | (go_at_call 24; ((with_reducible refine (HO3.out _ _ _ _).mono ?_); rintro e _ ⟨rfl, v1, rfl⟩)) | (go_at_call 45; ((refine (HL.out _ _ _ _ HI3.out).mono ?_); rintro e _ ⟨rfl, v1, rfl⟩)))
  go_ret
  exact Ret.of (HVB.out _ v1) rfl

set_option maxRecDepth 100000 in
set_option maxHeartbeats 40000000 in
theorem law_sw_d42 {B : Nat} {W : World} (u : Later B W) (m A Bb : Nat) (x : Nat) (i : Nat) (L l : List Nat) (a : Option Addr) (cap : Nat) (h : IntsAt B W a (ints L)) (hlen : (ints L).length ≤ 4611686018427387904) (he : MatIs (m : Int) (ints L) 0) (hm : m ≤ 8) (hTN : toN (ints L) = L) (hA : A ∈ L) (hB : Bb ∈ L) (hA8 : A < 256) (hB8 : Bb < 256) (hl : LadIs L Bb A l) (hx8 : x < 256) (hx : x ||| nand A Bb = nand A Bb) (hs : SwIs m L A Bb x 0 5) (hi : m ≤ i) :
    Calls Try.prog 12 #[.agg #[.int .i64 m, .slice a (ints L).length cap], .int .i64 A, .int .i64 Bb, .int .i64 x, .int .i64 i] u.val (Ret B W (.bool true)) := by
  have hlt := he.zero.1.1
  have hex := he.zero.2
  have hf8 := he.zero.1.fam8
  rw [show toN (ints L) = L from hTN] at hf8 hex
  have h256 : ∀ b, b ∈ L → b < 256 := hf8.lt
  have hbm : ∀ b, b ∈ L → b < bit m := fun b hb => by
    have := fam_lt hlt b (by rw [hTN]; exact hb)
    simpa using this
  have T0 : Hid (Two (u.val.alloc (.cells #[.int .i64 m, .slice a (ints L).length cap] 60)) u.val.heap.size 60 (.int .i64 m) (.slice a (ints L).length cap)) := Lib.hid (Two.new _ _ _ _)
  have hI : IntsAt (u.val.alloc (.cells #[.int .i64 m, .slice a (ints L).length cap] 60)).heap.size (u.val.alloc (.cells #[.int .i64 m, .slice a (ints L).length cap] 60)) a (ints L) := h.to (u.alloc _)
  have HV : Hid (∀ v : Later (u.val.alloc (.cells #[.int .i64 m, .slice a (ints L).length cap] 60)).heap.size (u.val.alloc (.cells #[.int .i64 m, .slice a (ints L).length cap] 60)), ∃ w : Later B W, w.val = v.val) := Lib.hid (fun v => ⟨(u.alloc _).up v, rfl⟩)
  have q0 : ∀ w : Later (u.val.alloc (.cells #[.int .i64 m, .slice a (ints L).length cap] 60)).heap.size (u.val.alloc (.cells #[.int .i64 m, .slice a (ints L).length cap] 60)), w.val.cell? ⟨u.val.heap.size, 0, none⟩ = some (.int .i64 m) := fun w => (T0.out.keep w.below).c0
  have q1 : ∀ w : Later (u.val.alloc (.cells #[.int .i64 m, .slice a (ints L).length cap] 60)).heap.size (u.val.alloc (.cells #[.int .i64 m, .slice a (ints L).length cap] 60)), w.val.cell? ⟨u.val.heap.size, 1, none⟩ = some (.slice a (ints L).length cap) := fun w => (T0.out.keep w.below).c1
  generalize hW1 : (u.val.alloc (.cells #[.int .i64 m, .slice a (ints L).length cap] 60)) = W1 at *
  generalize hgu : u.val.heap.size = gu at *
  have hlenL : L.length ≤ 4611686018427387904 := by rw [ints_len] at hlen; exact hlen
  have KM0 : Hid (Calls Try.prog 74 #[.agg #[.int .i64 m, .slice a (ints L).length cap]] W1 (Ret W1.heap.size W1 (.int .i64 0))) := Lib.hid (c_refMatroid (Later.self W1) m (ints L) a cap 0 hI hlen he)
  have p0 : W1.cell? ⟨gu, 0, none⟩ = some (.int .i64 m) := q0 (Later.self W1)
  have p1 : W1.cell? ⟨gu, 1, none⟩ = some (.slice a (ints L).length cap) := q1 (Later.self W1)
  have KH : Hid (∀ (v : Later W1.heap.size W1) (z : Int) (d : Bool), decide (z ∈ ints L) = d → Calls Try.prog 75 #[.slice a (ints L).length cap, .int .i64 z] v.val (Ret W1.heap.size W1 (.bool d))) := Lib.hid (fun v z d hd => by
    have := c_has v (ints L) z a cap hI (by omega)
    rwa [hd] at this)
  have KBt := Lib.hid (fun (v : Later W1.heap.size W1) (e : Int) => (show Calls Try.prog 14 #[.bool true, .int .i64 e] v.val (Ret W1.heap.size W1 (.int .i64 0)) from c_bad v true e))
  have KBf := Lib.hid (fun (v : Later W1.heap.size W1) (e : Int) => (show Calls Try.prog 14 #[.bool false, .int .i64 e] v.val (Ret W1.heap.size W1 (.int .i64 e)) from c_bad v false e))
  have KHx := Lib.hid (fun v => KH.out v A true (by simp [mem_ints, hA]))
  have KHy := Lib.hid (fun v => KH.out v Bb true (by simp [mem_ints, hB]))
  have KRL := Lib.hid (fun v : Later W1.heap.size W1 => c_refLadder m Bb L a cap hlenL hm hB8 _ _ _ v A l hI hA8 hl rfl)
  clear T0 KH
  subst hW1
  subst hgu
  go_enter Try.func12, Try.ntmps12
  go_upto_region 11 with (first | (go_at_call 74; ((with_reducible refine (KM0.out).mono ?_); rintro e _ ⟨rfl, v1, rfl⟩)) | (go_at_call 75; ((with_reducible refine (KHx.out _).mono ?_); rintro e _ ⟨rfl, v1, rfl⟩)) | (go_at_call 75; ((with_reducible refine (KHy.out _).mono ?_); rintro e _ ⟨rfl, v1, rfl⟩)) | (go_at_call 14; ((with_reducible refine (KBt.out _ _).mono ?_); rintro e _ ⟨rfl, v1, rfl⟩)) | (go_at_call 76; ((with_reducible refine (KRL.out _).mono ?_); rintro e _ ⟨_, rfl, ⟨adR, cpR, rfl, hIR, hcpR⟩, v1, rfl⟩)))
  have hIV : IntsAt v1.val.heap.size v1.val a (ints L) := hI.to v1
  have HIR := Lib.hid hIR
  have HVB : Hid (∀ (w : Later v1.val.heap.size v1.val) (y : Later w.val.heap.size w.val), ∃ w' : Later B W, w'.val = y.val) := Lib.hid (fun w y => HV.out (v1.up (w.up y)))
  have r0 : ∀ w : Later v1.val.heap.size v1.val, w.val.cell? ⟨u.val.heap.size, 0, none⟩ = some (.int .i64 m) := fun w => q0 (v1.up w)
  have r1 : ∀ w : Later v1.val.heap.size v1.val, w.val.cell? ⟨u.val.heap.size, 1, none⟩ = some (.slice a (ints L).length cap) := fun w => q1 (v1.up w)
  clear KM0 p0 p1 KHx KHy KRL KBt KBf hI HV q0 q1 hIR hcpR
  generalize u.val.heap.size = gu at *
  generalize v1.val = V at *
  clear h
  have KBt := Lib.hid (fun (v : Later V.heap.size V) (e : Int) => (show Calls Try.prog 14 #[.bool true, .int .i64 e] v.val (Ret V.heap.size V (.int .i64 0)) from c_bad v true e))
  have KBf := Lib.hid (fun (v : Later V.heap.size V) (e : Int) => (show Calls Try.prog 14 #[.bool false, .int .i64 e] v.val (Ret V.heap.size V (.int .i64 e)) from c_bad v false e))
  have HOk := Lib.hid (fun (B : Nat) (W : World) (u : Later B W) (y : Int) => c_one_ok u y)
  have HO3 := Lib.hid (fun (B : Nat) (W : World) (u : Later B W) (y : Int) => c_one_err u y 3 (by decide))
  have HO1 := Lib.hid (fun (B : Nat) (W : World) (u : Later B W) (y : Int) => c_one_err u y 1 (by decide))
  have HO5 := Lib.hid (fun (B : Nat) (W : World) (u : Later B W) (y : Int) => c_one_err u y 5 (by decide))
  have hnA : nand A Bb < 256 := nand_lt _ _ 8 hA8
  have KW := Lib.hid (fun v : Later V.heap.size V => dcall_t (c_within v x (nand A Bb) (by omega) (by omega)) hx)
  have hx0 : nand x (nand A Bb) = 0 := nand_zero_sub.2 (or_eq_iff.1 hx)
  have KS := Lib.hid (fun v : Later V.heap.size V => c_swap v m A Bb x 0 5 L a cap hIV hlen he hm hA hB hA8 hB8 hx8 hx0 hs)
  have KW2 := Lib.hid (fun v : Later V.heap.size V => (show Calls Try.prog 77 #[.agg #[.int .i64 m, .slice a (ints L).length cap], .int .i64 A, .int .i64 Bb, .int .i64 x] v.val (Ret V.heap.size V (.tuple #[.int .i64 0, .bool false])) from c_refSwapped v m A Bb x 0 5 L a cap hIV hlenL hm hA8 hB8 hx8 hx0 hs))
  have KL := Lib.hid (fun v : Later V.heap.size V => c_ladder v m A Bb L l a cap hIV hlen he hm hA hB hA8 hB8 hl)
  have KF := Lib.hid (fun v : Later V.heap.size V => c_fund_bad (Later.self v.val) m Bb i L a cap (hIV.to v) hlen he hm hB hB8 (.inr (.inl (by omega))))
  have KF' : Hid (∀ v : Later V.heap.size V, Calls Try.prog 81 #[.agg #[.int .i64 m, .slice a (ints L).length cap], .int .i64 Bb, .int .i64 i] v.val (Ret v.val.heap.size v.val (.tuple #[.int .i64 0, .int .i64 3]))) := KF
  have hl256 : (ints l).length ≤ 4611686018427387904 := by
    have h1 := LadIs.len l A hA8 hl
    have h2 : nand A Bb < 256 := nand_lt _ _ 8 hA8
    rw [ints_len]; omega
  have HL := Lib.hid (fun (w : Later V.heap.size V) (y : Later w.val.heap.size w.val) (ad : Option Addr) (cp : Nat) (hd : IntsAt w.val.heap.size w.val ad (ints l)) => c_list y (ints l) (ints l) ad adR cp cpR 0 0 hd (HIR.out.to w) hl256 rfl (by rw [if_pos rfl]))
  have o1 := i64_andNot A Bb (by omega) (by omega)
  have i0 : decide ((0 : Int) ≤ (i : Int)) = true := decide_eq_true (by omega)
  have i2 : decide ((i : Int) < (m : Int)) = false := decide_eq_false (by omega)
  have i3 : decide (i < m) = false := decide_eq_false (by omega)
  have x0 : decide ((0 : Int) ≤ (x : Int)) = true := decide_eq_true (by omega)
  clear hIV he hlt hex hf8 h256 hbm hl HIR KF
  obtain ⟨v1, hv1⟩ : ∃ v1 : Later V.heap.size V, v1.val = V := ⟨Later.self _, rfl⟩
  rw [← hv1]
  clear hv1
  go_wp2_with (first | (go_at_call 14; ((with_reducible refine (KBf.out _ _).mono ?_); rintro e _ ⟨rfl, v1, rfl⟩)) | (go_at_call 14; ((with_reducible refine (KBt.out _ _).mono ?_); rintro e _ ⟨rfl, v1, rfl⟩)) | (go_at_call 60; ((with_reducible refine (KW.out _).mono ?_); rintro e _ ⟨rfl, v1, rfl⟩)) | (go_at_call 77; ((with_reducible refine (KW2.out _).mono ?_); rintro e _ ⟨rfl, v1, rfl⟩)) | (go_at_call 79; ((with_reducible refine (KS.out _).mono ?_); rintro e _ ⟨rfl, v1, rfl⟩)) | (go_at_call 80; ((with_reducible refine (KL.out _).mono ?_); rintro e _ ⟨_, rfl, ⟨_, rfl, ⟨ad2, cp2, rfl, hI3, hcp3⟩⟩, w2, rfl⟩; have HI3 := Lib.hid hI3; clear hI3 hcp3)) | (go_at_call 81; ((with_reducible refine (KF'.out w2).mono ?_); rintro e _ ⟨rfl, v1, rfl⟩)) | (go_at_call 24; ((with_reducible refine (HO5.out _ _ _ _).mono ?_); rintro e _ ⟨rfl, v1, rfl⟩)) | (go_at_call 24; ((with_reducible refine (HO3.out _ _ _ _).mono ?_); rintro e _ ⟨rfl, v1, rfl⟩)) | (go_at_call 45; ((refine (HL.out _ _ _ _ HI3.out).mono ?_); rintro e _ ⟨rfl, v1, rfl⟩)))
  go_ret
  exact Ret.of (HVB.out _ v1) rfl

set_option maxRecDepth 100000 in
set_option maxHeartbeats 40000000 in
theorem law_sw_d43 {B : Nat} {W : World} (u : Later B W) (m A Bb : Nat) (x : Nat) (i : Nat) (L l : List Nat) (a : Option Addr) (cap : Nat) (h : IntsAt B W a (ints L)) (hlen : (ints L).length ≤ 4611686018427387904) (he : MatIs (m : Int) (ints L) 0) (hm : m ≤ 8) (hTN : toN (ints L) = L) (hA : A ∈ L) (hB : Bb ∈ L) (hA8 : A < 256) (hB8 : Bb < 256) (hl : LadIs L Bb A l) (hx8 : x < 256) (hx : x ||| nand A Bb = nand A Bb) (hs : SwIs m L A Bb x 0 5) (hi : i < m) (hbi : Bb.testBit i = true) :
    Calls Try.prog 12 #[.agg #[.int .i64 m, .slice a (ints L).length cap], .int .i64 A, .int .i64 Bb, .int .i64 x, .int .i64 i] u.val (Ret B W (.bool true)) := by
  have hlt := he.zero.1.1
  have hex := he.zero.2
  have hf8 := he.zero.1.fam8
  rw [show toN (ints L) = L from hTN] at hf8 hex
  have h256 : ∀ b, b ∈ L → b < 256 := hf8.lt
  have hbm : ∀ b, b ∈ L → b < bit m := fun b hb => by
    have := fam_lt hlt b (by rw [hTN]; exact hb)
    simpa using this
  have T0 : Hid (Two (u.val.alloc (.cells #[.int .i64 m, .slice a (ints L).length cap] 60)) u.val.heap.size 60 (.int .i64 m) (.slice a (ints L).length cap)) := Lib.hid (Two.new _ _ _ _)
  have hI : IntsAt (u.val.alloc (.cells #[.int .i64 m, .slice a (ints L).length cap] 60)).heap.size (u.val.alloc (.cells #[.int .i64 m, .slice a (ints L).length cap] 60)) a (ints L) := h.to (u.alloc _)
  have HV : Hid (∀ v : Later (u.val.alloc (.cells #[.int .i64 m, .slice a (ints L).length cap] 60)).heap.size (u.val.alloc (.cells #[.int .i64 m, .slice a (ints L).length cap] 60)), ∃ w : Later B W, w.val = v.val) := Lib.hid (fun v => ⟨(u.alloc _).up v, rfl⟩)
  have q0 : ∀ w : Later (u.val.alloc (.cells #[.int .i64 m, .slice a (ints L).length cap] 60)).heap.size (u.val.alloc (.cells #[.int .i64 m, .slice a (ints L).length cap] 60)), w.val.cell? ⟨u.val.heap.size, 0, none⟩ = some (.int .i64 m) := fun w => (T0.out.keep w.below).c0
  have q1 : ∀ w : Later (u.val.alloc (.cells #[.int .i64 m, .slice a (ints L).length cap] 60)).heap.size (u.val.alloc (.cells #[.int .i64 m, .slice a (ints L).length cap] 60)), w.val.cell? ⟨u.val.heap.size, 1, none⟩ = some (.slice a (ints L).length cap) := fun w => (T0.out.keep w.below).c1
  generalize hW1 : (u.val.alloc (.cells #[.int .i64 m, .slice a (ints L).length cap] 60)) = W1 at *
  generalize hgu : u.val.heap.size = gu at *
  have hlenL : L.length ≤ 4611686018427387904 := by rw [ints_len] at hlen; exact hlen
  have KM0 : Hid (Calls Try.prog 74 #[.agg #[.int .i64 m, .slice a (ints L).length cap]] W1 (Ret W1.heap.size W1 (.int .i64 0))) := Lib.hid (c_refMatroid (Later.self W1) m (ints L) a cap 0 hI hlen he)
  have p0 : W1.cell? ⟨gu, 0, none⟩ = some (.int .i64 m) := q0 (Later.self W1)
  have p1 : W1.cell? ⟨gu, 1, none⟩ = some (.slice a (ints L).length cap) := q1 (Later.self W1)
  have KH : Hid (∀ (v : Later W1.heap.size W1) (z : Int) (d : Bool), decide (z ∈ ints L) = d → Calls Try.prog 75 #[.slice a (ints L).length cap, .int .i64 z] v.val (Ret W1.heap.size W1 (.bool d))) := Lib.hid (fun v z d hd => by
    have := c_has v (ints L) z a cap hI (by omega)
    rwa [hd] at this)
  have KBt := Lib.hid (fun (v : Later W1.heap.size W1) (e : Int) => (show Calls Try.prog 14 #[.bool true, .int .i64 e] v.val (Ret W1.heap.size W1 (.int .i64 0)) from c_bad v true e))
  have KBf := Lib.hid (fun (v : Later W1.heap.size W1) (e : Int) => (show Calls Try.prog 14 #[.bool false, .int .i64 e] v.val (Ret W1.heap.size W1 (.int .i64 e)) from c_bad v false e))
  have KHx := Lib.hid (fun v => KH.out v A true (by simp [mem_ints, hA]))
  have KHy := Lib.hid (fun v => KH.out v Bb true (by simp [mem_ints, hB]))
  have KRL := Lib.hid (fun v : Later W1.heap.size W1 => c_refLadder m Bb L a cap hlenL hm hB8 _ _ _ v A l hI hA8 hl rfl)
  clear T0 KH
  subst hW1
  subst hgu
  go_enter Try.func12, Try.ntmps12
  go_upto_region 11 with (first | (go_at_call 74; ((with_reducible refine (KM0.out).mono ?_); rintro e _ ⟨rfl, v1, rfl⟩)) | (go_at_call 75; ((with_reducible refine (KHx.out _).mono ?_); rintro e _ ⟨rfl, v1, rfl⟩)) | (go_at_call 75; ((with_reducible refine (KHy.out _).mono ?_); rintro e _ ⟨rfl, v1, rfl⟩)) | (go_at_call 14; ((with_reducible refine (KBt.out _ _).mono ?_); rintro e _ ⟨rfl, v1, rfl⟩)) | (go_at_call 76; ((with_reducible refine (KRL.out _).mono ?_); rintro e _ ⟨_, rfl, ⟨adR, cpR, rfl, hIR, hcpR⟩, v1, rfl⟩)))
  have hIV : IntsAt v1.val.heap.size v1.val a (ints L) := hI.to v1
  have HIR := Lib.hid hIR
  have HVB : Hid (∀ (w : Later v1.val.heap.size v1.val) (y : Later w.val.heap.size w.val), ∃ w' : Later B W, w'.val = y.val) := Lib.hid (fun w y => HV.out (v1.up (w.up y)))
  have r0 : ∀ w : Later v1.val.heap.size v1.val, w.val.cell? ⟨u.val.heap.size, 0, none⟩ = some (.int .i64 m) := fun w => q0 (v1.up w)
  have r1 : ∀ w : Later v1.val.heap.size v1.val, w.val.cell? ⟨u.val.heap.size, 1, none⟩ = some (.slice a (ints L).length cap) := fun w => q1 (v1.up w)
  clear KM0 p0 p1 KHx KHy KRL KBt KBf hI HV q0 q1 hIR hcpR
  generalize u.val.heap.size = gu at *
  generalize v1.val = V at *
  clear h
  have KBt := Lib.hid (fun (v : Later V.heap.size V) (e : Int) => (show Calls Try.prog 14 #[.bool true, .int .i64 e] v.val (Ret V.heap.size V (.int .i64 0)) from c_bad v true e))
  have KBf := Lib.hid (fun (v : Later V.heap.size V) (e : Int) => (show Calls Try.prog 14 #[.bool false, .int .i64 e] v.val (Ret V.heap.size V (.int .i64 e)) from c_bad v false e))
  have HOk := Lib.hid (fun (B : Nat) (W : World) (u : Later B W) (y : Int) => c_one_ok u y)
  have HO3 := Lib.hid (fun (B : Nat) (W : World) (u : Later B W) (y : Int) => c_one_err u y 3 (by decide))
  have HO1 := Lib.hid (fun (B : Nat) (W : World) (u : Later B W) (y : Int) => c_one_err u y 1 (by decide))
  have HO5 := Lib.hid (fun (B : Nat) (W : World) (u : Later B W) (y : Int) => c_one_err u y 5 (by decide))
  have hnA : nand A Bb < 256 := nand_lt _ _ 8 hA8
  have KW := Lib.hid (fun v : Later V.heap.size V => dcall_t (c_within v x (nand A Bb) (by omega) (by omega)) hx)
  have hx0 : nand x (nand A Bb) = 0 := nand_zero_sub.2 (or_eq_iff.1 hx)
  have KS := Lib.hid (fun v : Later V.heap.size V => c_swap v m A Bb x 0 5 L a cap hIV hlen he hm hA hB hA8 hB8 hx8 hx0 hs)
  have KW2 := Lib.hid (fun v : Later V.heap.size V => (show Calls Try.prog 77 #[.agg #[.int .i64 m, .slice a (ints L).length cap], .int .i64 A, .int .i64 Bb, .int .i64 x] v.val (Ret V.heap.size V (.tuple #[.int .i64 0, .bool false])) from c_refSwapped v m A Bb x 0 5 L a cap hIV hlenL hm hA8 hB8 hx8 hx0 hs))
  have KL := Lib.hid (fun v : Later V.heap.size V => c_ladder v m A Bb L l a cap hIV hlen he hm hA hB hA8 hB8 hl)
  have KF := Lib.hid (fun v : Later V.heap.size V => c_fund_bad (Later.self v.val) m Bb i L a cap (hIV.to v) hlen he hm hB hB8 (.inr (.inr (by simpa using hbi))))
  have KF' : Hid (∀ v : Later V.heap.size V, Calls Try.prog 81 #[.agg #[.int .i64 m, .slice a (ints L).length cap], .int .i64 Bb, .int .i64 i] v.val (Ret v.val.heap.size v.val (.tuple #[.int .i64 0, .int .i64 3]))) := KF
  have hl256 : (ints l).length ≤ 4611686018427387904 := by
    have h1 := LadIs.len l A hA8 hl
    have h2 : nand A Bb < 256 := nand_lt _ _ 8 hA8
    rw [ints_len]; omega
  have HL := Lib.hid (fun (w : Later V.heap.size V) (y : Later w.val.heap.size w.val) (ad : Option Addr) (cp : Nat) (hd : IntsAt w.val.heap.size w.val ad (ints l)) => c_list y (ints l) (ints l) ad adR cp cpR 0 0 hd (HIR.out.to w) hl256 rfl (by rw [if_pos rfl]))
  have o1 := i64_andNot A Bb (by omega) (by omega)
  have i0 : decide ((0 : Int) ≤ (i : Int)) = true := decide_eq_true (by omega)
  have i2 : decide ((i : Int) < (m : Int)) = true := decide_eq_true (by omega)
  have i3 : decide (i < m) = true := decide_eq_true hi
  have x0 : decide ((0 : Int) ≤ (x : Int)) = true := decide_eq_true (by omega)
  have KIn := Lib.hid (fun v : Later V.heap.size V => c_in v Bb i (by omega) (by omega))
  rw [hbi] at KIn
  clear hIV he hlt hex hf8 h256 hbm hl HIR KF
  obtain ⟨v1, hv1⟩ : ∃ v1 : Later V.heap.size V, v1.val = V := ⟨Later.self _, rfl⟩
  rw [← hv1]
  clear hv1
  go_wp2_with (first | (go_at_call 14; ((with_reducible refine (KBf.out _ _).mono ?_); rintro e _ ⟨rfl, v1, rfl⟩)) | (go_at_call 14; ((with_reducible refine (KBt.out _ _).mono ?_); rintro e _ ⟨rfl, v1, rfl⟩)) | (go_at_call 60; ((with_reducible refine (KW.out _).mono ?_); rintro e _ ⟨rfl, v1, rfl⟩)) | (go_at_call 77; ((with_reducible refine (KW2.out _).mono ?_); rintro e _ ⟨rfl, v1, rfl⟩)) | (go_at_call 21; ((with_reducible refine (KIn.out _).mono ?_); rintro e _ ⟨rfl, v1, rfl⟩)) | (go_at_call 79; ((with_reducible refine (KS.out _).mono ?_); rintro e _ ⟨rfl, v1, rfl⟩)) | (go_at_call 80; ((with_reducible refine (KL.out _).mono ?_); rintro e _ ⟨_, rfl, ⟨_, rfl, ⟨ad2, cp2, rfl, hI3, hcp3⟩⟩, w2, rfl⟩; have HI3 := Lib.hid hI3; clear hI3 hcp3)) | (go_at_call 81; ((with_reducible refine (KF'.out w2).mono ?_); rintro e _ ⟨rfl, v1, rfl⟩)) | (go_at_call 24; ((with_reducible refine (HO5.out _ _ _ _).mono ?_); rintro e _ ⟨rfl, v1, rfl⟩)) | (go_at_call 24; ((with_reducible refine (HO3.out _ _ _ _).mono ?_); rintro e _ ⟨rfl, v1, rfl⟩)) | (go_at_call 45; ((refine (HL.out _ _ _ _ HI3.out).mono ?_); rintro e _ ⟨rfl, v1, rfl⟩)))
  go_ret
  exact Ret.of (HVB.out _ v1) rfl

set_option maxRecDepth 100000 in
set_option maxHeartbeats 40000000 in
theorem law_sw_d44 {B : Nat} {W : World} (u : Later B W) (m A Bb : Nat) (x : Nat) (i F : Nat) (L l : List Nat) (a : Option Addr) (cap : Nat) (h : IntsAt B W a (ints L)) (hlen : (ints L).length ≤ 4611686018427387904) (he : MatIs (m : Int) (ints L) 0) (hm : m ≤ 8) (hTN : toN (ints L) = L) (hA : A ∈ L) (hB : Bb ∈ L) (hA8 : A < 256) (hB8 : Bb < 256) (hl : LadIs L Bb A l) (hx8 : x < 256) (hx : x ||| nand A Bb = nand A Bb) (hs : SwIs m L A Bb x 0 5) (hi : i < m) (hbi : Bb.testBit i = false) (hF : FundIs L Bb i F) :
    Calls Try.prog 12 #[.agg #[.int .i64 m, .slice a (ints L).length cap], .int .i64 A, .int .i64 Bb, .int .i64 x, .int .i64 i] u.val (Ret B W (.bool true)) := by
  have hlt := he.zero.1.1
  have hex := he.zero.2
  have hf8 := he.zero.1.fam8
  rw [show toN (ints L) = L from hTN] at hf8 hex
  have h256 : ∀ b, b ∈ L → b < 256 := hf8.lt
  have hbm : ∀ b, b ∈ L → b < bit m := fun b hb => by
    have := fam_lt hlt b (by rw [hTN]; exact hb)
    simpa using this
  have T0 : Hid (Two (u.val.alloc (.cells #[.int .i64 m, .slice a (ints L).length cap] 60)) u.val.heap.size 60 (.int .i64 m) (.slice a (ints L).length cap)) := Lib.hid (Two.new _ _ _ _)
  have hI : IntsAt (u.val.alloc (.cells #[.int .i64 m, .slice a (ints L).length cap] 60)).heap.size (u.val.alloc (.cells #[.int .i64 m, .slice a (ints L).length cap] 60)) a (ints L) := h.to (u.alloc _)
  have HV : Hid (∀ v : Later (u.val.alloc (.cells #[.int .i64 m, .slice a (ints L).length cap] 60)).heap.size (u.val.alloc (.cells #[.int .i64 m, .slice a (ints L).length cap] 60)), ∃ w : Later B W, w.val = v.val) := Lib.hid (fun v => ⟨(u.alloc _).up v, rfl⟩)
  have q0 : ∀ w : Later (u.val.alloc (.cells #[.int .i64 m, .slice a (ints L).length cap] 60)).heap.size (u.val.alloc (.cells #[.int .i64 m, .slice a (ints L).length cap] 60)), w.val.cell? ⟨u.val.heap.size, 0, none⟩ = some (.int .i64 m) := fun w => (T0.out.keep w.below).c0
  have q1 : ∀ w : Later (u.val.alloc (.cells #[.int .i64 m, .slice a (ints L).length cap] 60)).heap.size (u.val.alloc (.cells #[.int .i64 m, .slice a (ints L).length cap] 60)), w.val.cell? ⟨u.val.heap.size, 1, none⟩ = some (.slice a (ints L).length cap) := fun w => (T0.out.keep w.below).c1
  generalize hW1 : (u.val.alloc (.cells #[.int .i64 m, .slice a (ints L).length cap] 60)) = W1 at *
  generalize hgu : u.val.heap.size = gu at *
  have hlenL : L.length ≤ 4611686018427387904 := by rw [ints_len] at hlen; exact hlen
  have KM0 : Hid (Calls Try.prog 74 #[.agg #[.int .i64 m, .slice a (ints L).length cap]] W1 (Ret W1.heap.size W1 (.int .i64 0))) := Lib.hid (c_refMatroid (Later.self W1) m (ints L) a cap 0 hI hlen he)
  have p0 : W1.cell? ⟨gu, 0, none⟩ = some (.int .i64 m) := q0 (Later.self W1)
  have p1 : W1.cell? ⟨gu, 1, none⟩ = some (.slice a (ints L).length cap) := q1 (Later.self W1)
  have KH : Hid (∀ (v : Later W1.heap.size W1) (z : Int) (d : Bool), decide (z ∈ ints L) = d → Calls Try.prog 75 #[.slice a (ints L).length cap, .int .i64 z] v.val (Ret W1.heap.size W1 (.bool d))) := Lib.hid (fun v z d hd => by
    have := c_has v (ints L) z a cap hI (by omega)
    rwa [hd] at this)
  have KBt := Lib.hid (fun (v : Later W1.heap.size W1) (e : Int) => (show Calls Try.prog 14 #[.bool true, .int .i64 e] v.val (Ret W1.heap.size W1 (.int .i64 0)) from c_bad v true e))
  have KBf := Lib.hid (fun (v : Later W1.heap.size W1) (e : Int) => (show Calls Try.prog 14 #[.bool false, .int .i64 e] v.val (Ret W1.heap.size W1 (.int .i64 e)) from c_bad v false e))
  have KHx := Lib.hid (fun v => KH.out v A true (by simp [mem_ints, hA]))
  have KHy := Lib.hid (fun v => KH.out v Bb true (by simp [mem_ints, hB]))
  have KRL := Lib.hid (fun v : Later W1.heap.size W1 => c_refLadder m Bb L a cap hlenL hm hB8 _ _ _ v A l hI hA8 hl rfl)
  clear T0 KH
  subst hW1
  subst hgu
  go_enter Try.func12, Try.ntmps12
  go_upto_region 11 with (first | (go_at_call 74; ((with_reducible refine (KM0.out).mono ?_); rintro e _ ⟨rfl, v1, rfl⟩)) | (go_at_call 75; ((with_reducible refine (KHx.out _).mono ?_); rintro e _ ⟨rfl, v1, rfl⟩)) | (go_at_call 75; ((with_reducible refine (KHy.out _).mono ?_); rintro e _ ⟨rfl, v1, rfl⟩)) | (go_at_call 14; ((with_reducible refine (KBt.out _ _).mono ?_); rintro e _ ⟨rfl, v1, rfl⟩)) | (go_at_call 76; ((with_reducible refine (KRL.out _).mono ?_); rintro e _ ⟨_, rfl, ⟨adR, cpR, rfl, hIR, hcpR⟩, v1, rfl⟩)))
  have hIV : IntsAt v1.val.heap.size v1.val a (ints L) := hI.to v1
  have HIR := Lib.hid hIR
  have HVB : Hid (∀ (w : Later v1.val.heap.size v1.val) (y : Later w.val.heap.size w.val), ∃ w' : Later B W, w'.val = y.val) := Lib.hid (fun w y => HV.out (v1.up (w.up y)))
  have r0 : ∀ w : Later v1.val.heap.size v1.val, w.val.cell? ⟨u.val.heap.size, 0, none⟩ = some (.int .i64 m) := fun w => q0 (v1.up w)
  have r1 : ∀ w : Later v1.val.heap.size v1.val, w.val.cell? ⟨u.val.heap.size, 1, none⟩ = some (.slice a (ints L).length cap) := fun w => q1 (v1.up w)
  clear KM0 p0 p1 KHx KHy KRL KBt KBf hI HV q0 q1 hIR hcpR
  generalize u.val.heap.size = gu at *
  generalize v1.val = V at *
  clear h
  have KBt := Lib.hid (fun (v : Later V.heap.size V) (e : Int) => (show Calls Try.prog 14 #[.bool true, .int .i64 e] v.val (Ret V.heap.size V (.int .i64 0)) from c_bad v true e))
  have KBf := Lib.hid (fun (v : Later V.heap.size V) (e : Int) => (show Calls Try.prog 14 #[.bool false, .int .i64 e] v.val (Ret V.heap.size V (.int .i64 e)) from c_bad v false e))
  have HOk := Lib.hid (fun (B : Nat) (W : World) (u : Later B W) (y : Int) => c_one_ok u y)
  have HO3 := Lib.hid (fun (B : Nat) (W : World) (u : Later B W) (y : Int) => c_one_err u y 3 (by decide))
  have HO1 := Lib.hid (fun (B : Nat) (W : World) (u : Later B W) (y : Int) => c_one_err u y 1 (by decide))
  have HO5 := Lib.hid (fun (B : Nat) (W : World) (u : Later B W) (y : Int) => c_one_err u y 5 (by decide))
  have hnA : nand A Bb < 256 := nand_lt _ _ 8 hA8
  have KW := Lib.hid (fun v : Later V.heap.size V => dcall_t (c_within v x (nand A Bb) (by omega) (by omega)) hx)
  have hx0 : nand x (nand A Bb) = 0 := nand_zero_sub.2 (or_eq_iff.1 hx)
  have KS := Lib.hid (fun v : Later V.heap.size V => c_swap v m A Bb x 0 5 L a cap hIV hlen he hm hA hB hA8 hB8 hx8 hx0 hs)
  have KW2 := Lib.hid (fun v : Later V.heap.size V => (show Calls Try.prog 77 #[.agg #[.int .i64 m, .slice a (ints L).length cap], .int .i64 A, .int .i64 Bb, .int .i64 x] v.val (Ret V.heap.size V (.tuple #[.int .i64 0, .bool false])) from c_refSwapped v m A Bb x 0 5 L a cap hIV hlenL hm hA8 hB8 hx8 hx0 hs))
  have KL := Lib.hid (fun v : Later V.heap.size V => c_ladder v m A Bb L l a cap hIV hlen he hm hA hB hA8 hB8 hl)
  have KF := Lib.hid (fun v : Later V.heap.size V => c_fund (Later.self v.val) m Bb i F L a cap (hIV.to v) hlen he hm hB hB8 hi hbi hF)
  have KF' : Hid (∀ v : Later V.heap.size V, Calls Try.prog 81 #[.agg #[.int .i64 m, .slice a (ints L).length cap], .int .i64 Bb, .int .i64 i] v.val (Ret v.val.heap.size v.val (.tuple #[.int .i64 F, .int .i64 0]))) := KF
  have hl256 : (ints l).length ≤ 4611686018427387904 := by
    have h1 := LadIs.len l A hA8 hl
    have h2 : nand A Bb < 256 := nand_lt _ _ 8 hA8
    rw [ints_len]; omega
  have HL := Lib.hid (fun (w : Later V.heap.size V) (y : Later w.val.heap.size w.val) (ad : Option Addr) (cp : Nat) (hd : IntsAt w.val.heap.size w.val ad (ints l)) => c_list y (ints l) (ints l) ad adR cp cpR 0 0 hd (HIR.out.to w) hl256 rfl (by rw [if_pos rfl]))
  have o1 := i64_andNot A Bb (by omega) (by omega)
  have i0 : decide ((0 : Int) ≤ (i : Int)) = true := decide_eq_true (by omega)
  have i2 : decide ((i : Int) < (m : Int)) = true := decide_eq_true (by omega)
  have i3 : decide (i < m) = true := decide_eq_true hi
  have x0 : decide ((0 : Int) ≤ (x : Int)) = true := decide_eq_true (by omega)
  have KIn := Lib.hid (fun v : Later V.heap.size V => c_in v Bb i (by omega) (by omega))
  rw [hbi] at KIn
  have KR := Lib.hid (fun v : Later V.heap.size V => c_ring v m hm L h256 hlenL a cap Bb i F hB8 (by omega) hIV (ring_is hm hf8 hbm hex hB hi hbi hF))
  clear hIV he hlt hex hf8 h256 hbm hl HIR KF
  obtain ⟨v1, hv1⟩ : ∃ v1 : Later V.heap.size V, v1.val = V := ⟨Later.self _, rfl⟩
  rw [← hv1]
  clear hv1
  go_wp2_with (first | (go_at_call 14; ((with_reducible refine (KBf.out _ _).mono ?_); rintro e _ ⟨rfl, v1, rfl⟩)) | (go_at_call 14; ((with_reducible refine (KBt.out _ _).mono ?_); rintro e _ ⟨rfl, v1, rfl⟩)) | (go_at_call 60; ((with_reducible refine (KW.out _).mono ?_); rintro e _ ⟨rfl, v1, rfl⟩)) | (go_at_call 77; ((with_reducible refine (KW2.out _).mono ?_); rintro e _ ⟨rfl, v1, rfl⟩)) | (go_at_call 21; ((with_reducible refine (KIn.out _).mono ?_); rintro e _ ⟨rfl, v1, rfl⟩)) | (go_at_call 78; ((with_reducible refine (KR.out _).mono ?_); rintro e _ ⟨rfl, v1, rfl⟩)) | (go_at_call 79; ((with_reducible refine (KS.out _).mono ?_); rintro e _ ⟨rfl, v1, rfl⟩)) | (go_at_call 80; ((with_reducible refine (KL.out _).mono ?_); rintro e _ ⟨_, rfl, ⟨_, rfl, ⟨ad2, cp2, rfl, hI3, hcp3⟩⟩, w2, rfl⟩; have HI3 := Lib.hid hI3; clear hI3 hcp3)) | (go_at_call 81; ((with_reducible refine (KF'.out w2).mono ?_); rintro e _ ⟨rfl, v1, rfl⟩)) | (go_at_call 24; ((with_reducible refine (HO5.out _ _ _ _).mono ?_); rintro e _ ⟨rfl, v1, rfl⟩)) | (go_at_call 24; ((with_reducible refine (HOk.out _ _ _ _).mono ?_); rintro e _ ⟨rfl, v1, rfl⟩)) | (go_at_call 45; ((refine (HL.out _ _ _ _ HI3.out).mono ?_); rintro e _ ⟨rfl, v1, rfl⟩)))
  go_ret
  exact Ret.of (HVB.out _ v1) rfl

end Go.Proofs.Ytcljgnmlpfddiaa
