/-
  rotalaw.GreedySwaps, the walks: printed by wip/tools/gsw.py.
-/
import Derived.Test.YtcljgnmlpfddiaaLadR
import Derived.Test.YtcljgnmlpfddiaaRing
import Derived.Test.YtcljgnmlpfddiaaFund
import Derived.Test.YtcljgnmlpfddiaaConvLaw
namespace Go.Proofs.Ytcljgnmlpfddiaa
open Go.RowKit
set_option linter.unusedVariables false

def nilList (l : List Int) : Prop := l = []
set_option maxRecDepth 100000 in
set_option maxHeartbeats 40000000 in
theorem law_sw_a {B : Nat} {W : World} (u : Later B W) (n x y z i e : Int) (l : List Int) (a : Option Addr) (cap : Nat) (h : IntsAt B W a l) (hlen : l.length ≤ 4611686018427387904) (he : MatIs n l e) (h0 : e ≠ 0) :
    Calls Try.prog 12 #[.agg #[.int .i64 n, .slice a l.length cap], .int .i64 x, .int .i64 y, .int .i64 z, .int .i64 i] u.val (Ret B W (.bool true)) := by
  have T0 : Hid (Two (u.val.alloc (.cells #[.int .i64 n, .slice a l.length cap] 60)) u.val.heap.size 60 (.int .i64 n) (.slice a l.length cap)) := Lib.hid (Two.new _ _ _ _)
  have hI : IntsAt (u.val.alloc (.cells #[.int .i64 n, .slice a l.length cap] 60)).heap.size (u.val.alloc (.cells #[.int .i64 n, .slice a l.length cap] 60)) a l := h.to (u.alloc _)
  have HV : Hid (∀ v : Later (u.val.alloc (.cells #[.int .i64 n, .slice a l.length cap] 60)).heap.size (u.val.alloc (.cells #[.int .i64 n, .slice a l.length cap] 60)), ∃ w : Later B W, w.val = v.val) := Lib.hid (fun v => ⟨(u.alloc _).up v, rfl⟩)
  have q0 : ∀ w : Later (u.val.alloc (.cells #[.int .i64 n, .slice a l.length cap] 60)).heap.size (u.val.alloc (.cells #[.int .i64 n, .slice a l.length cap] 60)), w.val.cell? ⟨u.val.heap.size, 0, none⟩ = some (.int .i64 n) := fun w => (T0.out.keep w.below).c0
  have q1 : ∀ w : Later (u.val.alloc (.cells #[.int .i64 n, .slice a l.length cap] 60)).heap.size (u.val.alloc (.cells #[.int .i64 n, .slice a l.length cap] 60)), w.val.cell? ⟨u.val.heap.size, 1, none⟩ = some (.slice a l.length cap) := fun w => (T0.out.keep w.below).c1
  generalize hW1 : (u.val.alloc (.cells #[.int .i64 n, .slice a l.length cap] 60)) = W1 at *
  generalize hgu : u.val.heap.size = gu at *
  have ht : ∀ x y, twoE l e x y = e := fun x y => by unfold twoE; rw [if_neg h0]
  have KM := Lib.hid (fun v : Later W1.heap.size W1 => c_refMatroid v n l a cap e hI hlen he)
  have KS := Lib.hid (fun v : Later W1.heap.size W1 => c_swap_no v n x y z l a cap e hI hlen he (by rw [ht]; exact h0))
  have KL := Lib.hid (fun v : Later W1.heap.size W1 => c_ladder_no v n x y l a cap e hI hlen he (by rw [ht]; exact h0))
  have KF := Lib.hid (fun v : Later W1.heap.size W1 => c_fund_no v n y i l a cap e hI hlen he (by rw [ht]; exact h0))
  simp only [ht] at KS KL KF
  have HO := Lib.hid (fun (v : Later W1.heap.size W1) (y : Int) => c_one_err v y e h0)
  have HL := Lib.hid (fun (v : Later W1.heap.size W1) (ad : Option Addr) (cp : Nat) => c_list v [] [] ad none cp 0 e e IntsAt.nil IntsAt.nil (by simp) rfl (by rw [if_neg h0]))
  have d0 : (e == 0) = false := by rw [beq_eq_false_iff_ne]; exact h0
  obtain ⟨y0, hy0⟩ : ∃ y0 : Later W1.heap.size W1, y0.val = W1 := ⟨Later.self _, rfl⟩
  have KM0 : Hid (Calls Try.prog 74 #[.agg #[.int .i64 n, .slice a l.length cap]] W1 (Ret W1.heap.size W1 (.int .i64 e))) := Lib.hid (KM.out (Later.self W1))
  have p0 : W1.cell? ⟨gu, 0, none⟩ = some (.int .i64 n) := q0 (Later.self W1)
  have p1 : W1.cell? ⟨gu, 1, none⟩ = some (.slice a l.length cap) := q1 (Later.self W1)
  clear h hI he h0 ht T0 hy0
  subst hW1
  subst hgu
  go_enter Try.func12, Try.ntmps12
  go_wp2_with (first | (go_at_call 74; ((with_reducible refine (KM0.out).mono ?_); rintro e _ ⟨rfl, v1, rfl⟩)) | (go_at_call 79; ((with_reducible refine (KS.out _).mono ?_); rintro e _ ⟨rfl, v1, rfl⟩)) | (go_at_call 80; ((with_reducible refine (KL.out _).mono ?_); rintro e _ ⟨_, rfl, ⟨_, rfl, ⟨ad2, cp2, rfl, hI3, hcp3⟩⟩, v1, rfl⟩; have HI3 := Lib.hid hI3; clear hI3 hcp3)) | (go_at_call 81; ((with_reducible refine (KF.out _).mono ?_); rintro e _ ⟨rfl, v1, rfl⟩)) | (go_at_call 24; ((with_reducible refine (HO.out _ _).mono ?_); rintro e _ ⟨rfl, v1, rfl⟩)) | (go_at_call 45; ((refine (HL.out _ _ _).mono ?_); rintro e _ ⟨rfl, v1, rfl⟩)))
  go_ret
  exact Ret.of (HV.out v1) rfl

set_option maxRecDepth 100000 in
set_option maxHeartbeats 40000000 in
theorem law_sw_b {B : Nat} {W : World} (u : Later B W) (m : Nat) (x y z i : Int) (L : List Nat) (a : Option Addr) (cap : Nat) (h : IntsAt B W a (ints L)) (hlen : (ints L).length ≤ 4611686018427387904) (he : MatIs (m : Int) (ints L) 0) (hm : m ≤ 8) (hTN : toN (ints L) = L) (hy : y ∉ ints L) :
    Calls Try.prog 12 #[.agg #[.int .i64 m, .slice a (ints L).length cap], .int .i64 x, .int .i64 y, .int .i64 z, .int .i64 i] u.val (Ret B W (.bool true)) := by
  have hlt := he.zero.1.1
  have hex := he.zero.2
  have hf8 := he.zero.1.fam8
  rw [show toN (ints L) = L from hTN] at hf8 hex
  have h256 : ∀ b, b ∈ L → b < 256 := hf8.lt
  have hbm : ∀ b, b ∈ L → b < bit m := fun b hb => by
    have := fam_lt hlt b (by rw [hTN]; exact hb)
    simpa using this
  have T0 : Hid (Two (u.val.alloc (.cells #[.int .i64 m, .slice a (ints L).length cap] 60)) u.val.heap.size 60 (.int .i64 m) (.slice a (ints L).length cap)) := Lib.hid (Two.new _ _ _ _)
  have hI : IntsAt (u.val.alloc (.cells #[.int .i64 m, .slice a (ints L).length cap] 60)).heap.size (u.val.alloc (.cells #[.int .i64 m, .slice a (ints L).length cap] 60)) a (ints L) := h.to (u.alloc _)
  have HV : Hid (∀ v : Later (u.val.alloc (.cells #[.int .i64 m, .slice a (ints L).length cap] 60)).heap.size (u.val.alloc (.cells #[.int .i64 m, .slice a (ints L).length cap] 60)), ∃ w : Later B W, w.val = v.val) := Lib.hid (fun v => ⟨(u.alloc _).up v, rfl⟩)
  have q0 : ∀ w : Later (u.val.alloc (.cells #[.int .i64 m, .slice a (ints L).length cap] 60)).heap.size (u.val.alloc (.cells #[.int .i64 m, .slice a (ints L).length cap] 60)), w.val.cell? ⟨u.val.heap.size, 0, none⟩ = some (.int .i64 m) := fun w => (T0.out.keep w.below).c0
  have q1 : ∀ w : Later (u.val.alloc (.cells #[.int .i64 m, .slice a (ints L).length cap] 60)).heap.size (u.val.alloc (.cells #[.int .i64 m, .slice a (ints L).length cap] 60)), w.val.cell? ⟨u.val.heap.size, 1, none⟩ = some (.slice a (ints L).length cap) := fun w => (T0.out.keep w.below).c1
  generalize hW1 : (u.val.alloc (.cells #[.int .i64 m, .slice a (ints L).length cap] 60)) = W1 at *
  generalize hgu : u.val.heap.size = gu at *
  have hlenL : L.length ≤ 4611686018427387904 := by rw [ints_len] at hlen; exact hlen
  have KM0 : Hid (Calls Try.prog 74 #[.agg #[.int .i64 m, .slice a (ints L).length cap]] W1 (Ret W1.heap.size W1 (.int .i64 0))) := Lib.hid (c_refMatroid (Later.self W1) m (ints L) a cap 0 hI hlen he)
  have p0 : W1.cell? ⟨gu, 0, none⟩ = some (.int .i64 m) := q0 (Later.self W1)
  have p1 : W1.cell? ⟨gu, 1, none⟩ = some (.slice a (ints L).length cap) := q1 (Later.self W1)
  have KH : Hid (∀ (v : Later W1.heap.size W1) (z : Int) (d : Bool), decide (z ∈ ints L) = d → Calls Try.prog 75 #[.slice a (ints L).length cap, .int .i64 z] v.val (Ret W1.heap.size W1 (.bool d))) := Lib.hid (fun v z d hd => by
    have := c_has v (ints L) z a cap hI (by omega)
    rwa [hd] at this)
  have KBt := Lib.hid (fun (v : Later W1.heap.size W1) (e : Int) => (show Calls Try.prog 14 #[.bool true, .int .i64 e] v.val (Ret W1.heap.size W1 (.int .i64 0)) from c_bad v true e))
  have KBf := Lib.hid (fun (v : Later W1.heap.size W1) (e : Int) => (show Calls Try.prog 14 #[.bool false, .int .i64 e] v.val (Ret W1.heap.size W1 (.int .i64 e)) from c_bad v false e))
  have ht : ∀ x, twoE (ints L) 0 x y = 1 := fun x => by unfold twoE; rw [if_pos rfl, if_neg (fun h => hy h.2)]
  have KS := Lib.hid (fun v : Later W1.heap.size W1 => c_swap_no v m x y z (ints L) a cap 0 hI hlen he (by rw [ht]; decide))
  have KL := Lib.hid (fun v : Later W1.heap.size W1 => c_ladder_no v m x y (ints L) a cap 0 hI hlen he (by rw [ht]; decide))
  have KF := Lib.hid (fun v : Later W1.heap.size W1 => c_fund_no v m y i (ints L) a cap 0 hI hlen he (by rw [ht]; decide))
  simp only [ht] at KS KL KF
  have HO := Lib.hid (fun (v : Later W1.heap.size W1) (y : Int) => c_one_err v y 1 (by decide))
  have HL := Lib.hid (fun (v : Later W1.heap.size W1) (ad : Option Addr) (cp : Nat) => c_list v [] [] ad none cp 0 1 1 IntsAt.nil IntsAt.nil (by simp) rfl (by rw [if_neg (by decide)]))
  have KHy := Lib.hid (fun v => KH.out v y false (by simp [hy]))
  obtain ⟨dx, hdx⟩ : ∃ d, decide (x ∈ ints L) = d := ⟨_, rfl⟩
  have KHx := Lib.hid (fun v => KH.out v x dx hdx)
  clear h hI he ht T0 KH hy hdx hlt hex hf8 h256 hbm
  subst hW1
  subst hgu
  go_enter Try.func12, Try.ntmps12
  cases dx
  all_goals
    go_wp2_with (first | (go_at_call 74; ((with_reducible refine (KM0.out).mono ?_); rintro e _ ⟨rfl, v1, rfl⟩)) | (go_at_call 75; ((with_reducible refine (KHx.out _).mono ?_); rintro e _ ⟨rfl, v1, rfl⟩)) | (go_at_call 75; ((with_reducible refine (KHy.out _).mono ?_); rintro e _ ⟨rfl, v1, rfl⟩)) | (go_at_call 14; ((with_reducible refine (KBf.out _ _).mono ?_); rintro e _ ⟨rfl, v1, rfl⟩)) | (go_at_call 79; ((with_reducible refine (KS.out _).mono ?_); rintro e _ ⟨rfl, v1, rfl⟩)) | (go_at_call 80; ((with_reducible refine (KL.out _).mono ?_); rintro e _ ⟨_, rfl, ⟨_, rfl, ⟨ad2, cp2, rfl, hI3, hcp3⟩⟩, v1, rfl⟩; have HI3 := Lib.hid hI3; clear hI3 hcp3)) | (go_at_call 81; ((with_reducible refine (KF.out _).mono ?_); rintro e _ ⟨rfl, v1, rfl⟩)) | (go_at_call 24; ((with_reducible refine (HO.out _ _).mono ?_); rintro e _ ⟨rfl, v1, rfl⟩)) | (go_at_call 45; ((refine (HL.out _ _ _).mono ?_); rintro e _ ⟨rfl, v1, rfl⟩)))
    go_ret
    exact Ret.of (HV.out v1) rfl

set_option maxRecDepth 100000 in
set_option maxHeartbeats 40000000 in
theorem law_sw_c1 {B : Nat} {W : World} (u : Later B W) (m Bb : Nat) (x z : Int) (i : Int) (L : List Nat) (a : Option Addr) (cap : Nat) (h : IntsAt B W a (ints L)) (hlen : (ints L).length ≤ 4611686018427387904) (he : MatIs (m : Int) (ints L) 0) (hm : m ≤ 8) (hTN : toN (ints L) = L) (hx : x ∉ ints L) (hB : Bb ∈ L) (hB8 : Bb < 256) (hi : i < 0) :
    Calls Try.prog 12 #[.agg #[.int .i64 m, .slice a (ints L).length cap], .int .i64 x, .int .i64 Bb, .int .i64 z, .int .i64 i] u.val (Ret B W (.bool true)) := by
  have hlt := he.zero.1.1
  have hex := he.zero.2
  have hf8 := he.zero.1.fam8
  rw [show toN (ints L) = L from hTN] at hf8 hex
  have h256 : ∀ b, b ∈ L → b < 256 := hf8.lt
  have hbm : ∀ b, b ∈ L → b < bit m := fun b hb => by
    have := fam_lt hlt b (by rw [hTN]; exact hb)
    simpa using this
  have T0 : Hid (Two (u.val.alloc (.cells #[.int .i64 m, .slice a (ints L).length cap] 60)) u.val.heap.size 60 (.int .i64 m) (.slice a (ints L).length cap)) := Lib.hid (Two.new _ _ _ _)
  have hI : IntsAt (u.val.alloc (.cells #[.int .i64 m, .slice a (ints L).length cap] 60)).heap.size (u.val.alloc (.cells #[.int .i64 m, .slice a (ints L).length cap] 60)) a (ints L) := h.to (u.alloc _)
  have HV : Hid (∀ v : Later (u.val.alloc (.cells #[.int .i64 m, .slice a (ints L).length cap] 60)).heap.size (u.val.alloc (.cells #[.int .i64 m, .slice a (ints L).length cap] 60)), ∃ w : Later B W, w.val = v.val) := Lib.hid (fun v => ⟨(u.alloc _).up v, rfl⟩)
  have q0 : ∀ w : Later (u.val.alloc (.cells #[.int .i64 m, .slice a (ints L).length cap] 60)).heap.size (u.val.alloc (.cells #[.int .i64 m, .slice a (ints L).length cap] 60)), w.val.cell? ⟨u.val.heap.size, 0, none⟩ = some (.int .i64 m) := fun w => (T0.out.keep w.below).c0
  have q1 : ∀ w : Later (u.val.alloc (.cells #[.int .i64 m, .slice a (ints L).length cap] 60)).heap.size (u.val.alloc (.cells #[.int .i64 m, .slice a (ints L).length cap] 60)), w.val.cell? ⟨u.val.heap.size, 1, none⟩ = some (.slice a (ints L).length cap) := fun w => (T0.out.keep w.below).c1
  generalize hW1 : (u.val.alloc (.cells #[.int .i64 m, .slice a (ints L).length cap] 60)) = W1 at *
  generalize hgu : u.val.heap.size = gu at *
  have hlenL : L.length ≤ 4611686018427387904 := by rw [ints_len] at hlen; exact hlen
  have KM0 : Hid (Calls Try.prog 74 #[.agg #[.int .i64 m, .slice a (ints L).length cap]] W1 (Ret W1.heap.size W1 (.int .i64 0))) := Lib.hid (c_refMatroid (Later.self W1) m (ints L) a cap 0 hI hlen he)
  have p0 : W1.cell? ⟨gu, 0, none⟩ = some (.int .i64 m) := q0 (Later.self W1)
  have p1 : W1.cell? ⟨gu, 1, none⟩ = some (.slice a (ints L).length cap) := q1 (Later.self W1)
  have KH : Hid (∀ (v : Later W1.heap.size W1) (z : Int) (d : Bool), decide (z ∈ ints L) = d → Calls Try.prog 75 #[.slice a (ints L).length cap, .int .i64 z] v.val (Ret W1.heap.size W1 (.bool d))) := Lib.hid (fun v z d hd => by
    have := c_has v (ints L) z a cap hI (by omega)
    rwa [hd] at this)
  have KBt := Lib.hid (fun (v : Later W1.heap.size W1) (e : Int) => (show Calls Try.prog 14 #[.bool true, .int .i64 e] v.val (Ret W1.heap.size W1 (.int .i64 0)) from c_bad v true e))
  have KBf := Lib.hid (fun (v : Later W1.heap.size W1) (e : Int) => (show Calls Try.prog 14 #[.bool false, .int .i64 e] v.val (Ret W1.heap.size W1 (.int .i64 e)) from c_bad v false e))
  have ht : twoE (ints L) 0 x Bb = 1 := by unfold twoE; rw [if_pos rfl, if_neg (fun h => hx h.1)]
  have KS := Lib.hid (fun v : Later W1.heap.size W1 => c_swap_no v m x Bb z (ints L) a cap 0 hI hlen he (by rw [ht]; decide))
  have KL := Lib.hid (fun v : Later W1.heap.size W1 => c_ladder_no v m x Bb (ints L) a cap 0 hI hlen he (by rw [ht]; decide))
  have KF := Lib.hid (fun v : Later W1.heap.size W1 => c_fund_bad v m Bb i L a cap hI hlen he hm hB hB8 (.inl hi))
  rw [ht] at KS KL
  have HOk := Lib.hid (fun (B : Nat) (W : World) (u : Later B W) (y : Int) => c_one_ok u y)
  have HO3 := Lib.hid (fun (B : Nat) (W : World) (u : Later B W) (y : Int) => c_one_err u y 3 (by decide))
  have HO1 := Lib.hid (fun (B : Nat) (W : World) (u : Later B W) (y : Int) => c_one_err u y 1 (by decide))
  have HO5 := Lib.hid (fun (B : Nat) (W : World) (u : Later B W) (y : Int) => c_one_err u y 5 (by decide))
  have HL := Lib.hid (fun (v : Later W1.heap.size W1) (ad : Option Addr) (cp : Nat) => c_list v [] [] ad none cp 0 1 1 IntsAt.nil IntsAt.nil (by simp) rfl (by rw [if_neg (by decide)]))
  have KHx := Lib.hid (fun v => KH.out v x false (by simp [hx]))
  have KHy := Lib.hid (fun v => KH.out v Bb true (by simp [mem_ints, hB]))
  have i1 : decide ((0 : Int) ≤ i) = false := decide_eq_false (by omega)
  clear h hI he ht T0 KH hx hlt hex hf8 h256 hbm
  subst hW1
  subst hgu
  go_enter Try.func12, Try.ntmps12
  go_wp2_with (first | (go_at_call 74; ((with_reducible refine (KM0.out).mono ?_); rintro e _ ⟨rfl, v1, rfl⟩)) | (go_at_call 75; ((with_reducible refine (KHx.out _).mono ?_); rintro e _ ⟨rfl, v1, rfl⟩)) | (go_at_call 75; ((with_reducible refine (KHy.out _).mono ?_); rintro e _ ⟨rfl, v1, rfl⟩)) | (go_at_call 14; ((with_reducible refine (KBf.out _ _).mono ?_); rintro e _ ⟨rfl, v1, rfl⟩)) | (go_at_call 14; ((with_reducible refine (KBt.out _ _).mono ?_); rintro e _ ⟨rfl, v1, rfl⟩)) | (go_at_call 79; ((with_reducible refine (KS.out _).mono ?_); rintro e _ ⟨rfl, v1, rfl⟩)) | (go_at_call 80; ((with_reducible refine (KL.out _).mono ?_); rintro e _ ⟨_, rfl, ⟨_, rfl, ⟨ad2, cp2, rfl, hI3, hcp3⟩⟩, v1, rfl⟩; have HI3 := Lib.hid hI3; clear hI3 hcp3)) | (go_at_call 81; ((with_reducible refine (KF.out _).mono ?_); rintro e _ ⟨rfl, v1, rfl⟩)) | (go_at_call 24; ((with_reducible refine (HO1.out _ _ _ _).mono ?_); rintro e _ ⟨rfl, v1, rfl⟩)) | (go_at_call 24; ((with_reducible refine (HO3.out _ _ _ _).mono ?_); rintro e _ ⟨rfl, v1, rfl⟩)) | (go_at_call 45; ((refine (HL.out _ _ _).mono ?_); rintro e _ ⟨rfl, v1, rfl⟩)))
  go_ret
  exact Ret.of (HV.out v1) rfl

set_option maxRecDepth 100000 in
set_option maxHeartbeats 40000000 in
theorem law_sw_c2 {B : Nat} {W : World} (u : Later B W) (m Bb : Nat) (x z : Int) (i : Nat) (L : List Nat) (a : Option Addr) (cap : Nat) (h : IntsAt B W a (ints L)) (hlen : (ints L).length ≤ 4611686018427387904) (he : MatIs (m : Int) (ints L) 0) (hm : m ≤ 8) (hTN : toN (ints L) = L) (hx : x ∉ ints L) (hB : Bb ∈ L) (hB8 : Bb < 256) (hi : m ≤ i) :
    Calls Try.prog 12 #[.agg #[.int .i64 m, .slice a (ints L).length cap], .int .i64 x, .int .i64 Bb, .int .i64 z, .int .i64 i] u.val (Ret B W (.bool true)) := by
  have hlt := he.zero.1.1
  have hex := he.zero.2
  have hf8 := he.zero.1.fam8
  rw [show toN (ints L) = L from hTN] at hf8 hex
  have h256 : ∀ b, b ∈ L → b < 256 := hf8.lt
  have hbm : ∀ b, b ∈ L → b < bit m := fun b hb => by
    have := fam_lt hlt b (by rw [hTN]; exact hb)
    simpa using this
  have T0 : Hid (Two (u.val.alloc (.cells #[.int .i64 m, .slice a (ints L).length cap] 60)) u.val.heap.size 60 (.int .i64 m) (.slice a (ints L).length cap)) := Lib.hid (Two.new _ _ _ _)
  have hI : IntsAt (u.val.alloc (.cells #[.int .i64 m, .slice a (ints L).length cap] 60)).heap.size (u.val.alloc (.cells #[.int .i64 m, .slice a (ints L).length cap] 60)) a (ints L) := h.to (u.alloc _)
  have HV : Hid (∀ v : Later (u.val.alloc (.cells #[.int .i64 m, .slice a (ints L).length cap] 60)).heap.size (u.val.alloc (.cells #[.int .i64 m, .slice a (ints L).length cap] 60)), ∃ w : Later B W, w.val = v.val) := Lib.hid (fun v => ⟨(u.alloc _).up v, rfl⟩)
  have q0 : ∀ w : Later (u.val.alloc (.cells #[.int .i64 m, .slice a (ints L).length cap] 60)).heap.size (u.val.alloc (.cells #[.int .i64 m, .slice a (ints L).length cap] 60)), w.val.cell? ⟨u.val.heap.size, 0, none⟩ = some (.int .i64 m) := fun w => (T0.out.keep w.below).c0
  have q1 : ∀ w : Later (u.val.alloc (.cells #[.int .i64 m, .slice a (ints L).length cap] 60)).heap.size (u.val.alloc (.cells #[.int .i64 m, .slice a (ints L).length cap] 60)), w.val.cell? ⟨u.val.heap.size, 1, none⟩ = some (.slice a (ints L).length cap) := fun w => (T0.out.keep w.below).c1
  generalize hW1 : (u.val.alloc (.cells #[.int .i64 m, .slice a (ints L).length cap] 60)) = W1 at *
  generalize hgu : u.val.heap.size = gu at *
  have hlenL : L.length ≤ 4611686018427387904 := by rw [ints_len] at hlen; exact hlen
  have KM0 : Hid (Calls Try.prog 74 #[.agg #[.int .i64 m, .slice a (ints L).length cap]] W1 (Ret W1.heap.size W1 (.int .i64 0))) := Lib.hid (c_refMatroid (Later.self W1) m (ints L) a cap 0 hI hlen he)
  have p0 : W1.cell? ⟨gu, 0, none⟩ = some (.int .i64 m) := q0 (Later.self W1)
  have p1 : W1.cell? ⟨gu, 1, none⟩ = some (.slice a (ints L).length cap) := q1 (Later.self W1)
  have KH : Hid (∀ (v : Later W1.heap.size W1) (z : Int) (d : Bool), decide (z ∈ ints L) = d → Calls Try.prog 75 #[.slice a (ints L).length cap, .int .i64 z] v.val (Ret W1.heap.size W1 (.bool d))) := Lib.hid (fun v z d hd => by
    have := c_has v (ints L) z a cap hI (by omega)
    rwa [hd] at this)
  have KBt := Lib.hid (fun (v : Later W1.heap.size W1) (e : Int) => (show Calls Try.prog 14 #[.bool true, .int .i64 e] v.val (Ret W1.heap.size W1 (.int .i64 0)) from c_bad v true e))
  have KBf := Lib.hid (fun (v : Later W1.heap.size W1) (e : Int) => (show Calls Try.prog 14 #[.bool false, .int .i64 e] v.val (Ret W1.heap.size W1 (.int .i64 e)) from c_bad v false e))
  have ht : twoE (ints L) 0 x Bb = 1 := by unfold twoE; rw [if_pos rfl, if_neg (fun h => hx h.1)]
  have KS := Lib.hid (fun v : Later W1.heap.size W1 => c_swap_no v m x Bb z (ints L) a cap 0 hI hlen he (by rw [ht]; decide))
  have KL := Lib.hid (fun v : Later W1.heap.size W1 => c_ladder_no v m x Bb (ints L) a cap 0 hI hlen he (by rw [ht]; decide))
  have KF := Lib.hid (fun v : Later W1.heap.size W1 => c_fund_bad v m Bb i L a cap hI hlen he hm hB hB8 (.inr (.inl (by omega))))
  rw [ht] at KS KL
  have HOk := Lib.hid (fun (B : Nat) (W : World) (u : Later B W) (y : Int) => c_one_ok u y)
  have HO3 := Lib.hid (fun (B : Nat) (W : World) (u : Later B W) (y : Int) => c_one_err u y 3 (by decide))
  have HO1 := Lib.hid (fun (B : Nat) (W : World) (u : Later B W) (y : Int) => c_one_err u y 1 (by decide))
  have HO5 := Lib.hid (fun (B : Nat) (W : World) (u : Later B W) (y : Int) => c_one_err u y 5 (by decide))
  have HL := Lib.hid (fun (v : Later W1.heap.size W1) (ad : Option Addr) (cp : Nat) => c_list v [] [] ad none cp 0 1 1 IntsAt.nil IntsAt.nil (by simp) rfl (by rw [if_neg (by decide)]))
  have KHx := Lib.hid (fun v => KH.out v x false (by simp [hx]))
  have KHy := Lib.hid (fun v => KH.out v Bb true (by simp [mem_ints, hB]))
  have i0 : decide ((0 : Int) ≤ (i : Int)) = true := decide_eq_true (by omega)
  have i2 : decide ((i : Int) < (m : Int)) = false := decide_eq_false (by omega)
  have i3 : decide (i < m) = false := decide_eq_false (by omega)
  clear h hI he ht T0 KH hx hlt hex hf8 h256 hbm
  subst hW1
  subst hgu
  go_enter Try.func12, Try.ntmps12
  go_wp2_with (first | (go_at_call 74; ((with_reducible refine (KM0.out).mono ?_); rintro e _ ⟨rfl, v1, rfl⟩)) | (go_at_call 75; ((with_reducible refine (KHx.out _).mono ?_); rintro e _ ⟨rfl, v1, rfl⟩)) | (go_at_call 75; ((with_reducible refine (KHy.out _).mono ?_); rintro e _ ⟨rfl, v1, rfl⟩)) | (go_at_call 14; ((with_reducible refine (KBf.out _ _).mono ?_); rintro e _ ⟨rfl, v1, rfl⟩)) | (go_at_call 14; ((with_reducible refine (KBt.out _ _).mono ?_); rintro e _ ⟨rfl, v1, rfl⟩)) | (go_at_call 79; ((with_reducible refine (KS.out _).mono ?_); rintro e _ ⟨rfl, v1, rfl⟩)) | (go_at_call 80; ((with_reducible refine (KL.out _).mono ?_); rintro e _ ⟨_, rfl, ⟨_, rfl, ⟨ad2, cp2, rfl, hI3, hcp3⟩⟩, v1, rfl⟩; have HI3 := Lib.hid hI3; clear hI3 hcp3)) | (go_at_call 81; ((with_reducible refine (KF.out _).mono ?_); rintro e _ ⟨rfl, v1, rfl⟩)) | (go_at_call 24; ((with_reducible refine (HO1.out _ _ _ _).mono ?_); rintro e _ ⟨rfl, v1, rfl⟩)) | (go_at_call 24; ((with_reducible refine (HO3.out _ _ _ _).mono ?_); rintro e _ ⟨rfl, v1, rfl⟩)) | (go_at_call 45; ((refine (HL.out _ _ _).mono ?_); rintro e _ ⟨rfl, v1, rfl⟩)))
  go_ret
  exact Ret.of (HV.out v1) rfl

set_option maxRecDepth 100000 in
set_option maxHeartbeats 40000000 in
theorem law_sw_c3 {B : Nat} {W : World} (u : Later B W) (m Bb : Nat) (x z : Int) (i : Nat) (L : List Nat) (a : Option Addr) (cap : Nat) (h : IntsAt B W a (ints L)) (hlen : (ints L).length ≤ 4611686018427387904) (he : MatIs (m : Int) (ints L) 0) (hm : m ≤ 8) (hTN : toN (ints L) = L) (hx : x ∉ ints L) (hB : Bb ∈ L) (hB8 : Bb < 256) (hi : i < m) (hbi : Bb.testBit i = true) :
    Calls Try.prog 12 #[.agg #[.int .i64 m, .slice a (ints L).length cap], .int .i64 x, .int .i64 Bb, .int .i64 z, .int .i64 i] u.val (Ret B W (.bool true)) := by
  have hlt := he.zero.1.1
  have hex := he.zero.2
  have hf8 := he.zero.1.fam8
  rw [show toN (ints L) = L from hTN] at hf8 hex
  have h256 : ∀ b, b ∈ L → b < 256 := hf8.lt
  have hbm : ∀ b, b ∈ L → b < bit m := fun b hb => by
    have := fam_lt hlt b (by rw [hTN]; exact hb)
    simpa using this
  have T0 : Hid (Two (u.val.alloc (.cells #[.int .i64 m, .slice a (ints L).length cap] 60)) u.val.heap.size 60 (.int .i64 m) (.slice a (ints L).length cap)) := Lib.hid (Two.new _ _ _ _)
  have hI : IntsAt (u.val.alloc (.cells #[.int .i64 m, .slice a (ints L).length cap] 60)).heap.size (u.val.alloc (.cells #[.int .i64 m, .slice a (ints L).length cap] 60)) a (ints L) := h.to (u.alloc _)
  have HV : Hid (∀ v : Later (u.val.alloc (.cells #[.int .i64 m, .slice a (ints L).length cap] 60)).heap.size (u.val.alloc (.cells #[.int .i64 m, .slice a (ints L).length cap] 60)), ∃ w : Later B W, w.val = v.val) := Lib.hid (fun v => ⟨(u.alloc _).up v, rfl⟩)
  have q0 : ∀ w : Later (u.val.alloc (.cells #[.int .i64 m, .slice a (ints L).length cap] 60)).heap.size (u.val.alloc (.cells #[.int .i64 m, .slice a (ints L).length cap] 60)), w.val.cell? ⟨u.val.heap.size, 0, none⟩ = some (.int .i64 m) := fun w => (T0.out.keep w.below).c0
  have q1 : ∀ w : Later (u.val.alloc (.cells #[.int .i64 m, .slice a (ints L).length cap] 60)).heap.size (u.val.alloc (.cells #[.int .i64 m, .slice a (ints L).length cap] 60)), w.val.cell? ⟨u.val.heap.size, 1, none⟩ = some (.slice a (ints L).length cap) := fun w => (T0.out.keep w.below).c1
  generalize hW1 : (u.val.alloc (.cells #[.int .i64 m, .slice a (ints L).length cap] 60)) = W1 at *
  generalize hgu : u.val.heap.size = gu at *
  have hlenL : L.length ≤ 4611686018427387904 := by rw [ints_len] at hlen; exact hlen
  have KM0 : Hid (Calls Try.prog 74 #[.agg #[.int .i64 m, .slice a (ints L).length cap]] W1 (Ret W1.heap.size W1 (.int .i64 0))) := Lib.hid (c_refMatroid (Later.self W1) m (ints L) a cap 0 hI hlen he)
  have p0 : W1.cell? ⟨gu, 0, none⟩ = some (.int .i64 m) := q0 (Later.self W1)
  have p1 : W1.cell? ⟨gu, 1, none⟩ = some (.slice a (ints L).length cap) := q1 (Later.self W1)
  have KH : Hid (∀ (v : Later W1.heap.size W1) (z : Int) (d : Bool), decide (z ∈ ints L) = d → Calls Try.prog 75 #[.slice a (ints L).length cap, .int .i64 z] v.val (Ret W1.heap.size W1 (.bool d))) := Lib.hid (fun v z d hd => by
    have := c_has v (ints L) z a cap hI (by omega)
    rwa [hd] at this)
  have KBt := Lib.hid (fun (v : Later W1.heap.size W1) (e : Int) => (show Calls Try.prog 14 #[.bool true, .int .i64 e] v.val (Ret W1.heap.size W1 (.int .i64 0)) from c_bad v true e))
  have KBf := Lib.hid (fun (v : Later W1.heap.size W1) (e : Int) => (show Calls Try.prog 14 #[.bool false, .int .i64 e] v.val (Ret W1.heap.size W1 (.int .i64 e)) from c_bad v false e))
  have ht : twoE (ints L) 0 x Bb = 1 := by unfold twoE; rw [if_pos rfl, if_neg (fun h => hx h.1)]
  have KS := Lib.hid (fun v : Later W1.heap.size W1 => c_swap_no v m x Bb z (ints L) a cap 0 hI hlen he (by rw [ht]; decide))
  have KL := Lib.hid (fun v : Later W1.heap.size W1 => c_ladder_no v m x Bb (ints L) a cap 0 hI hlen he (by rw [ht]; decide))
  have KF := Lib.hid (fun v : Later W1.heap.size W1 => c_fund_bad v m Bb i L a cap hI hlen he hm hB hB8 (.inr (.inr (by simpa using hbi))))
  rw [ht] at KS KL
  have HOk := Lib.hid (fun (B : Nat) (W : World) (u : Later B W) (y : Int) => c_one_ok u y)
  have HO3 := Lib.hid (fun (B : Nat) (W : World) (u : Later B W) (y : Int) => c_one_err u y 3 (by decide))
  have HO1 := Lib.hid (fun (B : Nat) (W : World) (u : Later B W) (y : Int) => c_one_err u y 1 (by decide))
  have HO5 := Lib.hid (fun (B : Nat) (W : World) (u : Later B W) (y : Int) => c_one_err u y 5 (by decide))
  have HL := Lib.hid (fun (v : Later W1.heap.size W1) (ad : Option Addr) (cp : Nat) => c_list v [] [] ad none cp 0 1 1 IntsAt.nil IntsAt.nil (by simp) rfl (by rw [if_neg (by decide)]))
  have KHx := Lib.hid (fun v => KH.out v x false (by simp [hx]))
  have KHy := Lib.hid (fun v => KH.out v Bb true (by simp [mem_ints, hB]))
  have i0 : decide ((0 : Int) ≤ (i : Int)) = true := decide_eq_true (by omega)
  have i2 : decide ((i : Int) < (m : Int)) = true := decide_eq_true (by omega)
  have i3 : decide (i < m) = true := decide_eq_true hi
  have KIn := Lib.hid (fun v : Later W1.heap.size W1 => c_in v Bb i (by omega) (by omega))
  rw [hbi] at KIn
  clear h hI he ht T0 KH hx hlt hex hf8 h256 hbm
  subst hW1
  subst hgu
  go_enter Try.func12, Try.ntmps12
  go_wp2_with (first | (go_at_call 74; ((with_reducible refine (KM0.out).mono ?_); rintro e _ ⟨rfl, v1, rfl⟩)) | (go_at_call 75; ((with_reducible refine (KHx.out _).mono ?_); rintro e _ ⟨rfl, v1, rfl⟩)) | (go_at_call 75; ((with_reducible refine (KHy.out _).mono ?_); rintro e _ ⟨rfl, v1, rfl⟩)) | (go_at_call 14; ((with_reducible refine (KBf.out _ _).mono ?_); rintro e _ ⟨rfl, v1, rfl⟩)) | (go_at_call 14; ((with_reducible refine (KBt.out _ _).mono ?_); rintro e _ ⟨rfl, v1, rfl⟩)) | (go_at_call 21; ((with_reducible refine (KIn.out _).mono ?_); rintro e _ ⟨rfl, v1, rfl⟩)) | (go_at_call 79; ((with_reducible refine (KS.out _).mono ?_); rintro e _ ⟨rfl, v1, rfl⟩)) | (go_at_call 80; ((with_reducible refine (KL.out _).mono ?_); rintro e _ ⟨_, rfl, ⟨_, rfl, ⟨ad2, cp2, rfl, hI3, hcp3⟩⟩, v1, rfl⟩; have HI3 := Lib.hid hI3; clear hI3 hcp3)) | (go_at_call 81; ((with_reducible refine (KF.out _).mono ?_); rintro e _ ⟨rfl, v1, rfl⟩)) | (go_at_call 24; ((with_reducible refine (HO1.out _ _ _ _).mono ?_); rintro e _ ⟨rfl, v1, rfl⟩)) | (go_at_call 24; ((with_reducible refine (HO3.out _ _ _ _).mono ?_); rintro e _ ⟨rfl, v1, rfl⟩)) | (go_at_call 45; ((refine (HL.out _ _ _).mono ?_); rintro e _ ⟨rfl, v1, rfl⟩)))
  go_ret
  exact Ret.of (HV.out v1) rfl

set_option maxRecDepth 100000 in
set_option maxHeartbeats 40000000 in
theorem law_sw_c4 {B : Nat} {W : World} (u : Later B W) (m Bb : Nat) (x z : Int) (i F : Nat) (L : List Nat) (a : Option Addr) (cap : Nat) (h : IntsAt B W a (ints L)) (hlen : (ints L).length ≤ 4611686018427387904) (he : MatIs (m : Int) (ints L) 0) (hm : m ≤ 8) (hTN : toN (ints L) = L) (hx : x ∉ ints L) (hB : Bb ∈ L) (hB8 : Bb < 256) (hi : i < m) (hbi : Bb.testBit i = false) (hF : FundIs L Bb i F) :
    Calls Try.prog 12 #[.agg #[.int .i64 m, .slice a (ints L).length cap], .int .i64 x, .int .i64 Bb, .int .i64 z, .int .i64 i] u.val (Ret B W (.bool true)) := by
  have hlt := he.zero.1.1
  have hex := he.zero.2
  have hf8 := he.zero.1.fam8
  rw [show toN (ints L) = L from hTN] at hf8 hex
  have h256 : ∀ b, b ∈ L → b < 256 := hf8.lt
  have hbm : ∀ b, b ∈ L → b < bit m := fun b hb => by
    have := fam_lt hlt b (by rw [hTN]; exact hb)
    simpa using this
  have T0 : Hid (Two (u.val.alloc (.cells #[.int .i64 m, .slice a (ints L).length cap] 60)) u.val.heap.size 60 (.int .i64 m) (.slice a (ints L).length cap)) := Lib.hid (Two.new _ _ _ _)
  have hI : IntsAt (u.val.alloc (.cells #[.int .i64 m, .slice a (ints L).length cap] 60)).heap.size (u.val.alloc (.cells #[.int .i64 m, .slice a (ints L).length cap] 60)) a (ints L) := h.to (u.alloc _)
  have HV : Hid (∀ v : Later (u.val.alloc (.cells #[.int .i64 m, .slice a (ints L).length cap] 60)).heap.size (u.val.alloc (.cells #[.int .i64 m, .slice a (ints L).length cap] 60)), ∃ w : Later B W, w.val = v.val) := Lib.hid (fun v => ⟨(u.alloc _).up v, rfl⟩)
  have q0 : ∀ w : Later (u.val.alloc (.cells #[.int .i64 m, .slice a (ints L).length cap] 60)).heap.size (u.val.alloc (.cells #[.int .i64 m, .slice a (ints L).length cap] 60)), w.val.cell? ⟨u.val.heap.size, 0, none⟩ = some (.int .i64 m) := fun w => (T0.out.keep w.below).c0
  have q1 : ∀ w : Later (u.val.alloc (.cells #[.int .i64 m, .slice a (ints L).length cap] 60)).heap.size (u.val.alloc (.cells #[.int .i64 m, .slice a (ints L).length cap] 60)), w.val.cell? ⟨u.val.heap.size, 1, none⟩ = some (.slice a (ints L).length cap) := fun w => (T0.out.keep w.below).c1
  generalize hW1 : (u.val.alloc (.cells #[.int .i64 m, .slice a (ints L).length cap] 60)) = W1 at *
  generalize hgu : u.val.heap.size = gu at *
  have hlenL : L.length ≤ 4611686018427387904 := by rw [ints_len] at hlen; exact hlen
  have KM0 : Hid (Calls Try.prog 74 #[.agg #[.int .i64 m, .slice a (ints L).length cap]] W1 (Ret W1.heap.size W1 (.int .i64 0))) := Lib.hid (c_refMatroid (Later.self W1) m (ints L) a cap 0 hI hlen he)
  have p0 : W1.cell? ⟨gu, 0, none⟩ = some (.int .i64 m) := q0 (Later.self W1)
  have p1 : W1.cell? ⟨gu, 1, none⟩ = some (.slice a (ints L).length cap) := q1 (Later.self W1)
  have KH : Hid (∀ (v : Later W1.heap.size W1) (z : Int) (d : Bool), decide (z ∈ ints L) = d → Calls Try.prog 75 #[.slice a (ints L).length cap, .int .i64 z] v.val (Ret W1.heap.size W1 (.bool d))) := Lib.hid (fun v z d hd => by
    have := c_has v (ints L) z a cap hI (by omega)
    rwa [hd] at this)
  have KBt := Lib.hid (fun (v : Later W1.heap.size W1) (e : Int) => (show Calls Try.prog 14 #[.bool true, .int .i64 e] v.val (Ret W1.heap.size W1 (.int .i64 0)) from c_bad v true e))
  have KBf := Lib.hid (fun (v : Later W1.heap.size W1) (e : Int) => (show Calls Try.prog 14 #[.bool false, .int .i64 e] v.val (Ret W1.heap.size W1 (.int .i64 e)) from c_bad v false e))
  have ht : twoE (ints L) 0 x Bb = 1 := by unfold twoE; rw [if_pos rfl, if_neg (fun h => hx h.1)]
  have KS := Lib.hid (fun v : Later W1.heap.size W1 => c_swap_no v m x Bb z (ints L) a cap 0 hI hlen he (by rw [ht]; decide))
  have KL := Lib.hid (fun v : Later W1.heap.size W1 => c_ladder_no v m x Bb (ints L) a cap 0 hI hlen he (by rw [ht]; decide))
  have KF := Lib.hid (fun v : Later W1.heap.size W1 => c_fund v m Bb i F L a cap hI hlen he hm hB hB8 hi hbi hF)
  rw [ht] at KS KL
  have HOk := Lib.hid (fun (B : Nat) (W : World) (u : Later B W) (y : Int) => c_one_ok u y)
  have HO3 := Lib.hid (fun (B : Nat) (W : World) (u : Later B W) (y : Int) => c_one_err u y 3 (by decide))
  have HO1 := Lib.hid (fun (B : Nat) (W : World) (u : Later B W) (y : Int) => c_one_err u y 1 (by decide))
  have HO5 := Lib.hid (fun (B : Nat) (W : World) (u : Later B W) (y : Int) => c_one_err u y 5 (by decide))
  have HL := Lib.hid (fun (v : Later W1.heap.size W1) (ad : Option Addr) (cp : Nat) => c_list v [] [] ad none cp 0 1 1 IntsAt.nil IntsAt.nil (by simp) rfl (by rw [if_neg (by decide)]))
  have KHx := Lib.hid (fun v => KH.out v x false (by simp [hx]))
  have KHy := Lib.hid (fun v => KH.out v Bb true (by simp [mem_ints, hB]))
  have i0 : decide ((0 : Int) ≤ (i : Int)) = true := decide_eq_true (by omega)
  have i2 : decide ((i : Int) < (m : Int)) = true := decide_eq_true (by omega)
  have i3 : decide (i < m) = true := decide_eq_true hi
  have KIn := Lib.hid (fun v : Later W1.heap.size W1 => c_in v Bb i (by omega) (by omega))
  rw [hbi] at KIn
  have KR := Lib.hid (fun v : Later W1.heap.size W1 => c_ring v m hm L h256 hlenL a cap Bb i F hB8 (by omega) hI (ring_is hm hf8 hbm hex hB hi hbi hF))
  clear h hI he ht T0 KH hx hlt hex hf8 h256 hbm
  subst hW1
  subst hgu
  go_enter Try.func12, Try.ntmps12
  go_wp2_with (first | (go_at_call 74; ((with_reducible refine (KM0.out).mono ?_); rintro e _ ⟨rfl, v1, rfl⟩)) | (go_at_call 75; ((with_reducible refine (KHx.out _).mono ?_); rintro e _ ⟨rfl, v1, rfl⟩)) | (go_at_call 75; ((with_reducible refine (KHy.out _).mono ?_); rintro e _ ⟨rfl, v1, rfl⟩)) | (go_at_call 14; ((with_reducible refine (KBf.out _ _).mono ?_); rintro e _ ⟨rfl, v1, rfl⟩)) | (go_at_call 14; ((with_reducible refine (KBt.out _ _).mono ?_); rintro e _ ⟨rfl, v1, rfl⟩)) | (go_at_call 21; ((with_reducible refine (KIn.out _).mono ?_); rintro e _ ⟨rfl, v1, rfl⟩)) | (go_at_call 78; ((with_reducible refine (KR.out _).mono ?_); rintro e _ ⟨rfl, v1, rfl⟩)) | (go_at_call 79; ((with_reducible refine (KS.out _).mono ?_); rintro e _ ⟨rfl, v1, rfl⟩)) | (go_at_call 80; ((with_reducible refine (KL.out _).mono ?_); rintro e _ ⟨_, rfl, ⟨_, rfl, ⟨ad2, cp2, rfl, hI3, hcp3⟩⟩, v1, rfl⟩; have HI3 := Lib.hid hI3; clear hI3 hcp3)) | (go_at_call 81; ((with_reducible refine (KF.out _).mono ?_); rintro e _ ⟨rfl, v1, rfl⟩)) | (go_at_call 24; ((with_reducible refine (HO1.out _ _ _ _).mono ?_); rintro e _ ⟨rfl, v1, rfl⟩)) | (go_at_call 24; ((with_reducible refine (HOk.out _ _ _ _).mono ?_); rintro e _ ⟨rfl, v1, rfl⟩)) | (go_at_call 45; ((refine (HL.out _ _ _).mono ?_); rintro e _ ⟨rfl, v1, rfl⟩)))
  go_ret
  exact Ret.of (HV.out v1) rfl

end Go.Proofs.Ytcljgnmlpfddiaa
