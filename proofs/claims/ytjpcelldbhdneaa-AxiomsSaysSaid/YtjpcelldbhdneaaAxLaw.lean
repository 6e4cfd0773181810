
/-
  rotalaw.AxiomsSays: of what is no matroid, and of a matroid.
-/
import Derived.Test.YtjpcelldbhdneaaAxAll
import Derived.Test.YtjpcelldbhdneaaAxClo
import Derived.Test.YtjpcelldbhdneaaAxCloR
import Derived.Test.YtjpcelldbhdneaaAxRef
import Derived.Test.YtjpcelldbhdneaaThread
import Derived.Test.YtjpcelldbhdneaaOnes
namespace Go.Proofs.Ytjpcelldbhdneaa
open Go.RowKit
set_option linter.unusedVariables false

set_option maxRecDepth 100000 in
set_option maxHeartbeats 8000000 in
theorem law_ax_no {B : Nat} {W : World} (u : Later B W) (n s : Int) (l : List Int) (a : Option Addr) (cap : Nat) (e : Int) (h : IntsAt B W a l) (hlen : l.length ≤ 4611686018427387904) (he : MatIs n l e) (h0 : e ≠ 0) :
    Calls Try.prog 3 #[.agg #[.int .i64 n, .slice a l.length cap], .int .i64 s] u.val (Ret B W (.bool true)) := by
  have T0 : Hid (Two (u.val.alloc (.cells #[.int .i64 n, .slice a l.length cap] 24)) u.val.heap.size 24 (.int .i64 n) (.slice a l.length cap)) := Lib.hid (Two.new _ _ _ _)
  have hrr : u.val.heap.size < (u.val.alloc (.cells #[.int .i64 n, .slice a l.length cap] 24)).heap.size := by simp
  have hI : IntsAt (u.val.alloc (.cells #[.int .i64 n, .slice a l.length cap] 24)).heap.size (u.val.alloc (.cells #[.int .i64 n, .slice a l.length cap] 24)) a l := h.to (u.alloc _)
  have HV : Hid (∀ v : Later (u.val.alloc (.cells #[.int .i64 n, .slice a l.length cap] 24)).heap.size (u.val.alloc (.cells #[.int .i64 n, .slice a l.length cap] 24)), ∃ w : Later B W, w.val = v.val) := Lib.hid (fun v => ⟨(u.alloc _).up v, rfl⟩)
  have q0 : ∀ w : Later (u.val.alloc (.cells #[.int .i64 n, .slice a l.length cap] 24)).heap.size (u.val.alloc (.cells #[.int .i64 n, .slice a l.length cap] 24)), w.val.cell? ⟨u.val.heap.size, 0, none⟩ = some (.int .i64 n) := fun w => (T0.out.keep w.below).c0
  have q1 : ∀ w : Later (u.val.alloc (.cells #[.int .i64 n, .slice a l.length cap] 24)).heap.size (u.val.alloc (.cells #[.int .i64 n, .slice a l.length cap] 24)), w.val.cell? ⟨u.val.heap.size, 1, none⟩ = some (.slice a l.length cap) := fun w => (T0.out.keep w.below).c1
  have p0 : (u.val.alloc (.cells #[.int .i64 n, .slice a l.length cap] 24)).cell? ⟨u.val.heap.size, 0, none⟩ = some (.int .i64 n) := T0.out.c0
  have p1 : (u.val.alloc (.cells #[.int .i64 n, .slice a l.length cap] 24)).cell? ⟨u.val.heap.size, 1, none⟩ = some (.slice a l.length cap) := T0.out.c1
  have KM : Hid (Calls Try.prog 13 #[.agg #[.int .i64 n, .slice a l.length cap]] (u.val.alloc (.cells #[.int .i64 n, .slice a l.length cap] 24)) (Ret (u.val.alloc (.cells #[.int .i64 n, .slice a l.length cap] 24)).heap.size (u.val.alloc (.cells #[.int .i64 n, .slice a l.length cap] 24)) (.int .i64 e))) := Lib.hid (c_refMatroid (Later.self _) n l a cap e hI hlen he)
  have K1 := Lib.hid (fun v : Later (u.val.alloc (.cells #[.int .i64 n, .slice a l.length cap] 24)).heap.size (u.val.alloc (.cells #[.int .i64 n, .slice a l.length cap] 24)) => c_axInd_no v n l a cap e hI hlen he h0)
  have K2 := Lib.hid (fun v : Later (u.val.alloc (.cells #[.int .i64 n, .slice a l.length cap] 24)).heap.size (u.val.alloc (.cells #[.int .i64 n, .slice a l.length cap] 24)) => c_axCirc_no v n l a cap e hI hlen he h0)
  have K3 := Lib.hid (fun v : Later (u.val.alloc (.cells #[.int .i64 n, .slice a l.length cap] 24)).heap.size (u.val.alloc (.cells #[.int .i64 n, .slice a l.length cap] 24)) => c_axRanks_no v n l a cap e hI hlen he h0)
  have K4 := Lib.hid (fun v : Later (u.val.alloc (.cells #[.int .i64 n, .slice a l.length cap] 24)).heap.size (u.val.alloc (.cells #[.int .i64 n, .slice a l.length cap] 24)) => c_axFlats_no v n l a cap e hI hlen he h0)
  have K5 := Lib.hid (fun v : Later (u.val.alloc (.cells #[.int .i64 n, .slice a l.length cap] 24)).heap.size (u.val.alloc (.cells #[.int .i64 n, .slice a l.length cap] 24)) => c_axHyp_no v n l a cap e hI hlen he h0)
  have K6 := Lib.hid (fun v : Later (u.val.alloc (.cells #[.int .i64 n, .slice a l.length cap] 24)).heap.size (u.val.alloc (.cells #[.int .i64 n, .slice a l.length cap] 24)) => c_axClosure_no v n s l a cap e hI hlen he h0)
  have K7 := Lib.hid (fun v : Later (u.val.alloc (.cells #[.int .i64 n, .slice a l.length cap] 24)).heap.size (u.val.alloc (.cells #[.int .i64 n, .slice a l.length cap] 24)) => c_axCheck v n l a cap e hI hlen he)
  have KL := Lib.hid (fun (v : Later (u.val.alloc (.cells #[.int .i64 n, .slice a l.length cap] 24)).heap.size (u.val.alloc (.cells #[.int .i64 n, .slice a l.length cap] 24))) x cx => c_list_no v e h0 x cx)
  have KO := Lib.hid (fun (v : Later (u.val.alloc (.cells #[.int .i64 n, .slice a l.length cap] 24)).heap.size (u.val.alloc (.cells #[.int .i64 n, .slice a l.length cap] 24))) y => c_one_no v y e h0)
  have d0 : (e == 0) = false := by rw [beq_eq_false_iff_ne]; exact h0
  clear h hI he h0
  go_enter Try.func3, Try.ntmps3
  go_wp2_with (first | (go_at_call 13; (with_reducible refine (KM.out).mono ?_); rintro e _ ⟨rfl, v1, rfl⟩) | (go_at_call 22; (with_reducible refine (K1.out _).mono ?_); rintro e _ ⟨_, rfl, ⟨_, rfl, ⟨ad1, cp1, rfl, hI1, hcp1⟩⟩, v1, rfl⟩) | (go_at_call 23; (with_reducible refine (K2.out _).mono ?_); rintro e _ ⟨_, rfl, ⟨_, rfl, ⟨ad1, cp1, rfl, hI1, hcp1⟩⟩, v1, rfl⟩) | (go_at_call 24; (with_reducible refine (K3.out _).mono ?_); rintro e _ ⟨_, rfl, ⟨_, rfl, ⟨ad1, cp1, rfl, hI1, hcp1⟩⟩, v1, rfl⟩) | (go_at_call 25; (with_reducible refine (K4.out _).mono ?_); rintro e _ ⟨_, rfl, ⟨_, rfl, ⟨ad1, cp1, rfl, hI1, hcp1⟩⟩, v1, rfl⟩) | (go_at_call 26; (with_reducible refine (K5.out _).mono ?_); rintro e _ ⟨_, rfl, ⟨_, rfl, ⟨ad1, cp1, rfl, hI1, hcp1⟩⟩, v1, rfl⟩) | (go_at_call 27; (with_reducible refine (K6.out _).mono ?_); rintro e _ ⟨rfl, v1, rfl⟩) | (go_at_call 28; (with_reducible refine (K7.out _).mono ?_); rintro e _ ⟨rfl, v1, rfl⟩) | (go_at_call 29; (with_reducible refine (KL.out _ _ _).mono ?_); rintro e _ ⟨rfl, v1, rfl⟩) | (go_at_call 30; (with_reducible refine (KO.out _ _).mono ?_); rintro e _ ⟨rfl, v1, rfl⟩))
  go_ret
  exact Ret.of (HV.out v1) rfl

set_option maxRecDepth 100000 in
set_option maxHeartbeats 20000000 in
theorem law_ax_yes {B : Nat} {W : World} (u : Later B W) (m : Nat) (hm : m ≤ 8) (s : Int) (L : List Nat) (a : Option Addr) (cap : Nat) (h : IntsAt B W a (ints L)) (hlen : (ints L).length ≤ 4611686018427387904) (he : MatIs (m : Int) (ints L) 0) (hTN : toN (ints L) = L)
    (b : Bool) (x e2 : Int) (hb1 : e2 = errno b 1) (hb2 : b = false → x = 0)
    (hS : ∀ (B : Nat) (W : World) (v : Later B W), Calls Try.prog 20 #[.int .i64 m, .int .i64 s] v.val (Ret B W (.bool b)))
    (hC : b = true → ∀ (B : Nat) (W : World) (v : Later B W), IntsAt B W a (ints L) → Calls Try.prog 21 #[.agg #[.int .i64 m, .slice a (ints L).length cap], .int .i64 s] v.val (Ret B W (.int .i64 x)))
    (hP : ∀ (B : Nat) (W : World) (v : Later B W), IntsAt B W a (ints L) → Calls Try.prog 27 #[.agg #[.int .i64 m, .slice a (ints L).length cap], .int .i64 s] v.val (Ret B W (.tuple #[.int .i64 x, .int .i64 e2]))) :
    Calls Try.prog 3 #[.agg #[.int .i64 m, .slice a (ints L).length cap], .int .i64 s] u.val (Ret B W (.bool true)) := by
  have hbm := bit_le m hm
  have hz := he.zero
  have hfam : isFam (m : Int) (ints L) := hz.1.1
  have hne : L ≠ [] := by rintro rfl; exact hz.1.2.1 rfl
  have hF : Fam8 L (sz (L.getD 0 0)) := by have := hz.1.fam8; rwa [hTN] at this
  have hE : Exch L := by have := hz.2; rwa [hTN] at this
  have hlt : ∀ b, b ∈ L → b < bit m := by have := fam_lt hfam; rw [hTN] at this; simpa using this
  have h256 : ∀ b, b ∈ L → b < 256 := fun b hb => by have := hlt b hb; omega
  have hlen2 : L.length ≤ 4611686018427387904 := by rw [ints_len] at hlen; exact hlen
  have e1 := ind_same hm hne
  have e2' := circ_same hm hne
  have e4 := flat_same hm hne hF hE
  have e5 := hyp_same hm hne hF hlt
  have hl : ∀ p : Nat → Bool, (ints (those m p)).length ≤ 4611686018427387904 := fun p => by
    rw [ints_len]
    have := thoseTo_len p (bit m)
    have e : those m p = thoseTo p (bit m) := rfl
    rw [e]; omega
  have hb1' := hl (indP L)
  have hb2' := hl (circP L)
  have hb4' := hl (flatP m L)
  have hb5' := hl (hypP m L)
  have hb3' : (rkL m L).length ≤ 4611686018427387904 := by unfold rkL; rw [tabL_len]; omega
  have T0 : Hid (Two (u.val.alloc (.cells #[.int .i64 m, .slice a (ints L).length cap] 24)) u.val.heap.size 24 (.int .i64 m) (.slice a (ints L).length cap)) := Lib.hid (Two.new _ _ _ _)
  have hrr : u.val.heap.size < (u.val.alloc (.cells #[.int .i64 m, .slice a (ints L).length cap] 24)).heap.size := by simp
  have hI : IntsAt (u.val.alloc (.cells #[.int .i64 m, .slice a (ints L).length cap] 24)).heap.size (u.val.alloc (.cells #[.int .i64 m, .slice a (ints L).length cap] 24)) a (ints L) := h.to (u.alloc _)
  have HV : Hid (∀ v : Later (u.val.alloc (.cells #[.int .i64 m, .slice a (ints L).length cap] 24)).heap.size (u.val.alloc (.cells #[.int .i64 m, .slice a (ints L).length cap] 24)), ∃ w : Later B W, w.val = v.val) := Lib.hid (fun v => ⟨(u.alloc _).up v, rfl⟩)
  have q0 : ∀ w : Later (u.val.alloc (.cells #[.int .i64 m, .slice a (ints L).length cap] 24)).heap.size (u.val.alloc (.cells #[.int .i64 m, .slice a (ints L).length cap] 24)), w.val.cell? ⟨u.val.heap.size, 0, none⟩ = some (.int .i64 m) := fun w => (T0.out.keep w.below).c0
  have q1 : ∀ w : Later (u.val.alloc (.cells #[.int .i64 m, .slice a (ints L).length cap] 24)).heap.size (u.val.alloc (.cells #[.int .i64 m, .slice a (ints L).length cap] 24)), w.val.cell? ⟨u.val.heap.size, 1, none⟩ = some (.slice a (ints L).length cap) := fun w => (T0.out.keep w.below).c1
  have p0 : (u.val.alloc (.cells #[.int .i64 m, .slice a (ints L).length cap] 24)).cell? ⟨u.val.heap.size, 0, none⟩ = some (.int .i64 m) := T0.out.c0
  have p1 : (u.val.alloc (.cells #[.int .i64 m, .slice a (ints L).length cap] 24)).cell? ⟨u.val.heap.size, 1, none⟩ = some (.slice a (ints L).length cap) := T0.out.c1
  have KM : Hid (Calls Try.prog 13 #[.agg #[.int .i64 m, .slice a (ints L).length cap]] (u.val.alloc (.cells #[.int .i64 m, .slice a (ints L).length cap] 24)) (Ret (u.val.alloc (.cells #[.int .i64 m, .slice a (ints L).length cap] 24)).heap.size (u.val.alloc (.cells #[.int .i64 m, .slice a (ints L).length cap] 24)) (.int .i64 0))) := Lib.hid (c_refMatroid (Later.self _) m (ints L) a cap 0 hI hlen he)
  go_enter Try.func3, Try.ntmps3
  go_upto_region 5 with (first | (go_at_call 13; ((with_reducible refine (KM.out).mono ?_); rintro e _ ⟨rfl, v1, rfl⟩)))
  have hIV : IntsAt v1.val.heap.size v1.val a (ints L) := hI.to v1
  have r0 : ∀ w : Later v1.val.heap.size v1.val, w.val.cell? ⟨u.val.heap.size, 0, none⟩ = some (.int .i64 m) := fun w => q0 (v1.up w)
  have r1 : ∀ w : Later v1.val.heap.size v1.val, w.val.cell? ⟨u.val.heap.size, 1, none⟩ = some (.slice a (ints L).length cap) := fun w => q1 (v1.up w)
  have HVB : Hid (∀ v : Later v1.val.heap.size v1.val, ∃ w : Later B W, w.val = v.val) := Lib.hid (fun v => HV.out (v1.up v))
  clear KM q0 q1 p0 p1 HV T0 hrr hI h
  generalize u.val.heap.size = gu at *
  generalize v1.val = V at *

  have K1 : Hid (∀ v : Later V.heap.size V, Calls Try.prog 14 #[.agg #[.int .i64 m, .slice a (ints L).length cap]] v.val (RetInts v.val.heap.size v.val (ints (those m (indP L))))) := Lib.hid (fun v => by rw [e1]; exact c_free (Later.self v.val) m hm L h256 hlen2 a cap (hIV.to v))
  have K2 : Hid (∀ v : Later V.heap.size V, Calls Try.prog 15 #[.agg #[.int .i64 m, .slice a (ints L).length cap]] v.val (RetInts v.val.heap.size v.val (ints (those m (circP L))))) := Lib.hid (fun v => by rw [e2']; exact c_circuits (Later.self v.val) m hm L h256 hlen2 a cap (hIV.to v))
  have K3 : Hid (∀ v : Later V.heap.size V, Calls Try.prog 16 #[.agg #[.int .i64 m, .slice a (ints L).length cap]] v.val (RetInts v.val.heap.size v.val (rkL m L))) := Lib.hid (fun v => (c_refRanks (Later.self v.val) m hm (ints L) a cap (hIV.to v) hlen hfam).mono fun e w h => by
    obtain ⟨v, h1, ⟨g, c, h2, hT⟩, u', h3⟩ := h
    rw [hTN] at hT
    have hr := hT.reads (cap := c)
    exact ⟨v, h1, by rw [h2]; exact hr, u', h3⟩)
  have K4 : Hid (∀ v : Later V.heap.size V, Calls Try.prog 17 #[.agg #[.int .i64 m, .slice a (ints L).length cap]] v.val (RetInts v.val.heap.size v.val (ints (those m (flatP m L))))) := Lib.hid (fun v => by rw [e4]; exact c_refFlats (Later.self v.val) m hm L h256 hlen2 a cap (hIV.to v))
  have K5 : Hid (∀ v : Later V.heap.size V, Calls Try.prog 18 #[.agg #[.int .i64 m, .slice a (ints L).length cap]] v.val (RetInts v.val.heap.size v.val (ints (those m (hypP m L))))) := Lib.hid (fun v => by rw [e5]; exact c_refHyper (Later.self v.val) m hm L h256 hlen2 a cap (hIV.to v))
  have P1 : Hid (∀ v : Later V.heap.size V, Calls Try.prog 22 #[.agg #[.int .i64 m, .slice a (ints L).length cap]] v.val (RetP v.val.heap.size v.val (ListE (ints (those m (indP L))) 0))) := Lib.hid (fun v => by have := c_axInd (Later.self v.val) m hm (ints L) a cap (hIV.to v) hlen he; rw [hTN] at this; exact this)
  have P2 : Hid (∀ v : Later V.heap.size V, Calls Try.prog 23 #[.agg #[.int .i64 m, .slice a (ints L).length cap]] v.val (RetP v.val.heap.size v.val (ListE (ints (those m (circP L))) 0))) := Lib.hid (fun v => by have := c_axCirc (Later.self v.val) m hm (ints L) a cap (hIV.to v) hlen he; rw [hTN] at this; exact this)
  have P3 : Hid (∀ v : Later V.heap.size V, Calls Try.prog 24 #[.agg #[.int .i64 m, .slice a (ints L).length cap]] v.val (RetP v.val.heap.size v.val (ListE (rkL m L) 0))) := Lib.hid (fun v => by have := c_axRanksE (Later.self v.val) m hm (ints L) a cap (hIV.to v) hlen he; rw [hTN] at this; exact this)
  have P4 : Hid (∀ v : Later V.heap.size V, Calls Try.prog 25 #[.agg #[.int .i64 m, .slice a (ints L).length cap]] v.val (RetP v.val.heap.size v.val (ListE (ints (those m (flatP m L))) 0))) := Lib.hid (fun v => by have := c_axFlats (Later.self v.val) m hm (ints L) a cap (hIV.to v) hlen he; rw [hTN] at this; exact this)
  have P5 : Hid (∀ v : Later V.heap.size V, Calls Try.prog 26 #[.agg #[.int .i64 m, .slice a (ints L).length cap]] v.val (RetP v.val.heap.size v.val (ListE (ints (those m (hypP m L))) 0))) := Lib.hid (fun v => by have := c_axHyp (Later.self v.val) m hm (ints L) a cap (hIV.to v) hlen he; rw [hTN] at this; exact this)
  have KC : Hid (∀ v : Later V.heap.size V, Calls Try.prog 28 #[.agg #[.int .i64 m, .slice a (ints L).length cap]] v.val (Ret v.val.heap.size v.val (.int .i64 0))) := Lib.hid (fun v => c_axCheck (Later.self v.val) m (ints L) a cap 0 (hIV.to v) hlen he)
  have KS : Hid (∀ v : Later V.heap.size V, Calls Try.prog 20 #[.int .i64 m, .int .i64 s] v.val (Ret v.val.heap.size v.val (.bool b))) := Lib.hid (fun v => hS _ _ (Later.self v.val))
  have KB : Hid (∀ v : Later V.heap.size V, Calls Try.prog 19 #[.bool b, .int .i64 1] v.val (Ret v.val.heap.size v.val (.int .i64 e2))) := Lib.hid (fun v => by rw [hb1]; exact c_bad (Later.self v.val) b 1)
  have KR : Hid (b = true → ∀ v : Later V.heap.size V, Calls Try.prog 21 #[.agg #[.int .i64 m, .slice a (ints L).length cap], .int .i64 s] v.val (Ret v.val.heap.size v.val (.int .i64 x))) := Lib.hid (fun hb v => hC hb _ _ (Later.self v.val) (hIV.to v))
  have KP : Hid (∀ v : Later V.heap.size V, Calls Try.prog 27 #[.agg #[.int .i64 m, .slice a (ints L).length cap], .int .i64 s] v.val (Ret v.val.heap.size v.val (.tuple #[.int .i64 x, .int .i64 e2]))) := Lib.hid (fun v => hP _ _ (Later.self v.val) (hIV.to v))
  have KN : Hid (∀ (v : Later V.heap.size V) (y : Int), Calls Try.prog 30 #[.int .i64 0, .int .i64 1, .int .i64 y, .int .i64 1] v.val (Ret v.val.heap.size v.val (.bool true))) := Lib.hid (fun v y => c_one_no (Later.self v.val) y 1 (by decide))
  have KY : Hid (∀ (v : Later V.heap.size V) (y : Int), Calls Try.prog 30 #[.int .i64 y, .int .i64 0, .int .i64 y, .int .i64 0] v.val (Ret v.val.heap.size v.val (.bool true))) := Lib.hid (fun v y => c_one_yes (Later.self v.val) y)
  clear he hz hfam hne hF hE hlt h256 hlen2 e1 e2' e4 e5 hl hS hC hP hIV hTN hlen
  generalize ints (those m (indP L)) = A1 at *
  generalize ints (those m (circP L)) = A2 at *
  generalize rkL m L = A3 at *
  generalize ints (those m (flatP m L)) = A4 at *
  generalize ints (those m (hypP m L)) = A5 at *
  generalize (ints L).length = len at *
  have K1d : Hid (Calls Try.prog 14 #[.agg #[.int .i64 m, .slice a len cap]] V.drew (ThreadL V.heap.size V A1 [])) := Lib.hid (threadL (Later.self V).drew (K1.out (Later.self V).drew) (Lists.nil _))
  have s0 : V.drew.cell? ⟨gu, 0, none⟩ = some (.int .i64 m) ∧ V.drew.cell? ⟨gu, 1, none⟩ = some (.slice a len cap) := ⟨r0 (Later.self V).drew, r1 (Later.self V).drew⟩
  go_region_held3 (fun w' => w'.cell? ⟨gu, 0, none⟩ = some (.int .i64 m) ∧ w'.cell? ⟨gu, 1, none⟩ = some (.slice a len cap)) (first | exact s0 | exact ⟨r0 v, r1 v⟩) (first | (go_at_call 14; (with_reducible refine (K1d.out).mono ?_); rintro e _ ⟨v, ad, cp, rfl, rfl, hl⟩) | (go_at_call 15; (with_reducible refine (threadL v (K2.out v) hl).mono ?_); rintro e _ ⟨v, ad, cp, rfl, rfl, hl⟩) | (go_at_call 16; (with_reducible refine (threadL v (K3.out v) hl).mono ?_); rintro e _ ⟨v, ad, cp, rfl, rfl, hl⟩) | (go_at_call 17; (with_reducible refine (threadL v (K4.out v) hl).mono ?_); rintro e _ ⟨v, ad, cp, rfl, rfl, hl⟩) | (go_at_call 18; (with_reducible refine (threadL v (K5.out v) hl).mono ?_); rintro e _ ⟨v, ad, cp, rfl, rfl, hl⟩))
  clear K1d s0 K1 K2 K3 K4 K5
  cases b
  · have hx := hb2 rfl
    subst hx
    have he2 : e2 = 1 := hb1
    subst he2
    clear hb1 hb2 KR
    go_wp2_with (first | (go_at_call 20; (with_reducible refine (thread0 v (KS.out v) hl).mono ?_); rintro e _ ⟨v, rfl, rfl, hl⟩) | (go_at_call 19; (with_reducible refine (thread0 v (KB.out v) hl).mono ?_); rintro e _ ⟨v, rfl, rfl, hl⟩) | (go_at_call 22; (with_reducible refine (threadE v (P1.out v) hl).mono ?_); rintro e _ ⟨v, ad, cp, rfl, rfl, hl⟩) | (go_at_call 23; (with_reducible refine (threadE v (P2.out v) hl).mono ?_); rintro e _ ⟨v, ad, cp, rfl, rfl, hl⟩) | (go_at_call 24; (with_reducible refine (threadE v (P3.out v) hl).mono ?_); rintro e _ ⟨v, ad, cp, rfl, rfl, hl⟩) | (go_at_call 25; (with_reducible refine (threadE v (P4.out v) hl).mono ?_); rintro e _ ⟨v, ad, cp, rfl, rfl, hl⟩) | (go_at_call 26; (with_reducible refine (threadE v (P5.out v) hl).mono ?_); rintro e _ ⟨v, ad, cp, rfl, rfl, hl⟩) | (go_at_call 27; (with_reducible refine (thread0 v (KP.out v) hl).mono ?_); rintro e _ ⟨v, rfl, rfl, hl⟩) | (go_at_call 28; (with_reducible refine (thread0 v (KC.out v) hl).mono ?_); rintro e _ ⟨v, rfl, rfl, hl⟩) | (go_at_call 29; (with_reducible refine (thread_list v _ _ _ _ _ hl (by simp) (by simp) (by assumption)).mono ?_); rintro e _ ⟨v, rfl, rfl, hl⟩) | (go_at_call 30; (with_reducible refine (thread0 v (KN.out v _) hl).mono ?_); rintro e _ ⟨v, rfl, rfl, hl⟩))
    go_ret
    exact Ret.of (HVB.out v) rfl
  · have he2 : e2 = 0 := hb1
    subst he2
    have KR2 := Lib.hid (KR.out rfl)
    clear hb1 hb2 KR
    go_wp2_with (first | (go_at_call 20; (with_reducible refine (thread0 v (KS.out v) hl).mono ?_); rintro e _ ⟨v, rfl, rfl, hl⟩) | (go_at_call 19; (with_reducible refine (thread0 v (KB.out v) hl).mono ?_); rintro e _ ⟨v, rfl, rfl, hl⟩) | (go_at_call 21; (with_reducible refine (thread0 v (KR2.out v) hl).mono ?_); rintro e _ ⟨v, rfl, rfl, hl⟩) | (go_at_call 22; (with_reducible refine (threadE v (P1.out v) hl).mono ?_); rintro e _ ⟨v, ad, cp, rfl, rfl, hl⟩) | (go_at_call 23; (with_reducible refine (threadE v (P2.out v) hl).mono ?_); rintro e _ ⟨v, ad, cp, rfl, rfl, hl⟩) | (go_at_call 24; (with_reducible refine (threadE v (P3.out v) hl).mono ?_); rintro e _ ⟨v, ad, cp, rfl, rfl, hl⟩) | (go_at_call 25; (with_reducible refine (threadE v (P4.out v) hl).mono ?_); rintro e _ ⟨v, ad, cp, rfl, rfl, hl⟩) | (go_at_call 26; (with_reducible refine (threadE v (P5.out v) hl).mono ?_); rintro e _ ⟨v, ad, cp, rfl, rfl, hl⟩) | (go_at_call 27; (with_reducible refine (thread0 v (KP.out v) hl).mono ?_); rintro e _ ⟨v, rfl, rfl, hl⟩) | (go_at_call 28; (with_reducible refine (thread0 v (KC.out v) hl).mono ?_); rintro e _ ⟨v, rfl, rfl, hl⟩) | (go_at_call 29; (with_reducible refine (thread_list v _ _ _ _ _ hl (by simp) (by simp) (by assumption)).mono ?_); rintro e _ ⟨v, rfl, rfl, hl⟩) | (go_at_call 30; (with_reducible refine (thread0 v (KY.out v _) hl).mono ?_); rintro e _ ⟨v, rfl, rfl, hl⟩))
    go_ret
    exact Ret.of (HVB.out v) rfl

end Go.Proofs.Ytjpcelldbhdneaa
