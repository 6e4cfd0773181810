
/-
  rotalaw.FlatsLattice.
-/
import Derived.Test.YtjpcelldbhdneaaLatD
import Derived.Test.YtjpcelldbhdneaaLatE
import Derived.Test.YtjpcelldbhdneaaThread
import Derived.Test.YtjpcelldbhdneaaOnes
import Derived.Test.YtjpcelldbhdneaaMatOpen
import Derived.Test.YtjpcelldbhdneaaAxRef
namespace Go.Proofs.Ytjpcelldbhdneaa
open Go.RowKit
set_option linter.unusedVariables false

theorem mem_intsE {l : List Nat} {x : Int} (h : x ∈ ints l) : ∃ n, n ∈ l ∧ x = (n : Int) := by
  obtain ⟨n, h1, h2⟩ := List.mem_map.1 h
  exact ⟨n, h1, h2.symm⟩
theorem lists_at {w : World} {ls : List (Option Addr × List Int)} (h : Lists w ls) {a : Option Addr} {xs : List Int} (hm : (a, xs) ∈ ls) : IntsAt w.heap.size w a xs := h _ hm
theorem modTo_step {F L : List Nat} {f k : Nat} (hk : k < F.length) : modTo F L f (k + 1) = (modTo F L f k && decide (rk L f + rk L (F.getD k 0) = rk L (f ||| F.getD k 0) + rk L (f &&& F.getD k 0))) := by
  unfold modTo
  rw [List.take_add_one, List.getElem?_eq_getElem hk, List.all_append]
  have : F.getD k 0 = F[k] := by simp [hk]
  rw [this]
  simp
theorem circ_nz {m : Nat} {L : List Nat} {i : Nat} (hi : i < (those m (circP L)).length) : (those m (circP L)).getD i 0 ≠ 0 := fun e => by
  obtain ⟨_, g2⟩ := those_at hi
  have := (circP_iff.1 g2).1
  rw [e, rk_nil] at this
  exact absurd this (by decide)
theorem flats_top {m : Nat} {L : List Nat} (hn : 0 < (those m (flatP m L)).length) : (those m (flatP m L)).getD ((those m (flatP m L)).length - 1) 0 = bit m - 1 := by
  have hb : 0 < bit m := Nat.pos_of_ne_zero (by unfold bit; exact Nat.ne_of_gt (Nat.two_pow_pos m))
  obtain ⟨j, hj, e⟩ := those_ix (m := m) (p := flatP m L) (x := bit m - 1) (by omega) (flatP_iff.2 (all_flat m L))
  by_cases c : j = (those m (flatP m L)).length - 1
  · rw [← c, e]
  · have h1 := those_rise (p := flatP m L) (m := m) (i := j) (j := (those m (flatP m L)).length - 1) (by omega) (by omega)
    have h2 := (those_at (m := m) (p := flatP m L) (j := (those m (flatP m L)).length - 1) (by omega)).1
    omega

set_option maxRecDepth 100000 in
set_option maxHeartbeats 8000000 in
theorem law_lat_no {B : Nat} {W : World} (u : Later B W) (n f : Int) (l : List Int) (a : Option Addr) (cap : Nat) (e : Int) (h : IntsAt B W a l) (hlen : l.length ≤ 4611686018427387904) (he : MatIs n l e) (h0 : e ≠ 0) :
    Calls Try.prog 8 #[.agg #[.int .i64 n, .slice a l.length cap], .int .i64 f] u.val (Ret B W (.bool true)) := by
  have T0 : Hid (Two (u.val.alloc (.cells #[.int .i64 n, .slice a l.length cap] 24)) u.val.heap.size 24 (.int .i64 n) (.slice a l.length cap)) := Lib.hid (Two.new _ _ _ _)
  have hrr : u.val.heap.size < (u.val.alloc (.cells #[.int .i64 n, .slice a l.length cap] 24)).heap.size := by simp
  have hI : IntsAt (u.val.alloc (.cells #[.int .i64 n, .slice a l.length cap] 24)).heap.size (u.val.alloc (.cells #[.int .i64 n, .slice a l.length cap] 24)) a l := h.to (u.alloc _)
  have HV : Hid (∀ v : Later (u.val.alloc (.cells #[.int .i64 n, .slice a l.length cap] 24)).heap.size (u.val.alloc (.cells #[.int .i64 n, .slice a l.length cap] 24)), ∃ w : Later B W, w.val = v.val) := Lib.hid (fun v => ⟨(u.alloc _).up v, rfl⟩)
  have q0 : ∀ w : Later (u.val.alloc (.cells #[.int .i64 n, .slice a l.length cap] 24)).heap.size (u.val.alloc (.cells #[.int .i64 n, .slice a l.length cap] 24)), w.val.cell? ⟨u.val.heap.size, 0, none⟩ = some (.int .i64 n) := fun w => (T0.out.keep w.below).c0
  have q1 : ∀ w : Later (u.val.alloc (.cells #[.int .i64 n, .slice a l.length cap] 24)).heap.size (u.val.alloc (.cells #[.int .i64 n, .slice a l.length cap] 24)), w.val.cell? ⟨u.val.heap.size, 1, none⟩ = some (.slice a l.length cap) := fun w => (T0.out.keep w.below).c1
  have p0 : (u.val.alloc (.cells #[.int .i64 n, .slice a l.length cap] 24)).cell? ⟨u.val.heap.size, 0, none⟩ = some (.int .i64 n) := T0.out.c0
  have p1 : (u.val.alloc (.cells #[.int .i64 n, .slice a l.length cap] 24)).cell? ⟨u.val.heap.size, 1, none⟩ = some (.slice a l.length cap) := T0.out.c1
  have KM : Hid (Calls Try.prog 13 #[.agg #[.int .i64 n, .slice a l.length cap]] (u.val.alloc (.cells #[.int .i64 n, .slice a l.length cap] 24)) (Ret (u.val.alloc (.cells #[.int .i64 n, .slice a l.length cap] 24)).heap.size (u.val.alloc (.cells #[.int .i64 n, .slice a l.length cap] 24)) (.int .i64 e))) := Lib.hid (c_refMatroid (Later.self _) n l a cap e hI hlen he)
  have K1 := Lib.hid (fun v : Later (u.val.alloc (.cells #[.int .i64 n, .slice a l.length cap] 24)).heap.size (u.val.alloc (.cells #[.int .i64 n, .slice a l.length cap] 24)) => c_flBroken_no v n l a cap e hI hlen he h0)
  have K2 := Lib.hid (fun v : Later (u.val.alloc (.cells #[.int .i64 n, .slice a l.length cap] 24)).heap.size (u.val.alloc (.cells #[.int .i64 n, .slice a l.length cap] 24)) => c_flCovers_no v n f l a cap e hI hlen he h0)
  have K3 := Lib.hid (fun v : Later (u.val.alloc (.cells #[.int .i64 n, .slice a l.length cap] 24)).heap.size (u.val.alloc (.cells #[.int .i64 n, .slice a l.length cap] 24)) => c_flChains_no v n l a cap e hI hlen he h0)
  have K4 := Lib.hid (fun v : Later (u.val.alloc (.cells #[.int .i64 n, .slice a l.length cap] 24)).heap.size (u.val.alloc (.cells #[.int .i64 n, .slice a l.length cap] 24)) => c_flModular_no v n f l a cap e hI hlen he h0)
  have KL := Lib.hid (fun (v : Later (u.val.alloc (.cells #[.int .i64 n, .slice a l.length cap] 24)).heap.size (u.val.alloc (.cells #[.int .i64 n, .slice a l.length cap] 24))) x cx => c_list_no v e h0 x cx)
  have KO := Lib.hid (fun (v : Later (u.val.alloc (.cells #[.int .i64 n, .slice a l.length cap] 24)).heap.size (u.val.alloc (.cells #[.int .i64 n, .slice a l.length cap] 24))) y => c_one_no v y e h0)
  have KY := Lib.hid (fun (v : Later (u.val.alloc (.cells #[.int .i64 n, .slice a l.length cap] 24)).heap.size (u.val.alloc (.cells #[.int .i64 n, .slice a l.length cap] 24))) y => c_yes_no v y e h0)
  have d0 : (e == 0) = false := by rw [beq_eq_false_iff_ne]; exact h0
  clear h hI he h0
  go_enter Try.func8, Try.ntmps8
  go_wp2_with (first | (go_at_call 13; (with_reducible refine (KM.out).mono ?_); rintro e _ ⟨rfl, v1, rfl⟩) | (go_at_call 77; (with_reducible refine (K1.out _).mono ?_); rintro e _ ⟨_, rfl, ⟨_, rfl, ⟨ad1, cp1, rfl, hI1, hcp1⟩⟩, v1, rfl⟩) | (go_at_call 78; (with_reducible refine (K2.out _).mono ?_); rintro e _ ⟨_, rfl, ⟨_, rfl, ⟨ad1, cp1, rfl, hI1, hcp1⟩⟩, v1, rfl⟩) | (go_at_call 79; (with_reducible refine (K3.out _).mono ?_); rintro e _ ⟨rfl, v1, rfl⟩) | (go_at_call 80; (with_reducible refine (K4.out _).mono ?_); rintro e _ ⟨rfl, v1, rfl⟩) | (go_at_call 29; (with_reducible refine (KL.out _ _ _).mono ?_); rintro e _ ⟨rfl, v1, rfl⟩) | (go_at_call 30; (with_reducible refine (KO.out _ _).mono ?_); rintro e _ ⟨rfl, v1, rfl⟩) | (go_at_call 81; (with_reducible refine (KY.out _ _).mono ?_); rintro e _ ⟨rfl, v1, rfl⟩))
  go_ret
  exact Ret.of (HV.out v1) rfl

set_option maxRecDepth 100000 in
set_option maxHeartbeats 20000000 in
theorem law_lat_out {B : Nat} {W : World} (u : Later B W) (m : Nat) (hm : m ≤ 8) (L : List Nat) (a : Option Addr) (cap : Nat) (h : IntsAt B W a (ints L)) (hlen : (ints L).length ≤ 4611686018427387904) (he : MatIs (m : Int) (ints L) 0) (hTN : toN (ints L) = L) (f : Int) (hf : f ∉ ints (those m (flatP m L))) :
    Calls Try.prog 8 #[.agg #[.int .i64 m, .slice a (ints L).length cap], .int .i64 f] u.val (Ret B W (.bool true)) := by
  have hbm := bit_le m hm
  have hM := IsMat.of he hTN
  have h256 : ∀ b, b ∈ L → b < 256 := fun b hb => by have := hM.lt b hb; omega
  have hlen2 : L.length ≤ 4611686018427387904 := by rw [ints_len] at hlen; exact hlen
  have e2 := circ_same hm hM.ne
  have e4 := flat_same hm hM.ne hM.fam hM.exch
  have hR : ∀ s, s < bit m → rk L s ≤ rk L (bit m - 1) := fun s hs => rk_mono hM.ne (fun i hi => by
    rw [testBit_all]
    have := lt_m_of_testBit hs hi
    simpa using this)
  have hz := flats_zero hm hM.ne hM.fam hM.exch
  have hn := flats_ne hm hM.ne hM.fam hM.exch
  have hrk : rk L (clo m L 0) = 0 := by rw [rk_clo hm hM.ne hM.fam hM.exch (by omega), rk_nil]
  have hC0 : ∀ i, i < (those m (circP L)).length → (those m (circP L)).getD i 0 ≠ 0 := fun i hi => circ_nz hi
  have hUp := up_is hm hM.ne hM.fam hM.exch hR
  have hlast := flats_top hn
  have hUD := up_dn hm hM.ne hM.fam hM.exch hR
  have hFlen : (ints (those m (flatP m L))).length ≤ 256 := by rw [ints_len]; have := thoseTo_len (flatP m L) (bit m); have e : those m (flatP m L) = thoseTo (flatP m L) (bit m) := rfl; rw [e]; omega
  have hUlen : (ints (those m (brokP (those m (circP L))))).length ≤ 4611686018427387904 := by rw [ints_len]; have := thoseTo_len (brokP (those m (circP L))) (bit m); have e : those m (brokP (those m (circP L))) = thoseTo (brokP (those m (circP L))) (bit m) := rfl; rw [e]; omega
  have T0 : Hid (Two (u.val.alloc (.cells #[.int .i64 m, .slice a (ints L).length cap] 24)) u.val.heap.size 24 (.int .i64 m) (.slice a (ints L).length cap)) := Lib.hid (Two.new _ _ _ _)
  have hrr : u.val.heap.size < (u.val.alloc (.cells #[.int .i64 m, .slice a (ints L).length cap] 24)).heap.size := by simp
  have hI : IntsAt (u.val.alloc (.cells #[.int .i64 m, .slice a (ints L).length cap] 24)).heap.size (u.val.alloc (.cells #[.int .i64 m, .slice a (ints L).length cap] 24)) a (ints L) := h.to (u.alloc _)
  have HV : Hid (∀ v : Later (u.val.alloc (.cells #[.int .i64 m, .slice a (ints L).length cap] 24)).heap.size (u.val.alloc (.cells #[.int .i64 m, .slice a (ints L).length cap] 24)), ∃ w : Later B W, w.val = v.val) := Lib.hid (fun v => ⟨(u.alloc _).up v, rfl⟩)
  have q0 : ∀ w : Later (u.val.alloc (.cells #[.int .i64 m, .slice a (ints L).length cap] 24)).heap.size (u.val.alloc (.cells #[.int .i64 m, .slice a (ints L).length cap] 24)), w.val.cell? ⟨u.val.heap.size, 0, none⟩ = some (.int .i64 m) := fun w => (T0.out.keep w.below).c0
  have q1 : ∀ w : Later (u.val.alloc (.cells #[.int .i64 m, .slice a (ints L).length cap] 24)).heap.size (u.val.alloc (.cells #[.int .i64 m, .slice a (ints L).length cap] 24)), w.val.cell? ⟨u.val.heap.size, 1, none⟩ = some (.slice a (ints L).length cap) := fun w => (T0.out.keep w.below).c1
  have p0 : (u.val.alloc (.cells #[.int .i64 m, .slice a (ints L).length cap] 24)).cell? ⟨u.val.heap.size, 0, none⟩ = some (.int .i64 m) := T0.out.c0
  have p1 : (u.val.alloc (.cells #[.int .i64 m, .slice a (ints L).length cap] 24)).cell? ⟨u.val.heap.size, 1, none⟩ = some (.slice a (ints L).length cap) := T0.out.c1
  have KM : Hid (Calls Try.prog 13 #[.agg #[.int .i64 m, .slice a (ints L).length cap]] (u.val.alloc (.cells #[.int .i64 m, .slice a (ints L).length cap] 24)) (Ret (u.val.alloc (.cells #[.int .i64 m, .slice a (ints L).length cap] 24)).heap.size (u.val.alloc (.cells #[.int .i64 m, .slice a (ints L).length cap] 24)) (.int .i64 0))) := Lib.hid (c_refMatroid (Later.self _) m (ints L) a cap 0 hI hlen he)
  go_enter Try.func8, Try.ntmps8
  go_upto_region 7 with (first | (go_at_call 13; ((with_reducible refine (KM.out).mono ?_); rintro e _ ⟨rfl, v1, rfl⟩)))
  have hIV : IntsAt v1.val.heap.size v1.val a (ints L) := hI.to v1
  have r0 : ∀ w : Later v1.val.heap.size v1.val, w.val.cell? ⟨u.val.heap.size, 0, none⟩ = some (.int .i64 m) := fun w => q0 (v1.up w)
  have r1 : ∀ w : Later v1.val.heap.size v1.val, w.val.cell? ⟨u.val.heap.size, 1, none⟩ = some (.slice a (ints L).length cap) := fun w => q1 (v1.up w)
  have HVB : Hid (∀ v : Later v1.val.heap.size v1.val, ∃ w : Later B W, w.val = v.val) := Lib.hid (fun v => HV.out (v1.up v))
  clear KM q0 q1 p0 p1 HV T0 hrr hI h
  generalize u.val.heap.size = gu at *
  generalize v1.val = V at *
  have KU : Hid (∀ v : Later V.heap.size V, Calls Try.prog 74 #[.agg #[.int .i64 m, .slice a (ints L).length cap]] v.val (RetInts v.val.heap.size v.val (ints (those m (brokP (those m (circP L))))))) := Lib.hid (fun v => by rw [e2]; exact c_unbroken (Later.self v.val) m hm L h256 hlen2 a cap (hIV.to v) (by rw [← e2]; exact hC0))
  have KF : Hid (∀ v : Later V.heap.size V, Calls Try.prog 17 #[.agg #[.int .i64 m, .slice a (ints L).length cap]] v.val (RetInts v.val.heap.size v.val (ints (those m (flatP m L))))) := Lib.hid (fun v => by rw [e4]; exact c_refFlats (Later.self v.val) m hm L h256 hlen2 a cap (hIV.to v))
  have KC : Hid (∀ (B : Nat) (W : World) (w : Later B W), IntsAt B W a (ints L) → Calls Try.prog 75 #[.agg #[.int .i64 m, .slice a (ints L).length cap], .int .i64 (((those m (flatP m L)).getD 0 0 : Nat) : Int)] w.val (Ret B W (.int .i64 (dnF m L (rk L (bit m - 1)) (clo m L 0))))) := Lib.hid (fun B W w hI => by
    rw [hz]
    exact c_refChains m _ hm L hM.ne hM.fam hM.exch hlen2 a cap (rk L (bit m - 1)) B W w (clo m L 0) hI (clo_lt L (by omega)) (clo_flat hm hM.ne hM.fam hM.exch (by omega)) (by omega))
  have P1 : Hid (∀ v : Later V.heap.size V, Calls Try.prog 77 #[.agg #[.int .i64 m, .slice a (ints L).length cap]] v.val (RetP v.val.heap.size v.val (ListE (ints (those m (brokP (those m (circP L))))) 0))) := Lib.hid (fun v => by
    have := c_flBroken (Later.self v.val) m hm (ints L) a cap (hIV.to v) hlen he (by rw [hTN]; exact hC0)
    rw [hTN] at this; exact this)
  have P3 : Hid (∀ v : Later V.heap.size V, Calls Try.prog 79 #[.agg #[.int .i64 m, .slice a (ints L).length cap]] v.val (Ret v.val.heap.size v.val (.tuple #[.int .i64 (dnF m L (rk L (bit m - 1)) (clo m L 0)), .int .i64 0]))) := Lib.hid (fun v => by
    have := c_flChains (Later.self v.val) m hm (ints L) a cap (hIV.to v) hlen he (fun i => upF m L (rk L ((those m (flatP m L)).getD i 0)) ((those m (flatP m L)).getD i 0)) (by rw [hTN]; exact hUp) (by rw [hTN]; exact hn)
    rw [hTN] at this
    simp only [hlast] at this
    rw [hUD] at this
    exact this)
  have KO : Hid (∀ (v : Later V.heap.size V) (y : Int), Calls Try.prog 30 #[.int .i64 y, .int .i64 0, .int .i64 y, .int .i64 0] v.val (Ret v.val.heap.size v.val (.bool true))) := Lib.hid (fun v y => c_one_yes (Later.self v.val) y)
  have P2 : Hid (∀ v : Later V.heap.size V, Calls Try.prog 78 #[.agg #[.int .i64 m, .slice a (ints L).length cap], .int .i64 f] v.val (RetP v.val.heap.size v.val (ListE [] 1))) := Lib.hid (fun v => by
    exact c_flCovers_bad (Later.self v.val) m hm f (ints L) a cap (hIV.to v) hlen he (by rw [hTN]; exact hf))
  have P4 : Hid (∀ v : Later V.heap.size V, Calls Try.prog 80 #[.agg #[.int .i64 m, .slice a (ints L).length cap], .int .i64 f] v.val (Ret v.val.heap.size v.val (.tuple #[.bool false, .int .i64 1]))) := Lib.hid (fun v => by
    exact c_flModular_bad (Later.self v.val) m hm f (ints L) a cap (hIV.to v) hlen he (by rw [hTN]; exact hf))
  have KH : Hid (∀ (v : Later V.heap.size V) (ad : Option Addr) (cp : Nat), IntsAt v.val.heap.size v.val ad (ints (those m (flatP m L))) → Calls Try.prog 52 #[.slice ad (ints (those m (flatP m L))).length cp, .int .i64 f] v.val (Ret v.val.heap.size v.val (.bool false))) := Lib.hid (fun v ad cp hI => by
    have := c_has (Later.self v.val) (ints (those m (flatP m L))) f ad cp hI (by omega)
    rwa [decide_eq_false hf] at this)
  have KB : Hid (∀ v : Later V.heap.size V, Calls Try.prog 19 #[.bool false, .int .i64 1] v.val (Ret v.val.heap.size v.val (.int .i64 1))) := Lib.hid (fun v => c_bad (Later.self v.val) false 1)
  have KY : Hid (∀ v : Later V.heap.size V, Calls Try.prog 81 #[.bool false, .int .i64 1, .bool true, .int .i64 1] v.val (Ret v.val.heap.size v.val (.bool true))) := Lib.hid (fun v => c_yes_no (Later.self v.val) true 1 (by decide))
  have HIV := Lib.hid hIV
  clear he hM h256 hlen2 e2 e4 hR hz hrk hC0 hUp hlast hUD hTN hlen hf hIV
  generalize those m (brokP (those m (circP L))) = U at *
  generalize dnF m L (rk L (bit m - 1)) (clo m L 0) = N at *
  generalize those m (flatP m L) = F at *
  obtain ⟨lv, hlv⟩ : ∃ lv : Later V.heap.size V, lv.val = V := ⟨Later.self _, rfl⟩
  rw [← hlv]
  clear hlv
  have hl : Lists lv.val [] := Lists.nil _
  obtain ⟨v, hv⟩ : ∃ v : Later V.heap.size V, v = lv := ⟨_, rfl⟩
  rw [← hv] at hl ⊢
  clear hv lv
  go_upto_region 9 with (first | (go_at_call 74; (with_reducible refine (threadL v (KU.out v) hl).mono ?_); rintro e _ ⟨v, ad, cp, rfl, rfl, hl⟩) | (go_at_call 17; (with_reducible refine (threadL v (KF.out v) hl).mono ?_); rintro e _ ⟨v, adF, cpF, rfl, rfl, hl⟩))
  have hIF : IntsAt v.val.heap.size v.val adF (ints F) := hl _ (List.mem_cons_self)
  obtain ⟨b0, o0, rfl, hb0, hc0⟩ := hIF.at (k := 0) (by rw [ints_len]; exact hn)
  have c0 : ∀ w : Later v.val.heap.size v.val, w.val.cell? ⟨b0, o0, none⟩ = some (.int .i64 ((F.getD 0 0 : Nat) : Int)) := fun w => by
    have := hc0 w 0 (by rw [ints_len]; exact hn)
    rwa [ints_getD, Nat.add_zero] at this
  have t0 : ∀ w : Later v.val.heap.size v.val, w.val.cell? ⟨gu, 0, none⟩ = some (.int .i64 m) := fun w => r0 (v.up w)
  have t1 : ∀ w : Later v.val.heap.size v.val, w.val.cell? ⟨gu, 1, none⟩ = some (.slice a (ints L).length cap) := fun w => r1 (v.up w)
  have KC1 : Hid (∀ w : Later v.val.heap.size v.val, Calls Try.prog 75 #[.agg #[.int .i64 m, .slice a (ints L).length cap], .int .i64 ((F.getD 0 0 : Nat) : Int)] w.val (Ret v.val.heap.size v.val (.int .i64 N))) := Lib.hid (fun w => KC.out _ _ w (HIV.out.to v))
  have hn' : 0 < (ints F).length := by rw [ints_len]; exact hn
  clear KC hc0 hb0
  generalize F.getD 0 0 = f0 at *
  obtain ⟨w, hw⟩ : ∃ w : Later v.val.heap.size v.val, w.val = v.val := ⟨Later.self _, rfl⟩
  rw [← hw]
  clear hw
  refine wp_region_later w (by kernel_rfl) (by kernel_rfl) (fun _ => ?_)
  repeat (first | go_big_quiet_step (((go_at_call 75; exact KC1.out _))) | (refine wpQuiet_step (fun K hK => ?_); go_simp; refine ⟨_, fun _ => rfl, ?_⟩; refine hK _ ?_; clear hK K))
  refine wpQuiet_nil ?_
  intro w
  have hl1 := hl.later w
  obtain ⟨v2, hv2⟩ : ∃ v2 : Later V.heap.size V, v2.val = w.val := ⟨v.up w, rfl⟩
  rw [← hv2] at hl1 ⊢
  clear hv2 t0 t1 c0 KC1 hl hIF
  obtain ⟨v, hv⟩ : ∃ v : Later V.heap.size V, v = v2 := ⟨_, rfl⟩
  rw [← hv] at hl1 ⊢
  have hl := hl1
  clear hl1 hv v2
  have KL0 : Hid (∀ (v : Later V.heap.size V) (x : Option Addr) (cx : Nat), Calls Try.prog 29 #[.slice x 0 cx, .int .i64 1, .slice none 0 0, .int .i64 1] v.val (Ret v.val.heap.size v.val (.bool true))) := Lib.hid (fun v x cx => c_list_no (Later.self v.val) 1 (by decide) x cx)
  go_wp2_with (first | (go_at_call 52; (with_reducible refine (thread0 v (KH.out v _ _ (lists_at hl (by simp))) hl).mono ?_); rintro e _ ⟨v, rfl, rfl, hl⟩) | (go_at_call 19; (with_reducible refine (thread0 v (KB.out v) hl).mono ?_); rintro e _ ⟨v, rfl, rfl, hl⟩) | (go_at_call 77; (with_reducible refine (threadE v (P1.out v) hl).mono ?_); rintro e _ ⟨v, ad, cp, rfl, rfl, hl⟩) | (go_at_call 78; (with_reducible refine (threadE v (P2.out v) hl).mono ?_); rintro e _ ⟨v, ad, cp, rfl, rfl, hl⟩) | (go_at_call 79; (with_reducible refine (thread0 v (P3.out v) hl).mono ?_); rintro e _ ⟨v, rfl, rfl, hl⟩) | (go_at_call 80; (with_reducible refine (thread0 v (P4.out v) hl).mono ?_); rintro e _ ⟨v, rfl, rfl, hl⟩) | (go_at_call 29; (with_reducible refine (thread_list v _ _ _ _ _ hl (by simp) (by simp) (by assumption)).mono ?_); rintro e _ ⟨v, rfl, rfl, hl⟩) | (go_at_call 29; (with_reducible refine (thread0 v (KL0.out v _ _) hl).mono ?_); rintro e _ ⟨v, rfl, rfl, hl⟩) | (go_at_call 30; (with_reducible refine (thread0 v (KO.out v _) hl).mono ?_); rintro e _ ⟨v, rfl, rfl, hl⟩) | (go_at_call 81; (with_reducible refine (thread0 v (KY.out v) hl).mono ?_); rintro e _ ⟨v, rfl, rfl, hl⟩))
  go_ret
  exact Ret.of (HVB.out v) rfl

set_option maxRecDepth 100000 in
set_option maxHeartbeats 20000000 in
theorem law_lat_in {B : Nat} {W : World} (u : Later B W) (m : Nat) (hm : m ≤ 8) (L : List Nat) (a : Option Addr) (cap : Nat) (h : IntsAt B W a (ints L)) (hlen : (ints L).length ≤ 4611686018427387904) (he : MatIs (m : Int) (ints L) 0) (hTN : toN (ints L) = L) (f : Nat) (hf : f ∈ those m (flatP m L)) :
    Calls Try.prog 8 #[.agg #[.int .i64 m, .slice a (ints L).length cap], .int .i64 f] u.val (Ret B W (.bool true)) := by
  have hbm := bit_le m hm
  have hM := IsMat.of he hTN
  have h256 : ∀ b, b ∈ L → b < 256 := fun b hb => by have := hM.lt b hb; omega
  have hlen2 : L.length ≤ 4611686018427387904 := by rw [ints_len] at hlen; exact hlen
  have e2 := circ_same hm hM.ne
  have e4 := flat_same hm hM.ne hM.fam hM.exch
  have hR : ∀ s, s < bit m → rk L s ≤ rk L (bit m - 1) := fun s hs => rk_mono hM.ne (fun i hi => by
    rw [testBit_all]
    have := lt_m_of_testBit hs hi
    simpa using this)
  have hz := flats_zero hm hM.ne hM.fam hM.exch
  have hn := flats_ne hm hM.ne hM.fam hM.exch
  have hrk : rk L (clo m L 0) = 0 := by rw [rk_clo hm hM.ne hM.fam hM.exch (by omega), rk_nil]
  have hC0 : ∀ i, i < (those m (circP L)).length → (those m (circP L)).getD i 0 ≠ 0 := fun i hi => circ_nz hi
  have hUp := up_is hm hM.ne hM.fam hM.exch hR
  have hlast := flats_top hn
  have hUD := up_dn hm hM.ne hM.fam hM.exch hR
  have hFlen : (ints (those m (flatP m L))).length ≤ 256 := by rw [ints_len]; have := thoseTo_len (flatP m L) (bit m); have e : those m (flatP m L) = thoseTo (flatP m L) (bit m) := rfl; rw [e]; omega
  have hUlen : (ints (those m (brokP (those m (circP L))))).length ≤ 4611686018427387904 := by rw [ints_len]; have := thoseTo_len (brokP (those m (circP L))) (bit m); have e : those m (brokP (those m (circP L))) = thoseTo (brokP (those m (circP L))) (bit m) := rfl; rw [e]; omega
  have T0 : Hid (Two (u.val.alloc (.cells #[.int .i64 m, .slice a (ints L).length cap] 24)) u.val.heap.size 24 (.int .i64 m) (.slice a (ints L).length cap)) := Lib.hid (Two.new _ _ _ _)
  have hrr : u.val.heap.size < (u.val.alloc (.cells #[.int .i64 m, .slice a (ints L).length cap] 24)).heap.size := by simp
  have hI : IntsAt (u.val.alloc (.cells #[.int .i64 m, .slice a (ints L).length cap] 24)).heap.size (u.val.alloc (.cells #[.int .i64 m, .slice a (ints L).length cap] 24)) a (ints L) := h.to (u.alloc _)
  have HV : Hid (∀ v : Later (u.val.alloc (.cells #[.int .i64 m, .slice a (ints L).length cap] 24)).heap.size (u.val.alloc (.cells #[.int .i64 m, .slice a (ints L).length cap] 24)), ∃ w : Later B W, w.val = v.val) := Lib.hid (fun v => ⟨(u.alloc _).up v, rfl⟩)
  have q0 : ∀ w : Later (u.val.alloc (.cells #[.int .i64 m, .slice a (ints L).length cap] 24)).heap.size (u.val.alloc (.cells #[.int .i64 m, .slice a (ints L).length cap] 24)), w.val.cell? ⟨u.val.heap.size, 0, none⟩ = some (.int .i64 m) := fun w => (T0.out.keep w.below).c0
  have q1 : ∀ w : Later (u.val.alloc (.cells #[.int .i64 m, .slice a (ints L).length cap] 24)).heap.size (u.val.alloc (.cells #[.int .i64 m, .slice a (ints L).length cap] 24)), w.val.cell? ⟨u.val.heap.size, 1, none⟩ = some (.slice a (ints L).length cap) := fun w => (T0.out.keep w.below).c1
  have p0 : (u.val.alloc (.cells #[.int .i64 m, .slice a (ints L).length cap] 24)).cell? ⟨u.val.heap.size, 0, none⟩ = some (.int .i64 m) := T0.out.c0
  have p1 : (u.val.alloc (.cells #[.int .i64 m, .slice a (ints L).length cap] 24)).cell? ⟨u.val.heap.size, 1, none⟩ = some (.slice a (ints L).length cap) := T0.out.c1
  have KM : Hid (Calls Try.prog 13 #[.agg #[.int .i64 m, .slice a (ints L).length cap]] (u.val.alloc (.cells #[.int .i64 m, .slice a (ints L).length cap] 24)) (Ret (u.val.alloc (.cells #[.int .i64 m, .slice a (ints L).length cap] 24)).heap.size (u.val.alloc (.cells #[.int .i64 m, .slice a (ints L).length cap] 24)) (.int .i64 0))) := Lib.hid (c_refMatroid (Later.self _) m (ints L) a cap 0 hI hlen he)
  go_enter Try.func8, Try.ntmps8
  go_upto_region 7 with (first | (go_at_call 13; ((with_reducible refine (KM.out).mono ?_); rintro e _ ⟨rfl, v1, rfl⟩)))
  have hIV : IntsAt v1.val.heap.size v1.val a (ints L) := hI.to v1
  have r0 : ∀ w : Later v1.val.heap.size v1.val, w.val.cell? ⟨u.val.heap.size, 0, none⟩ = some (.int .i64 m) := fun w => q0 (v1.up w)
  have r1 : ∀ w : Later v1.val.heap.size v1.val, w.val.cell? ⟨u.val.heap.size, 1, none⟩ = some (.slice a (ints L).length cap) := fun w => q1 (v1.up w)
  have HVB : Hid (∀ v : Later v1.val.heap.size v1.val, ∃ w : Later B W, w.val = v.val) := Lib.hid (fun v => HV.out (v1.up v))
  clear KM q0 q1 p0 p1 HV T0 hrr hI h
  generalize u.val.heap.size = gu at *
  generalize v1.val = V at *
  have KU : Hid (∀ v : Later V.heap.size V, Calls Try.prog 74 #[.agg #[.int .i64 m, .slice a (ints L).length cap]] v.val (RetInts v.val.heap.size v.val (ints (those m (brokP (those m (circP L))))))) := Lib.hid (fun v => by rw [e2]; exact c_unbroken (Later.self v.val) m hm L h256 hlen2 a cap (hIV.to v) (by rw [← e2]; exact hC0))
  have KF : Hid (∀ v : Later V.heap.size V, Calls Try.prog 17 #[.agg #[.int .i64 m, .slice a (ints L).length cap]] v.val (RetInts v.val.heap.size v.val (ints (those m (flatP m L))))) := Lib.hid (fun v => by rw [e4]; exact c_refFlats (Later.self v.val) m hm L h256 hlen2 a cap (hIV.to v))
  have KC : Hid (∀ (B : Nat) (W : World) (w : Later B W), IntsAt B W a (ints L) → Calls Try.prog 75 #[.agg #[.int .i64 m, .slice a (ints L).length cap], .int .i64 (((those m (flatP m L)).getD 0 0 : Nat) : Int)] w.val (Ret B W (.int .i64 (dnF m L (rk L (bit m - 1)) (clo m L 0))))) := Lib.hid (fun B W w hI => by
    rw [hz]
    exact c_refChains m _ hm L hM.ne hM.fam hM.exch hlen2 a cap (rk L (bit m - 1)) B W w (clo m L 0) hI (clo_lt L (by omega)) (clo_flat hm hM.ne hM.fam hM.exch (by omega)) (by omega))
  have P1 : Hid (∀ v : Later V.heap.size V, Calls Try.prog 77 #[.agg #[.int .i64 m, .slice a (ints L).length cap]] v.val (RetP v.val.heap.size v.val (ListE (ints (those m (brokP (those m (circP L))))) 0))) := Lib.hid (fun v => by
    have := c_flBroken (Later.self v.val) m hm (ints L) a cap (hIV.to v) hlen he (by rw [hTN]; exact hC0)
    rw [hTN] at this; exact this)
  have P3 : Hid (∀ v : Later V.heap.size V, Calls Try.prog 79 #[.agg #[.int .i64 m, .slice a (ints L).length cap]] v.val (Ret v.val.heap.size v.val (.tuple #[.int .i64 (dnF m L (rk L (bit m - 1)) (clo m L 0)), .int .i64 0]))) := Lib.hid (fun v => by
    have := c_flChains (Later.self v.val) m hm (ints L) a cap (hIV.to v) hlen he (fun i => upF m L (rk L ((those m (flatP m L)).getD i 0)) ((those m (flatP m L)).getD i 0)) (by rw [hTN]; exact hUp) (by rw [hTN]; exact hn)
    rw [hTN] at this
    simp only [hlast] at this
    rw [hUD] at this
    exact this)
  have KO : Hid (∀ (v : Later V.heap.size V) (y : Int), Calls Try.prog 30 #[.int .i64 y, .int .i64 0, .int .i64 y, .int .i64 0] v.val (Ret v.val.heap.size v.val (.bool true))) := Lib.hid (fun v y => c_one_yes (Later.self v.val) y)
  have hfm := mem_those.1 hf
  have P2 : Hid (∀ v : Later V.heap.size V, Calls Try.prog 78 #[.agg #[.int .i64 m, .slice a (ints L).length cap], .int .i64 f] v.val (RetP v.val.heap.size v.val (ListE (ints (those m (covP m L f))) 0))) := Lib.hid (fun v => by
    have := c_flCovers (Later.self v.val) m hm f (ints L) a cap (hIV.to v) hlen he (by rw [hTN]; exact hf)
    rw [hTN] at this; exact this)
  have P4 : Hid (∀ v : Later V.heap.size V, Calls Try.prog 80 #[.agg #[.int .i64 m, .slice a (ints L).length cap], .int .i64 f] v.val (Ret v.val.heap.size v.val (.tuple #[.bool (modTo (those m (flatP m L)) L f (those m (flatP m L)).length), .int .i64 0]))) := Lib.hid (fun v => by
    have := c_flModular (Later.self v.val) m hm f (ints L) a cap (hIV.to v) hlen he (by rw [hTN]; exact hf)
    rw [hTN] at this; exact this)
  have KH : Hid (∀ (v : Later V.heap.size V) (ad : Option Addr) (cp : Nat), IntsAt v.val.heap.size v.val ad (ints (those m (flatP m L))) → Calls Try.prog 52 #[.slice ad (ints (those m (flatP m L))).length cp, .int .i64 f] v.val (Ret v.val.heap.size v.val (.bool true))) := Lib.hid (fun v ad cp hI => by
    have := c_has (Later.self v.val) (ints (those m (flatP m L))) (f : Int) ad cp hI (by omega)
    rwa [decide_eq_true (mem_ints.2 hf)] at this)
  have KB : Hid (∀ v : Later V.heap.size V, Calls Try.prog 19 #[.bool true, .int .i64 1] v.val (Ret v.val.heap.size v.val (.int .i64 0))) := Lib.hid (fun v => c_bad (Later.self v.val) true 1)
  have KY : Hid (∀ (v : Later V.heap.size V) (b : Bool), Calls Try.prog 81 #[.bool b, .int .i64 0, .bool b, .int .i64 0] v.val (Ret v.val.heap.size v.val (.bool true))) := Lib.hid (fun v b => c_yes (Later.self v.val) b)
  have KA : Hid (∀ v : Later V.heap.size V, Calls Try.prog 76 #[.agg #[.int .i64 m, .slice a (ints L).length cap], .int .i64 f] v.val (RetInts v.val.heap.size v.val (ints (those m (covP m L f))))) := Lib.hid (fun v => by
    rw [← above_same hm hM.ne hM.fam hM.exch hfm.1 (flatP_iff.1 hfm.2)]
    exact (c_above (Later.self v.val) m _ hm f L hM.ne hM.fam hM.exch hlen2 a cap (hIV.to v) hfm.1).mono fun e w h => h.ints)
  have KR : Hid (∀ v : Later V.heap.size V, Calls Try.prog 16 #[.agg #[.int .i64 m, .slice a (ints L).length cap]] v.val (RetP v.val.heap.size v.val (fun v w => ∃ g c, v = .slice (some ⟨g, 0, none⟩) (bit m) c ∧ ITab w g (bit m) (fun j => (rk L j : Int))))) := Lib.hid (fun v => by
    have := c_refRanks (Later.self v.val) m hm (ints L) a cap (hIV.to v) hlen hM.isfam
    rw [hTN] at this; exact this)
  have hAlen : (ints (those m (covP m L f))).length ≤ 4611686018427387904 := by rw [ints_len]; have := thoseTo_len (covP m L f) (bit m); have e : those m (covP m L f) = thoseTo (covP m L f) (bit m) := rfl; rw [e]; omega
  have HF8 : Hid (∀ i, i < (those m (flatP m L)).length → (those m (flatP m L)).getD i 0 < bit m) := Lib.hid (fun i hi => (those_at hi).1)
  have hfb := hfm.1
  have HIV := Lib.hid hIV
  clear he hM h256 hlen2 e2 e4 hR hz hrk hC0 hUp hlast hUD hTN hlen hf hIV hfm
  generalize those m (brokP (those m (circP L))) = U at *
  generalize dnF m L (rk L (bit m - 1)) (clo m L 0) = N at *
  generalize those m (flatP m L) = F at *
  generalize those m (covP m L f) = A at *
  obtain ⟨lv, hlv⟩ : ∃ lv : Later V.heap.size V, lv.val = V := ⟨Later.self _, rfl⟩
  rw [← hlv]
  clear hlv
  have hl : Lists lv.val [] := Lists.nil _
  obtain ⟨v, hv⟩ : ∃ v : Later V.heap.size V, v = lv := ⟨_, rfl⟩
  rw [← hv] at hl ⊢
  clear hv lv
  go_upto_region 9 with (first | (go_at_call 74; (with_reducible refine (threadL v (KU.out v) hl).mono ?_); rintro e _ ⟨v, ad, cp, rfl, rfl, hl⟩) | (go_at_call 17; (with_reducible refine (threadL v (KF.out v) hl).mono ?_); rintro e _ ⟨v, adF, cpF, rfl, rfl, hl⟩))
  have hIF : IntsAt v.val.heap.size v.val adF (ints F) := hl _ (List.mem_cons_self)
  obtain ⟨b0, o0, rfl, hb0, hc0⟩ := hIF.at (k := 0) (by rw [ints_len]; exact hn)
  have c0 : ∀ w : Later v.val.heap.size v.val, w.val.cell? ⟨b0, o0, none⟩ = some (.int .i64 ((F.getD 0 0 : Nat) : Int)) := fun w => by
    have := hc0 w 0 (by rw [ints_len]; exact hn)
    rwa [ints_getD, Nat.add_zero] at this
  have t0 : ∀ w : Later v.val.heap.size v.val, w.val.cell? ⟨gu, 0, none⟩ = some (.int .i64 m) := fun w => r0 (v.up w)
  have t1 : ∀ w : Later v.val.heap.size v.val, w.val.cell? ⟨gu, 1, none⟩ = some (.slice a (ints L).length cap) := fun w => r1 (v.up w)
  have KC1 : Hid (∀ w : Later v.val.heap.size v.val, Calls Try.prog 75 #[.agg #[.int .i64 m, .slice a (ints L).length cap], .int .i64 ((F.getD 0 0 : Nat) : Int)] w.val (Ret v.val.heap.size v.val (.int .i64 N))) := Lib.hid (fun w => KC.out _ _ w (HIV.out.to v))
  have hn' : 0 < (ints F).length := by rw [ints_len]; exact hn
  clear KC hc0 hb0
  generalize F.getD 0 0 = f0 at *
  obtain ⟨w, hw⟩ : ∃ w : Later v.val.heap.size v.val, w.val = v.val := ⟨Later.self _, rfl⟩
  rw [← hw]
  clear hw
  refine wp_region_later w (by kernel_rfl) (by kernel_rfl) (fun _ => ?_)
  repeat (first | go_big_quiet_step (((go_at_call 75; exact KC1.out _))) | (refine wpQuiet_step (fun K hK => ?_); go_simp; refine ⟨_, fun _ => rfl, ?_⟩; refine hK _ ?_; clear hK K))
  refine wpQuiet_nil ?_
  intro w
  have hl1 := hl.later w
  obtain ⟨v2, hv2⟩ : ∃ v2 : Later V.heap.size V, v2.val = w.val := ⟨v.up w, rfl⟩
  rw [← hv2] at hl1 ⊢
  clear hv2 t0 t1 c0 KC1 hl hIF
  obtain ⟨v, hv⟩ : ∃ v : Later V.heap.size V, v = v2 := ⟨_, rfl⟩
  rw [← hv] at hl1 ⊢
  have hl := hl1
  clear hl1 hv v2
  go_upto_region 15 with (first | (go_at_call 52; (with_reducible refine (thread0 v (KH.out v _ _ (lists_at hl (by simp))) hl).mono ?_); rintro e _ ⟨v, rfl, rfl, hl⟩) | (go_at_call 19; (with_reducible refine (thread0 v (KB.out v) hl).mono ?_); rintro e _ ⟨v, rfl, rfl, hl⟩) | (go_at_call 76; (with_reducible refine (threadL v (KA.out v) hl).mono ?_); rintro e _ ⟨v, ad2, cp2, rfl, rfl, hl⟩) | (go_at_call 16; (with_reducible refine (KR.out v).mono ?_); rintro e _ ⟨_, rfl, ⟨g, cr, rfl, hT⟩, y, rfl⟩))
  have hl2 := hl.later y
  have HT := Lib.hid hT
  have hgY : g < y.val.heap.size := hT.lt
  have hIF : IntsAt y.val.heap.size y.val (some ⟨b0, o0, none⟩) (ints F) := lists_at hl2 (by simp)
  have HIF := Lib.hid hIF
  obtain ⟨vY, hvY⟩ : ∃ x : Later V.heap.size V, x.val = y.val := ⟨v.up y, rfl⟩
  have HVY : Hid (∀ w : Later y.val.heap.size y.val, ∃ x : Later V.heap.size V, x.val = w.val) := Lib.hid (fun w => ⟨v.up (y.up w), rfl⟩)
  clear hl hT hIF vY hvY
  generalize y.val = Y at *
  obtain ⟨y, hy⟩ : ∃ y : Later Y.heap.size Y, y.val = Y := ⟨Later.self _, rfl⟩
  rw [← hy]
  clear hy
  have hif : (ints F).length = F.length := ints_len F
  go_loopw [10, 49] (fun o i wr => ∃ (k : Nat) (w : Later Y.heap.size Y), k ≤ F.length ∧ o = .bool (modTo F L f k) ∧ i = .int .i64 k ∧ wr = w.val) (fun _ i _ => F.length - (intOf i).toNat)
  case atStart => exact ⟨0, y, by omega, rfl, rfl, rfl⟩
  case round =>
    clear y
    obtain ⟨k, w, hk, rfl, rfl, rfl⟩ := hrel
    by_cases hlt : k < F.length
    · have hFb : F.length ≤ 256 := by omega
      obtain ⟨bb, off, hpe, hbB, hcell⟩ := HIF.out.at (k := k) (by rw [ints_len]; exact hlt)
      cases hpe
      have hfk := HF8.out k hlt
      have hor : f ||| F.getD k 0 < bit m := or_lt_bit hfb hfk
      have han : f &&& F.getD k 0 < bit m := and_lt_bit _ hfb
      have c0 : ∀ w : Later Y.heap.size Y, w.val.cell? ⟨b0, o0 + k, none⟩ = some (.int .i64 ((F.getD k 0 : Nat) : Int)) := fun w => by rw [← ints_getD]; exact hcell w k (by rw [ints_len]; exact hlt)
      have HTc : Hid (∀ (j : Nat), j < bit m → ∀ w : Later Y.heap.size Y, w.val.cell? ⟨g, j, none⟩ = some (.int .i64 (rk L j : Int))) := Lib.hid (fun j hj w => (HT.out.keep_at w.below hgY).cell hj)
      have c1 := HTc.out _ hfk
      have c2 := HTc.out _ hfb
      have c3 := HTc.out _ hor
      have c4 := HTc.out _ han
      have o1 := i64_and f (F.getD k 0) (by omega) (by omega)
      have o2 := i64_or f (F.getD k 0) (by omega) (by omega)
      have r1' := rk_le8 L (F.getD k 0)
      have r2' := rk_le8 L f
      have r3' := rk_le8 L (f ||| F.getD k 0)
      have r4' := rk_le8 L (f &&& F.getD k 0)
      have HS := Lib.hid (modTo_step (L := L) (f := f) hlt)
      clear hcell HTc
      rcases btf (modTo F L f k) with g1 | g1
      · rw [g1] at HS ⊢
        clear g1
        by_cases hq : rk L f + rk L (F.getD k 0) = rk L (f ||| F.getD k 0) + rk L (f &&& F.getD k 0)
        · have HN : Hid (modTo F L f (k + 1) = true) := Lib.hid (by rw [HS.out, decide_eq_true hq]; rfl)
          clear HS
          generalize rk L (f ||| F.getD k 0) = p3 at *
          generalize rk L (f &&& F.getD k 0) = p4 at *
          generalize rk L (F.getD k 0) = p1 at *
          generalize rk L f = p2 at *
          generalize f ||| F.getD k 0 = z3 at *
          generalize f &&& F.getD k 0 = z4 at *
          generalize F.getD k 0 = x at *
          have d1 : ((p2 : Int) + (p1 : Int) == (p3 : Int) + (p4 : Int)) = true := by rw [beq_iff_eq]; omega
          clear hq
          go_wp2
          refine wp_region_later w (by kernel_rfl) (by kernel_rfl) (fun _ => ?_)
          repeat (first | go_big_quiet_step ((fail)) | (refine wpQuiet_step (fun K hK => ?_); go_simp; refine ⟨_, fun _ => rfl, ?_⟩; refine hK _ ?_; clear hK K))
          refine wpQuiet_nil ?_
          intro w
          go_wp2
          go_roundw
          case rel => exact ⟨k+1, w, by omega, by rw [HN.out], by go_num, rfl⟩
          case measure => simp [intOf]; omega
        · have HN : Hid (modTo F L f (k + 1) = false) := Lib.hid (by rw [HS.out, decide_eq_false hq]; rfl)
          clear HS
          generalize rk L (f ||| F.getD k 0) = p3 at *
          generalize rk L (f &&& F.getD k 0) = p4 at *
          generalize rk L (F.getD k 0) = p1 at *
          generalize rk L f = p2 at *
          generalize f ||| F.getD k 0 = z3 at *
          generalize f &&& F.getD k 0 = z4 at *
          generalize F.getD k 0 = x at *
          have d1 : ((p2 : Int) + (p1 : Int) == (p3 : Int) + (p4 : Int)) = false := by rw [beq_eq_false_iff_ne]; omega
          clear hq
          go_wp2
          refine wp_region_later w (by kernel_rfl) (by kernel_rfl) (fun _ => ?_)
          repeat (first | go_big_quiet_step ((fail)) | (refine wpQuiet_step (fun K hK => ?_); go_simp; refine ⟨_, fun _ => rfl, ?_⟩; refine hK _ ?_; clear hK K))
          refine wpQuiet_nil ?_
          intro w
          go_wp2
          go_roundw
          case rel => exact ⟨k+1, w, by omega, by rw [HN.out], by go_num, rfl⟩
          case measure => simp [intOf]; omega
      · rw [g1] at HS ⊢
        clear g1
        have HN : Hid (modTo F L f (k + 1) = false) := Lib.hid (by rw [HS.out]; rfl)
        clear HS
        generalize F.getD k 0 = x at *
        go_wp2
        refine wp_region_later w (by kernel_rfl) (by kernel_rfl) (fun _ => ?_)
        repeat (first | go_big_quiet_step ((fail)) | (refine wpQuiet_step (fun K hK => ?_); go_simp; refine ⟨_, fun _ => rfl, ?_⟩; refine hK _ ?_; clear hK K))
        refine wpQuiet_nil ?_
        intro w
        go_wp2
        go_roundw
        case rel => exact ⟨k+1, w, by omega, by rw [HN.out], by go_num, rfl⟩
        case measure => simp [intOf]; omega
    · have hke : k = F.length := by omega
      subst hke
      generalize modTo F L f F.length = r at *
      have hl := hl2.later w
      obtain ⟨v, hv⟩ := HVY.out w
      rw [← hv] at hl ⊢
      clear hv hl2
      go_wp2_with (first | (go_at_call 77; (with_reducible refine (threadE v (P1.out v) hl).mono ?_); rintro e _ ⟨v, ad, cp, rfl, rfl, hl⟩) | (go_at_call 78; (with_reducible refine (threadE v (P2.out v) hl).mono ?_); rintro e _ ⟨v, ad, cp, rfl, rfl, hl⟩) | (go_at_call 79; (with_reducible refine (thread0 v (P3.out v) hl).mono ?_); rintro e _ ⟨v, rfl, rfl, hl⟩) | (go_at_call 80; (with_reducible refine (thread0 v (P4.out v) hl).mono ?_); rintro e _ ⟨v, rfl, rfl, hl⟩) | (go_at_call 29; (with_reducible refine (thread_list v _ _ _ _ _ hl (by simp) (by simp) (by assumption)).mono ?_); rintro e _ ⟨v, rfl, rfl, hl⟩) | (go_at_call 30; (with_reducible refine (thread0 v (KO.out v _) hl).mono ?_); rintro e _ ⟨v, rfl, rfl, hl⟩) | (go_at_call 81; (with_reducible refine (thread0 v (KY.out v _) hl).mono ?_); rintro e _ ⟨v, rfl, rfl, hl⟩))
      go_ret
      exact Ret.of (HVB.out v) rfl

theorem law_flatsLattice {B : Nat} {W : World} (u : Later B W) (n f : Int) (l : List Int) (a : Option Addr) (cap : Nat) (h : IntsAt B W a l) (hlen : l.length ≤ 4611686018427387904) :
    Calls Try.prog 8 #[.agg #[.int .i64 n, .slice a l.length cap], .int .i64 f] u.val (Ret B W (.bool true)) := by
  obtain ⟨e, he⟩ := MatIs.ex n l
  by_cases h0 : e = 0
  case neg => exact law_lat_no u n f l a cap e h hlen he h0
  subst h0
  obtain ⟨m, L, rfl, hm, rfl, hTN⟩ := mat_open he
  by_cases hf : f ∈ ints (those m (flatP m L))
  · obtain ⟨f', hf', rfl⟩ := mem_intsE hf
    exact law_lat_in u m hm L a cap h hlen he hTN f' hf'
  · exact law_lat_out u m hm L a cap h hlen he hTN f hf

end Go.Proofs.Ytjpcelldbhdneaa
