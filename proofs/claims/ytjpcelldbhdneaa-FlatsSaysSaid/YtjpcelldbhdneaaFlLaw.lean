
/-
  rotalaw.FlatsSays.
-/
import Derived.Test.YtjpcelldbhdneaaFlW2
import Derived.Test.YtjpcelldbhdneaaFlR3
import Derived.Test.YtjpcelldbhdneaaLongs
import Derived.Test.YtjpcelldbhdneaaMatOpen
namespace Go.Proofs.Ytjpcelldbhdneaa
open Go.RowKit
set_option linter.unusedVariables false

set_option maxRecDepth 100000 in
set_option maxHeartbeats 8000000 in
theorem law_fl_no {B : Nat} {W : World} (u : Later B W) (n : Int) (l : List Int) (a : Option Addr) (cap : Nat) (e : Int) (h : IntsAt B W a l) (hlen : l.length ≤ 4611686018427387904) (he : MatIs n l e) (h0 : e ≠ 0) :
    Calls Try.prog 7 #[.agg #[.int .i64 n, .slice a l.length cap]] u.val (Ret B W (.bool true)) := by
  have T0 : Hid (Two (u.val.alloc (.cells #[.int .i64 n, .slice a l.length cap] 24)) u.val.heap.size 24 (.int .i64 n) (.slice a l.length cap)) := Lib.hid (Two.new _ _ _ _)
  have hrr : u.val.heap.size < (u.val.alloc (.cells #[.int .i64 n, .slice a l.length cap] 24)).heap.size := by simp
  have hI : IntsAt (u.val.alloc (.cells #[.int .i64 n, .slice a l.length cap] 24)).heap.size (u.val.alloc (.cells #[.int .i64 n, .slice a l.length cap] 24)) a l := h.to (u.alloc _)
  have HV : Hid (∀ v : Later (u.val.alloc (.cells #[.int .i64 n, .slice a l.length cap] 24)).heap.size (u.val.alloc (.cells #[.int .i64 n, .slice a l.length cap] 24)), ∃ w : Later B W, w.val = v.val) := Lib.hid (fun v => ⟨(u.alloc _).up v, rfl⟩)
  have q0 : ∀ w : Later (u.val.alloc (.cells #[.int .i64 n, .slice a l.length cap] 24)).heap.size (u.val.alloc (.cells #[.int .i64 n, .slice a l.length cap] 24)), w.val.cell? ⟨u.val.heap.size, 0, none⟩ = some (.int .i64 n) := fun w => (T0.out.keep w.below).c0
  have q1 : ∀ w : Later (u.val.alloc (.cells #[.int .i64 n, .slice a l.length cap] 24)).heap.size (u.val.alloc (.cells #[.int .i64 n, .slice a l.length cap] 24)), w.val.cell? ⟨u.val.heap.size, 1, none⟩ = some (.slice a l.length cap) := fun w => (T0.out.keep w.below).c1
  have p0 : (u.val.alloc (.cells #[.int .i64 n, .slice a l.length cap] 24)).cell? ⟨u.val.heap.size, 0, none⟩ = some (.int .i64 n) := T0.out.c0
  have p1 : (u.val.alloc (.cells #[.int .i64 n, .slice a l.length cap] 24)).cell? ⟨u.val.heap.size, 1, none⟩ = some (.slice a l.length cap) := T0.out.c1
  have KM : Hid (Calls Try.prog 13 #[.agg #[.int .i64 n, .slice a l.length cap]] (u.val.alloc (.cells #[.int .i64 n, .slice a l.length cap] 24)) (Ret (u.val.alloc (.cells #[.int .i64 n, .slice a l.length cap] 24)).heap.size (u.val.alloc (.cells #[.int .i64 n, .slice a l.length cap] 24)) (.int .i64 e))) := Lib.hid (c_refMatroid (Later.self _) n l a cap e hI hlen he)
  have K1 := Lib.hid (fun v : Later (u.val.alloc (.cells #[.int .i64 n, .slice a l.length cap] 24)).heap.size (u.val.alloc (.cells #[.int .i64 n, .slice a l.length cap] 24)) => c_flMobius_no v n l a cap e hI hlen he h0)
  have K2 := Lib.hid (fun v : Later (u.val.alloc (.cells #[.int .i64 n, .slice a l.length cap] 24)).heap.size (u.val.alloc (.cells #[.int .i64 n, .slice a l.length cap] 24)) => c_flChar_no v n l a cap e hI hlen he h0)
  have K3 := Lib.hid (fun v : Later (u.val.alloc (.cells #[.int .i64 n, .slice a l.length cap] 24)).heap.size (u.val.alloc (.cells #[.int .i64 n, .slice a l.length cap] 24)) => c_flLevels_no v n l a cap e hI hlen he h0)
  have K4 := Lib.hid (fun v : Later (u.val.alloc (.cells #[.int .i64 n, .slice a l.length cap] 24)).heap.size (u.val.alloc (.cells #[.int .i64 n, .slice a l.length cap] 24)) => c_flInd_no v n l a cap e hI hlen he h0)
  have KL := Lib.hid (fun (v : Later (u.val.alloc (.cells #[.int .i64 n, .slice a l.length cap] 24)).heap.size (u.val.alloc (.cells #[.int .i64 n, .slice a l.length cap] 24))) x cx => c_list_no v e h0 x cx)
  have KG := Lib.hid (fun (v : Later (u.val.alloc (.cells #[.int .i64 n, .slice a l.length cap] 24)).heap.size (u.val.alloc (.cells #[.int .i64 n, .slice a l.length cap] 24))) x cx => c_longs_no v e h0 x cx)
  have d0 : (e == 0) = false := by rw [beq_eq_false_iff_ne]; exact h0
  clear h hI he h0
  go_enter Try.func7, Try.ntmps7
  go_wp2_with (first | (go_at_call 13; (with_reducible refine (KM.out).mono ?_); rintro e _ ⟨rfl, v1, rfl⟩) | (go_at_call 69; (with_reducible refine (K1.out _).mono ?_); rintro e _ ⟨_, rfl, ⟨_, rfl, ⟨ad1, cp1, rfl, hI1, hcp1⟩⟩, v1, rfl⟩) | (go_at_call 70; (with_reducible refine (K2.out _).mono ?_); rintro e _ ⟨_, rfl, ⟨_, rfl, ⟨ad1, cp1, rfl, hI1, hcp1⟩⟩, v1, rfl⟩) | (go_at_call 71; (with_reducible refine (K3.out _).mono ?_); rintro e _ ⟨_, rfl, ⟨_, rfl, ⟨ad1, cp1, rfl, hI1, hcp1⟩⟩, v1, rfl⟩) | (go_at_call 72; (with_reducible refine (K4.out _).mono ?_); rintro e _ ⟨_, rfl, ⟨_, rfl, ⟨ad1, cp1, rfl, hI1, hcp1⟩⟩, v1, rfl⟩) | (go_at_call 29; (with_reducible refine (KL.out _ _ _).mono ?_); rintro e _ ⟨rfl, v1, rfl⟩) | (go_at_call 73; (with_reducible refine (KG.out _ _ _).mono ?_); rintro e _ ⟨rfl, v1, rfl⟩))
  go_ret
  exact Ret.of (HV.out v1) rfl

theorem threadLev {P : Program} {f : FuncId} {args : Array Value} {B : Nat} {W : World} {R : Nat} {A3 A4 : Nat → Int} {xs ys : List Int} (hx : xs = tabL (R + 1) A3) (hy : ys = tabL (R + 1) A4) (v : Later B W) (h : Calls P f args v.val (RetP v.val.heap.size v.val (fun x w => ∃ g2 g3, x = .tuple #[.slice (some ⟨g2, 0, none⟩) (R + 1) (R + 1), .slice (some ⟨g3, 0, none⟩) (R + 1) (R + 1)] ∧ ITab w g2 (R + 1) A3 ∧ ITab w g3 (R + 1) A4))) {ls : List (Option Addr × List Int)} (hl : Lists v.val ls) :
    Calls P f args v.val (fun e w' => ∃ (v' : Later B W) (a b : Option Addr) (c d : Nat), e = .returned (.tuple #[.slice a xs.length c, .slice b ys.length d]) ∧ w' = v'.val ∧ Lists v'.val ((b, ys) :: (a, xs) :: ls)) := h.mono (by
  rintro e _ ⟨_, rfl, ⟨g2, g3, rfl, h2, h3⟩, y, rfl⟩
  refine ⟨v.up y, some ⟨g2, 0, none⟩, some ⟨g3, 0, none⟩, R + 1, R + 1, ?_, rfl, ((hl.later y).more (by rw [hx]; exact h2.ints)).more (by rw [hy]; exact h3.ints)⟩
  rw [hx, hy, tabL_len, tabL_len])

set_option maxRecDepth 100000 in
set_option maxHeartbeats 20000000 in
theorem law_fl_yes {B : Nat} {W : World} (u : Later B W) (m : Nat) (hm : m ≤ 8) (L : List Nat) (a : Option Addr) (cap : Nat) (h : IntsAt B W a (ints L)) (hlen : (ints L).length ≤ 4611686018427387904) (he : MatIs (m : Int) (ints L) 0) (hTN : toN (ints L) = L) :
    Calls Try.prog 7 #[.agg #[.int .i64 m, .slice a (ints L).length cap]] u.val (Ret B W (.bool true)) := by
  have hbm := bit_le m hm
  have hM := IsMat.of he hTN
  have h256 : ∀ b, b ∈ L → b < 256 := fun b hb => by have := hM.lt b hb; omega
  have hlen2 : L.length ≤ 4611686018427387904 := by rw [ints_len] at hlen; exact hlen
  have e4 := flat_same hm hM.ne hM.fam hM.exch
  have e1 := ind_same hm hM.ne
  have hR : ∀ s, s < bit m → rk L s ≤ rk L (bit m - 1) := fun s hs => rk_mono hM.ne (fun i hi => by
    rw [testBit_all]
    have := lt_m_of_testBit hs hi
    simpa using this)
  have hz := flats_zero hm hM.ne hM.fam hM.exch
  have hn := flats_ne hm hM.ne hM.fam hM.exch
  have hA := mu_nu hm hM.ne hM.fam hM.exch
  have hFb : ∀ i, i < (those m (flatP m L)).length → (those m (flatP m L)).getD i 0 < bit m := fun i hi => (those_at hi).1
  have hFl : (those m (flatP m L)).length ≤ 256 := by have := thoseTo_len (flatP m L) (bit m); have e : those m (flatP m L) = thoseTo (flatP m L) (bit m) := rfl; rw [e]; omega
  have hFLl : (those m (indP L)).length ≤ 256 := by have := thoseTo_len (indP L) (bit m); have e : those m (indP L) = thoseTo (indP L) (bit m) := rfl; rw [e]; omega
  have hFLb : ∀ i, i < (those m (indP L)).length → (those m (indP L)).getD i 0 < bit m ∧ sz ((those m (indP L)).getD i 0) ≤ rk L (bit m - 1) := fun i hi => by
    obtain ⟨g1, g2⟩ := those_at hi
    refine ⟨g1, ?_⟩
    have := hR _ g1
    have g3 : rk L ((those m (indP L)).getD i 0) = sz ((those m (indP L)).getD i 0) := of_decide_eq_true g2
    omega
  have hC : charIs (those m (flatP m L)) L (rk L (bit m - 1)) (fun i => nu m L (clo m L 0) ((those m (flatP m L)).getD i 0)) (sgTo L (rk L (bit m - 1)) (bit m)) := by
    constructor
    · intro h d
      exact char_loop hm hM.ne hM.fam hM.exch (by rw [hz] at h; exact h)
    · intro h d
      exact (char_same hm hM.ne hM.fam hM.exch (by rw [hz] at h; exact h)).symm
  have e5 : tabL (rk L (bit m - 1) + 1) (frTo L (bit m)) = tabL (rk L (bit m - 1) + 1) (fun d => isum (fun i => if sz ((those m (indP L)).getD i 0) = d then 1 else 0) (those m (indP L)).length) := tabL_congr (fun d _ => by
    rw [those_sum m (indP L) (fun x => if sz x = d then 1 else 0)]
    unfold frTo
    refine isum_congr (fun s _ => ?_)
    unfold indP
    by_cases c : rk L s = sz s
    · simp [c]
    · simp [c])
  have e6 : tabL (those m (flatP m L)).length (fun i => nu m L ((those m (flatP m L)).getD 0 0) ((those m (flatP m L)).getD i 0)) = tabL (those m (flatP m L)).length (fun i => nu m L (clo m L 0) ((those m (flatP m L)).getD i 0)) := by rw [hz]
  have T0 : Hid (Two (u.val.alloc (.cells #[.int .i64 m, .slice a (ints L).length cap] 24)) u.val.heap.size 24 (.int .i64 m) (.slice a (ints L).length cap)) := Lib.hid (Two.new _ _ _ _)
  have hrr : u.val.heap.size < (u.val.alloc (.cells #[.int .i64 m, .slice a (ints L).length cap] 24)).heap.size := by simp
  have hI : IntsAt (u.val.alloc (.cells #[.int .i64 m, .slice a (ints L).length cap] 24)).heap.size (u.val.alloc (.cells #[.int .i64 m, .slice a (ints L).length cap] 24)) a (ints L) := h.to (u.alloc _)
  have HV : Hid (∀ v : Later (u.val.alloc (.cells #[.int .i64 m, .slice a (ints L).length cap] 24)).heap.size (u.val.alloc (.cells #[.int .i64 m, .slice a (ints L).length cap] 24)), ∃ w : Later B W, w.val = v.val) := Lib.hid (fun v => ⟨(u.alloc _).up v, rfl⟩)
  have q0 : ∀ w : Later (u.val.alloc (.cells #[.int .i64 m, .slice a (ints L).length cap] 24)).heap.size (u.val.alloc (.cells #[.int .i64 m, .slice a (ints L).length cap] 24)), w.val.cell? ⟨u.val.heap.size, 0, none⟩ = some (.int .i64 m) := fun w => (T0.out.keep w.below).c0
  have q1 : ∀ w : Later (u.val.alloc (.cells #[.int .i64 m, .slice a (ints L).length cap] 24)).heap.size (u.val.alloc (.cells #[.int .i64 m, .slice a (ints L).length cap] 24)), w.val.cell? ⟨u.val.heap.size, 1, none⟩ = some (.slice a (ints L).length cap) := fun w => (T0.out.keep w.below).c1
  have p0 : (u.val.alloc (.cells #[.int .i64 m, .slice a (ints L).length cap] 24)).cell? ⟨u.val.heap.size, 0, none⟩ = some (.int .i64 m) := T0.out.c0
  have p1 : (u.val.alloc (.cells #[.int .i64 m, .slice a (ints L).length cap] 24)).cell? ⟨u.val.heap.size, 1, none⟩ = some (.slice a (ints L).length cap) := T0.out.c1
  have KM : Hid (Calls Try.prog 13 #[.agg #[.int .i64 m, .slice a (ints L).length cap]] (u.val.alloc (.cells #[.int .i64 m, .slice a (ints L).length cap] 24)) (Ret (u.val.alloc (.cells #[.int .i64 m, .slice a (ints L).length cap] 24)).heap.size (u.val.alloc (.cells #[.int .i64 m, .slice a (ints L).length cap] 24)) (.int .i64 0))) := Lib.hid (c_refMatroid (Later.self _) m (ints L) a cap 0 hI hlen he)
  go_enter Try.func7, Try.ntmps7
  go_upto_region 5 with (first | (go_at_call 13; ((with_reducible refine (KM.out).mono ?_); rintro e _ ⟨rfl, v1, rfl⟩)))
  have hIV : IntsAt v1.val.heap.size v1.val a (ints L) := hI.to v1
  have r0 : ∀ w : Later v1.val.heap.size v1.val, w.val.cell? ⟨u.val.heap.size, 0, none⟩ = some (.int .i64 m) := fun w => q0 (v1.up w)
  have r1 : ∀ w : Later v1.val.heap.size v1.val, w.val.cell? ⟨u.val.heap.size, 1, none⟩ = some (.slice a (ints L).length cap) := fun w => q1 (v1.up w)
  have HVB : Hid (∀ v : Later v1.val.heap.size v1.val, ∃ w : Later B W, w.val = v.val) := Lib.hid (fun v => HV.out (v1.up v))
  clear KM q0 q1 p0 p1 HV T0 hrr hI h
  generalize u.val.heap.size = gu at *
  generalize v1.val = V at *
  have K1 : Hid (∀ v : Later V.heap.size V, Calls Try.prog 66 #[.agg #[.int .i64 m, .slice a (ints L).length cap]] v.val (RetInts v.val.heap.size v.val (tabL (those m (flatP m L)).length (fun i => nu m L (clo m L 0) ((those m (flatP m L)).getD i 0))))) := Lib.hid (fun v => by rw [← e6]; exact c_refMobius (Later.self v.val) m _ hm L hM.ne hM.fam hM.exch hlen2 a cap (hIV.to v) _ e4.symm hn hFb hFl)
  have K2 : Hid (∀ v : Later V.heap.size V, Calls Try.prog 67 #[.agg #[.int .i64 m, .slice a (ints L).length cap]] v.val (RetInts v.val.heap.size v.val (tabL (rk L (bit m - 1) + 1) (sgTo L (rk L (bit m - 1)) (bit m))))) := Lib.hid (fun v => by have := c_refChar (Later.self v.val) m hm (ints L) a cap (hIV.to v) hlen hM.isfam (by rw [hTN]; exact hR); rw [hTN] at this; exact this)
  have K3 : Hid (∀ v : Later V.heap.size V, Calls Try.prog 68 #[.agg #[.int .i64 m, .slice a (ints L).length cap]] v.val (RetP v.val.heap.size v.val (fun x w => ∃ g2 g3, x = .tuple #[.slice (some ⟨g2, 0, none⟩) (rk L (bit m - 1) + 1) (rk L (bit m - 1) + 1), .slice (some ⟨g3, 0, none⟩) (rk L (bit m - 1) + 1) (rk L (bit m - 1) + 1)] ∧ ITab w g2 (rk L (bit m - 1) + 1) (lvTo (those m (flatP m L)) L (those m (flatP m L)).length) ∧ ITab w g3 (rk L (bit m - 1) + 1) (fun d => isum (fun i => if sz ((those m (indP L)).getD i 0) = d then 1 else 0) (those m (indP L)).length)))) := Lib.hid (fun v => c_refLevels (Later.self v.val) m hm L a cap (hIV.to v) hlen hM.isfam hTN h256 hR _ _ e4.symm e1.symm hFb hFLb hFl hFLl)
  have P1 : Hid (∀ v : Later V.heap.size V, Calls Try.prog 69 #[.agg #[.int .i64 m, .slice a (ints L).length cap]] v.val (RetP v.val.heap.size v.val (ListE (tabL (those m (flatP m L)).length (fun i => nu m L (clo m L 0) ((those m (flatP m L)).getD i 0))) 0))) := Lib.hid (fun v => by
    have := c_flMobius (Later.self v.val) m hm (ints L) a cap (hIV.to v) hlen he (fun i => nu m L (clo m L 0) ((those m (flatP m L)).getD i 0)) (by rw [hTN]; exact hA)
    rw [hTN] at this; exact this)
  have P2 : Hid (∀ v : Later V.heap.size V, Calls Try.prog 70 #[.agg #[.int .i64 m, .slice a (ints L).length cap]] v.val (RetP v.val.heap.size v.val (ListE (tabL (rk L (bit m - 1) + 1) (sgTo L (rk L (bit m - 1)) (bit m))) 0))) := Lib.hid (fun v => by
    have := c_flChar (Later.self v.val) m hm (ints L) a cap (hIV.to v) hlen he (by rw [hTN]; exact hR) (fun i => nu m L (clo m L 0) ((those m (flatP m L)).getD i 0)) (sgTo L (rk L (bit m - 1)) (bit m)) (by rw [hTN]; exact hA) (by rw [hTN]; exact hn) (by rw [hTN]; exact hC)
    rw [hTN] at this; exact this)
  have P3 : Hid (∀ v : Later V.heap.size V, Calls Try.prog 71 #[.agg #[.int .i64 m, .slice a (ints L).length cap]] v.val (RetP v.val.heap.size v.val (ListE (tabL (rk L (bit m - 1) + 1) (lvTo (those m (flatP m L)) L (those m (flatP m L)).length)) 0))) := Lib.hid (fun v => by
    have := c_flLevels (Later.self v.val) m hm (ints L) a cap (hIV.to v) hlen he (by rw [hTN]; exact hR)
    rw [hTN] at this; exact this)
  have P4 : Hid (∀ v : Later V.heap.size V, Calls Try.prog 72 #[.agg #[.int .i64 m, .slice a (ints L).length cap]] v.val (RetP v.val.heap.size v.val (ListE (tabL (rk L (bit m - 1) + 1) (fun d => isum (fun i => if sz ((those m (indP L)).getD i 0) = d then 1 else 0) (those m (indP L)).length)) 0))) := Lib.hid (fun v => by
    have := c_flInd (Later.self v.val) m hm (ints L) a cap (hIV.to v) hlen he (by rw [hTN]; exact hR)
    rw [hTN, e5] at this; exact this)
  have hR8 := rk_le8 L (bit m - 1)
  have hb1 : (tabL (those m (flatP m L)).length (fun i => nu m L (clo m L 0) ((those m (flatP m L)).getD i 0))).length ≤ 4611686018427387904 := by rw [tabL_len]; omega
  have hb2 : (tabL (rk L (bit m - 1) + 1) (sgTo L (rk L (bit m - 1)) (bit m))).length ≤ 4611686018427387904 := by rw [tabL_len]; omega
  have hb3 : (tabL (rk L (bit m - 1) + 1) (lvTo (those m (flatP m L)) L (those m (flatP m L)).length)).length ≤ 4611686018427387904 := by rw [tabL_len]; omega
  have hb4 : (tabL (rk L (bit m - 1) + 1) (fun d => isum (fun i => if sz ((those m (indP L)).getD i 0) = d then 1 else 0) (those m (indP L)).length)).length ≤ 4611686018427387904 := by rw [tabL_len]; omega
  obtain ⟨A3, hA3⟩ : ∃ x, x = tabL (rk L (bit m - 1) + 1) (lvTo (those m (flatP m L)) L (those m (flatP m L)).length) := ⟨_, rfl⟩
  obtain ⟨A4, hA4⟩ : ∃ x, x = tabL (rk L (bit m - 1) + 1) (fun d => isum (fun i => if sz ((those m (indP L)).getD i 0) = d then 1 else 0) (those m (indP L)).length) := ⟨_, rfl⟩
  have K3' : Hid (∀ (v : Later V.heap.size V) (ls : List (Option Addr × List Int)), Lists v.val ls → Calls Try.prog 68 #[.agg #[.int .i64 m, .slice a (ints L).length cap]] v.val (fun e w' => ∃ (v' : Later V.heap.size V) (x y : Option Addr) (c d : Nat), e = .returned (.tuple #[.slice x A3.length c, .slice y A4.length d]) ∧ w' = v'.val ∧ Lists v'.val ((y, A4) :: (x, A3) :: ls))) := Lib.hid (fun v ls hl => threadLev hA3 hA4 v (K3.out v) hl)
  rw [← hA3] at P3 hb3
  rw [← hA4] at P4 hb4
  clear K3 hA3 hA4 he hM h256 hlen2 e4 e1 hR hz hn hA hFb hFl hFLl hFLb hC e5 e6 hR8 hIV hTN hlen
  generalize tabL (those m (flatP m L)).length (fun i => nu m L (clo m L 0) ((those m (flatP m L)).getD i 0)) = A1 at *
  generalize tabL (rk L (bit m - 1) + 1) (sgTo L (rk L (bit m - 1)) (bit m)) = A2 at *
  generalize (ints L).length = len at *
  have K1d : Hid (Calls Try.prog 66 #[.agg #[.int .i64 m, .slice a len cap]] V.drew (ThreadL V.heap.size V A1 [])) := Lib.hid (threadL (Later.self V).drew (K1.out (Later.self V).drew) (Lists.nil _))
  have s0 : V.drew.cell? ⟨gu, 0, none⟩ = some (.int .i64 m) ∧ V.drew.cell? ⟨gu, 1, none⟩ = some (.slice a len cap) := ⟨r0 (Later.self V).drew, r1 (Later.self V).drew⟩
  go_region_held3 (fun w' => w'.cell? ⟨gu, 0, none⟩ = some (.int .i64 m) ∧ w'.cell? ⟨gu, 1, none⟩ = some (.slice a len cap)) (first | exact s0 | exact ⟨r0 v, r1 v⟩) (first | (go_at_call 66; (with_reducible refine (K1d.out).mono ?_); rintro e _ ⟨v, ad, cp, rfl, rfl, hl⟩) | (go_at_call 67; (with_reducible refine (threadL v (K2.out v) hl).mono ?_); rintro e _ ⟨v, ad, cp, rfl, rfl, hl⟩))
  clear K1d s0 K1 K2
  go_wp2_with (first | (go_at_call 68; (with_reducible refine (K3'.out v _ hl).mono ?_); rintro e _ ⟨v, ad, ad2, cp, cp2, rfl, rfl, hl⟩) | (go_at_call 69; (with_reducible refine (threadE v (P1.out v) hl).mono ?_); rintro e _ ⟨v, ad, cp, rfl, rfl, hl⟩) | (go_at_call 70; (with_reducible refine (threadE v (P2.out v) hl).mono ?_); rintro e _ ⟨v, ad, cp, rfl, rfl, hl⟩) | (go_at_call 71; (with_reducible refine (threadE v (P3.out v) hl).mono ?_); rintro e _ ⟨v, ad, cp, rfl, rfl, hl⟩) | (go_at_call 72; (with_reducible refine (threadE v (P4.out v) hl).mono ?_); rintro e _ ⟨v, ad, cp, rfl, rfl, hl⟩) | (go_at_call 29; (with_reducible refine (thread_list v _ _ _ _ _ hl (by simp) (by simp) (by assumption)).mono ?_); rintro e _ ⟨v, rfl, rfl, hl⟩) | (go_at_call 73; (with_reducible refine (thread_longs v _ _ _ _ _ hl (by simp) (by simp) (by assumption)).mono ?_); rintro e _ ⟨v, rfl, rfl, hl⟩))
  go_ret
  exact Ret.of (HVB.out v) rfl

theorem law_flatsSays {B : Nat} {W : World} (u : Later B W) (n : Int) (l : List Int) (a : Option Addr) (cap : Nat) (h : IntsAt B W a l) (hlen : l.length ≤ 4611686018427387904) :
    Calls Try.prog 7 #[.agg #[.int .i64 n, .slice a l.length cap]] u.val (Ret B W (.bool true)) := by
  obtain ⟨e, he⟩ := MatIs.ex n l
  by_cases h0 : e = 0
  case neg => exact law_fl_no u n l a cap e h hlen he h0
  subst h0
  obtain ⟨m, L, rfl, hm, rfl, hTN⟩ := mat_open he
  exact law_fl_yes u m hm L a cap h hlen he hTN

end Go.Proofs.Ytjpcelldbhdneaa
