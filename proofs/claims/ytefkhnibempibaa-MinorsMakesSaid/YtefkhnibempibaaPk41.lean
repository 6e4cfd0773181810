
/-
  minors.Simple, of a matroid.
  minors.Components.
-/
import Derived.Test.YtefkhnibempibaaPk40
import Derived.Test.YtefkhnibempibaaPk20
import Derived.Test.YtefkhnibempibaaPk28
namespace Go.Proofs.Ytefkhnibempibaa
open Go.RowKit
set_option linter.unusedVariables false

set_option maxRecDepth 100000 in
set_option maxHeartbeats 16000000 in
theorem c_minSimple {B : Nat} {W : World} (u : Later B W) (m r : Nat) (hm : m ≤ 8) (L : List Nat) (hne : L ≠ []) (hF : Fam8 L r) (hE : Exch L) (hL : ∀ b, b ∈ L → b < bit m) (hL2 : L.length ≤ 1024) (a : Option Addr) (cap : Nat) (h : IntsAt B W a (ints L)) (he : MatIs (m : Int) (ints L) 0) :
    Calls Try.prog 22 #[.agg #[.int .i64 m, .slice a (ints L).length cap]] u.val (RetP B W (MatTO B (cnt (rgT L m) m : Nat) (ints (those (cnt (rgT L m) m) (memB (delL m L (rgT L m))))) 0)) := by
  have hB := u.size
  have hb := bit_le m hm
  have hlen : (ints L).length ≤ 4611686018427387904 := by rw [ints_len]; omega
  have T0 : Hid (Two (u.val.alloc (.cells #[.int .i64 m, .slice a (ints L).length cap] 24)) u.val.heap.size 24 (.int .i64 m) (.slice a (ints L).length cap)) := Lib.hid (Two.new _ _ _ _)
  have hrr : u.val.heap.size < (u.val.alloc (.cells #[.int .i64 m, .slice a (ints L).length cap] 24)).heap.size := by simp
  have hI : IntsAt (u.val.alloc (.cells #[.int .i64 m, .slice a (ints L).length cap] 24)).heap.size (u.val.alloc (.cells #[.int .i64 m, .slice a (ints L).length cap] 24)) a (ints L) := h.to (u.alloc _)
  have HV : Hid (∀ v : Later (u.val.alloc (.cells #[.int .i64 m, .slice a (ints L).length cap] 24)).heap.size (u.val.alloc (.cells #[.int .i64 m, .slice a (ints L).length cap] 24)), ∃ w : Later B W, w.val = v.val) := Lib.hid (fun v => ⟨(u.alloc _).up v, rfl⟩)
  have q0 : ∀ w : Later (u.val.alloc (.cells #[.int .i64 m, .slice a (ints L).length cap] 24)).heap.size (u.val.alloc (.cells #[.int .i64 m, .slice a (ints L).length cap] 24)), w.val.cell? ⟨u.val.heap.size, 0, none⟩ = some (.int .i64 m) := fun w => (T0.out.keep w.below).c0
  have q1 : ∀ w : Later (u.val.alloc (.cells #[.int .i64 m, .slice a (ints L).length cap] 24)).heap.size (u.val.alloc (.cells #[.int .i64 m, .slice a (ints L).length cap] 24)), w.val.cell? ⟨u.val.heap.size, 1, none⟩ = some (.slice a (ints L).length cap) := fun w => (T0.out.keep w.below).c1
  have p0 : (u.val.alloc (.cells #[.int .i64 m, .slice a (ints L).length cap] 24)).cell? ⟨u.val.heap.size, 0, none⟩ = some (.int .i64 m) := T0.out.c0
  have p1 : (u.val.alloc (.cells #[.int .i64 m, .slice a (ints L).length cap] 24)).cell? ⟨u.val.heap.size, 1, none⟩ = some (.slice a (ints L).length cap) := T0.out.c1
  have hM1 : (u.val.alloc (.cells #[.int .i64 m, .slice a (ints L).length cap] 24)).heap.size = u.val.heap.size + 1 := by simp
  have XM : RowL ((u.val.alloc (.cells #[.int .i64 m, .slice a (ints L).length cap] 24)).alloc (.cells #[.int .i64 0, .slice none 0 0] 24)) (u.val.alloc (.cells #[.int .i64 m, .slice a (ints L).length cap] 24)).heap.size 24 [.int .i64 0, .slice none 0 0] := RowL.new _ _ _
  rw [hM1] at XM
  have HX := Lib.hid XM
  have hgr : u.val.heap.size + 1 < ((u.val.alloc (.cells #[.int .i64 m, .slice a (ints L).length cap] 24)).alloc (.cells #[.int .i64 0, .slice none 0 0] 24)).heap.size := XM.lt
  have hIY : IntsAt ((u.val.alloc (.cells #[.int .i64 m, .slice a (ints L).length cap] 24)).alloc (.cells #[.int .i64 0, .slice none 0 0] 24)).heap.size ((u.val.alloc (.cells #[.int .i64 m, .slice a (ints L).length cap] 24)).alloc (.cells #[.int .i64 0, .slice none 0 0] 24)) a (ints L) := hI.to ((Later.self (u.val.alloc (.cells #[.int .i64 m, .slice a (ints L).length cap] 24))).alloc _)
  have KC : Hid (Calls Try.prog 20 #[.agg #[.int .i64 m, .slice a (ints L).length cap]] ((u.val.alloc (.cells #[.int .i64 m, .slice a (ints L).length cap] 24)).alloc (.cells #[.int .i64 0, .slice none 0 0] 24)) (RetP ((u.val.alloc (.cells #[.int .i64 m, .slice a (ints L).length cap] 24)).alloc (.cells #[.int .i64 0, .slice none 0 0] 24)).heap.size ((u.val.alloc (.cells #[.int .i64 m, .slice a (ints L).length cap] 24)).alloc (.cells #[.int .i64 0, .slice none 0 0] 24)) (ListO ((u.val.alloc (.cells #[.int .i64 m, .slice a (ints L).length cap] 24)).alloc (.cells #[.int .i64 0, .slice none 0 0] 24)).heap.size (ints (those m (clsP m L))) 0))) := Lib.hid (c_minClasses (Later.self _) m r hm L hne hF hE a cap hIY hlen he)
  have KR : Hid (∀ v : Later ((u.val.alloc (.cells #[.int .i64 m, .slice a (ints L).length cap] 24)).alloc (.cells #[.int .i64 0, .slice none 0 0] 24)).heap.size ((u.val.alloc (.cells #[.int .i64 m, .slice a (ints L).length cap] 24)).alloc (.cells #[.int .i64 0, .slice none 0 0] 24)), Calls Try.prog 50 #[.agg #[.int .i64 m, .slice a (ints L).length cap]] v.val (RetP v.val.heap.size v.val (fun x w => ∃ g c, x = .tuple #[.slice (some ⟨g, 0, none⟩) (bit m) c, .int .i64 0] ∧ ITab w g (bit m) (fun j => (rk L j : Int)) ∧ v.val.heap.size ≤ g))) := Lib.hid (fun v => by
    have := c_axRanksB (Later.self v.val) m hm (ints L) a cap (hIY.to v) hlen he
    rw [toN_ints] at this
    exact this)
  have KD : Hid (∀ (v : Later ((u.val.alloc (.cells #[.int .i64 m, .slice a (ints L).length cap] 24)).alloc (.cells #[.int .i64 0, .slice none 0 0] 24)).heap.size ((u.val.alloc (.cells #[.int .i64 m, .slice a (ints L).length cap] 24)).alloc (.cells #[.int .i64 0, .slice none 0 0] 24))) (s : Nat), s < bit m → Calls Try.prog 53 #[.agg #[.int .i64 m, .slice a (ints L).length cap], .int .i64 s] v.val (RetP v.val.heap.size v.val (MatTO v.val.heap.size (cnt s m : Nat) (ints (those (cnt s m) (memB (delL m L s)))) 0))) := Lib.hid (fun v s hs => c_minDelete (Later.self v.val) m hm s hs L (fun b hb' => by have := hL b hb'; omega) (by omega) a cap (hIY.to v) he)
  have HSame := Lib.hid (gone_same hm hne hF hE)
  have HC : Hid (∀ q, q < (those m (clsP m L)).length → (those m (clsP m L)).getD q 0 < bit m) := Lib.hid (fun q hq => (mem_those.1 (show (those m (clsP m L)).getD q 0 ∈ those m (clsP m L) by simp [hq])).1)
  have HVY : Hid (∀ v : Later ((u.val.alloc (.cells #[.int .i64 m, .slice a (ints L).length cap] 24)).alloc (.cells #[.int .i64 0, .slice none 0 0] 24)).heap.size ((u.val.alloc (.cells #[.int .i64 m, .slice a (ints L).length cap] 24)).alloc (.cells #[.int .i64 0, .slice none 0 0] 24)), ∃ w : Later B W, w.val = v.val) := Lib.hid (fun v => ⟨((u.alloc _).alloc _).up v, rfl⟩)
  have y0 : ∀ w : Later ((u.val.alloc (.cells #[.int .i64 m, .slice a (ints L).length cap] 24)).alloc (.cells #[.int .i64 0, .slice none 0 0] 24)).heap.size ((u.val.alloc (.cells #[.int .i64 m, .slice a (ints L).length cap] 24)).alloc (.cells #[.int .i64 0, .slice none 0 0] 24)), w.val.cell? ⟨u.val.heap.size, 0, none⟩ = some (.int .i64 m) := fun w => q0 (((Later.self (u.val.alloc (.cells #[.int .i64 m, .slice a (ints L).length cap] 24))).alloc _).up w)
  have y1 : ∀ w : Later ((u.val.alloc (.cells #[.int .i64 m, .slice a (ints L).length cap] 24)).alloc (.cells #[.int .i64 0, .slice none 0 0] 24)).heap.size ((u.val.alloc (.cells #[.int .i64 m, .slice a (ints L).length cap] 24)).alloc (.cells #[.int .i64 0, .slice none 0 0] 24)), w.val.cell? ⟨u.val.heap.size, 1, none⟩ = some (.slice a (ints L).length cap) := fun w => q1 (((Later.self (u.val.alloc (.cells #[.int .i64 m, .slice a (ints L).length cap] 24))).alloc _).up w)
  have x0 : ((u.val.alloc (.cells #[.int .i64 m, .slice a (ints L).length cap] 24)).alloc (.cells #[.int .i64 0, .slice none 0 0] 24)).cell? ⟨u.val.heap.size, 0, none⟩ = some (.int .i64 m) := y0 (Later.self _)
  have x1 : ((u.val.alloc (.cells #[.int .i64 m, .slice a (ints L).length cap] 24)).alloc (.cells #[.int .i64 0, .slice none 0 0] 24)).cell? ⟨u.val.heap.size, 1, none⟩ = some (.slice a (ints L).length cap) := y1 (Later.self _)
  clear h hI he XM q0 q1 p0 p1 T0 HV hM1 hIY hL hlen hne hF hE
  go_enter Try.func22, Try.ntmps22
  go_upto_region 1 with fail
  generalize ((u.val.alloc (.cells #[.int .i64 m, .slice a (ints L).length cap] 24)).alloc (.cells #[.int .i64 0, .slice none 0 0] 24)) = Y at *
  generalize u.val.heap.size = gu at *
  have hBg : B ≤ gu + 1 := by omega
  go_upto_region 4 with (first | (go_at_call 20; ((with_reducible refine (KC.out).mono ?_); rintro e _ ⟨_, rfl, ⟨ad1, cp1, rfl, hO1⟩, y, rfl⟩)) | fail)
  have r0 := y0 y
  have r1 := y1 y
  have HI : Hid (IntsAt y.val.heap.size y.val ad1 (ints (those m (clsP m L)))) := Lib.hid hO1.reads
  go_upto_region 5 with (first | (go_at_call 50; ((with_reducible refine (KR.out y).mono ?_); rintro e _ ⟨_, rfl, ⟨g, c, rfl, hT, hgB⟩, v1, rfl⟩)) | fail)
  have HIV : Hid (IntsAt v1.val.heap.size v1.val ad1 (ints (those m (clsP m L)))) := Lib.hid (HI.out.to v1)
  have HT := Lib.hid hT
  have HVV : Hid (∀ w : Later v1.val.heap.size v1.val, ∃ w2 : Later Y.heap.size Y, w2.val = w.val) := Lib.hid (fun w => ⟨(y.up v1).up w, rfl⟩)
  have HG := Lib.hid (gnT_lt (L := L) HC.out)
  have hil : (ints (those m (clsP m L))).length = (those m (clsP m L)).length := ints_len _
  rw [hil]
  clear hO1 HI hT hgB r0 r1 x0 x1 KC KR
  have hCl : (those m (clsP m L)).length ≤ 256 := by have := thoseTo_len (clsP m L) (bit m); have e : those m (clsP m L) = thoseTo (clsP m L) (bit m) := rfl; rw [e]; omega
  generalize those m (clsP m L) = C at *
  obtain ⟨z, hz⟩ : ∃ z : Later v1.val.heap.size v1.val, z.val = v1.val := ⟨Later.self _, rfl⟩
  rw [← hz]
  clear hz
  generalize v1.val = V at *
  go_wp2
  go_loopw [8, 27] (fun gn i wr => ∃ (q : Nat) (v : Later V.heap.size V), q ≤ C.length ∧ gn = .int .i64 (gnT m L C q) ∧ i = .int .i64 q ∧ wr = v.val) (fun _ i _ => C.length - (intOf i).toNat)
  case atStart => exact ⟨0, z, by omega, rfl, rfl, rfl⟩
  case round =>
    clear z
    obtain ⟨q, v, hq, rfl, rfl, rfl⟩ := hrel
    by_cases hlt : q < C.length
    · obtain ⟨b1, off1, rfl, hbB1, hcell1⟩ := (HIV.out.to v).at (k := q) (by rw [ints_len]; exact hlt)
      have c0 : v.val.cell? ⟨b1, off1 + q, none⟩ = some (.int .i64 ((C.getD q 0 : Nat) : Int)) := by
        have := hcell1 (Later.self _) q (by rw [ints_len]; exact hlt)
        rw [ints_getD] at this
        exact this
      have hx := HC.out q hlt
      have hq1 : Hid (q + 1 ≤ C.length) := Lib.hid hlt
      have hg := HG.out q hq
      have t0 : v.val.cell? ⟨g, C.getD q 0, none⟩ = some (.int .i64 (rk L (C.getD q 0) : Int)) := (HT.out.keep v.below).cell hx
      have o1 := i64_or (gnT m L C q) (C.getD q 0) (by omega) (by omega)
      have o2 := i64_low (C.getD q 0) (by omega)
      have hlw : low (C.getD q 0) ≤ C.getD q 0 := nand_le _ _
      have hor : gnT m L C q ||| C.getD q 0 < bit m := Nat.or_lt_two_pow hg hx
      have o3 := i64_andNot (gnT m L C q ||| C.getD q 0) (low (C.getD q 0)) (by omega) (by omega)
      have w2 := IntWalk.i64_in (-((C.getD q 0 : Nat) : Int)) (by omega)
      have l1 : ((C.getD q 0 : Nat) : Int) < (bit m : Int) := by omega
      by_cases hr : 0 < rk L (C.getD q 0)
      · have HS : Hid (gnT m L C (q + 1) = nand (gnT m L C q ||| C.getD q 0) (low (C.getD q 0))) := Lib.hid (by rw [gnT, if_pos hr])
        clear hcell1
        generalize low (C.getD q 0) = lw at *
        generalize gnT m L C q ||| C.getD q 0 = go at *
        generalize rk L (C.getD q 0) = rr at *
        generalize C.getD q 0 = x at *
        generalize gnT m L C q = gq at *
        go_wp2
        go_roundw
        case rel => exact ⟨q+1, v, hq1.out, by rw [HS.out], by go_num, rfl⟩
        case measure => have := hq1.out; simp [intOf]; omega
      · have HS : Hid (gnT m L C (q + 1) = gnT m L C q ||| C.getD q 0) := Lib.hid (by rw [gnT, if_neg hr])
        clear hcell1
        generalize gnT m L C q ||| C.getD q 0 = go at *
        generalize rk L (C.getD q 0) = rr at *
        generalize C.getD q 0 = x at *
        generalize gnT m L C q = gq at *
        go_wp2
        go_roundw
        case rel => exact ⟨q+1, v, hq1.out, by rw [HS.out], by go_num, rfl⟩
        case measure => have := hq1.out; simp [intOf]; omega
    · have hqe : q = C.length := by omega
      subst hqe
      have hgl := HG.out C.length (Nat.le_refl _)
      rw [HSame.out] at hgl ⊢
      obtain ⟨w2, hw2⟩ := HVV.out v
      rw [← hw2]
      have KD1 := Lib.hid (KD.out w2 (rgT L m) hgl)
      have r0 := y0 w2
      have r1 := y1 w2
      clear KD HSame HG hgl HVV HT HIV hw2
      generalize ints (those (cnt (rgT L m) m) (memB (delL m L (rgT L m)))) = A at *
      generalize cnt (rgT L m) m = cn at *
      generalize rgT L m = rg at *
      have f0 : ∀ (w : Later Y.heap.size Y), w.val.cell? ⟨gu + 1, 0, none⟩ = some (.int .i64 0) := fun w => (HX.out.keep_at w.below hgr).cell rfl
      have z0 : ∀ (w : Later Y.heap.size Y), w.val.frozen? ⟨gu + 1, 0, none⟩ = false := fun w => (HX.out.keep_at w.below hgr).fz 0
      have f1 : ∀ (w : Later Y.heap.size Y) (x0 : Value), (w.val.setCell ⟨gu + 1, 0, none⟩ x0).cell? ⟨gu + 1, 1, none⟩ = some (.slice none 0 0) := fun w x0 => ((HX.out.keep_at w.below hgr).set 0 x0).cell rfl
      have z1 : ∀ (w : Later Y.heap.size Y) (x0 : Value), (w.val.setCell ⟨gu + 1, 0, none⟩ x0).frozen? ⟨gu + 1, 1, none⟩ = false := fun w x0 => ((HX.out.keep_at w.below hgr).set 0 x0).fz 1
      go_wp2_with (first | (go_at_call 53; (with_reducible refine (KD1.out).mono ?_); rintro e _ ⟨_, rfl, ⟨ad3, cp3, rfl, hO3⟩, v3, rfl⟩; obtain ⟨w3, hw3⟩ : ∃ w3 : Later Y.heap.size Y, w3.val = v3.val := ⟨w2.up v3, rfl⟩; rw [← hw3] at hO3 ⊢; clear hw3) | fail)
      have hws := w2.size
      have hgu2 : gu + 1 < w2.val.heap.size := by omega
      refine bodyPost_ret (results_row (vs := [.int .i64 cn, .slice ad3 A.length cp3]) rfl _ _ (gu + 1) rfl (((HX.out.keep w3.below).set 0 _).set 1 _) Try.underlying24 (by kernel_rfl)) rfl ?_
      obtain ⟨x1, hx1⟩ := later_set (HVY.out w3) (g := gu + 1) (i := 0) hBg (.int .i64 cn)
      obtain ⟨x2, hx2⟩ := later_set ⟨x1, hx1⟩ (g := gu + 1) (i := 1) hBg (.slice ad3 A.length cp3)
      exact RetP.of ⟨x2, hx2⟩ ⟨_, _, rfl, ((hO3.set hgu2 _).set hgu2 _).mono (Nat.le_trans hB (Nat.le_trans (by omega) hws))⟩

end Go.Proofs.Ytefkhnibempibaa

namespace Go.Proofs.Ytefkhnibempibaa
open Go.RowKit
set_option linter.unusedVariables false

set_option maxRecDepth 100000 in
set_option maxHeartbeats 4000000 in
theorem c_minComps_no {B : Nat} {W : World} (u : Later B W) (n : Int) (l : List Int) (a : Option Addr) (cap : Nat) (e : Int) (h : IntsAt B W a l) (hlen : l.length ≤ 4611686018427387904) (he : MatIs n l e) (h0 : e ≠ 0) :
    Calls Try.prog 21 #[.agg #[.int .i64 n, .slice a l.length cap]] u.val (RetP B W (ListE [] e)) := by
  have T0 : Hid (Two (u.val.alloc (.cells #[.int .i64 n, .slice a l.length cap] 24)) u.val.heap.size 24 (.int .i64 n) (.slice a l.length cap)) := Lib.hid (Two.new _ _ _ _)
  have hrr : u.val.heap.size < (u.val.alloc (.cells #[.int .i64 n, .slice a l.length cap] 24)).heap.size := by simp
  have hI : IntsAt (u.val.alloc (.cells #[.int .i64 n, .slice a l.length cap] 24)).heap.size (u.val.alloc (.cells #[.int .i64 n, .slice a l.length cap] 24)) a l := h.to (u.alloc _)
  have HV : Hid (∀ v : Later (u.val.alloc (.cells #[.int .i64 n, .slice a l.length cap] 24)).heap.size (u.val.alloc (.cells #[.int .i64 n, .slice a l.length cap] 24)), ∃ w : Later B W, w.val = v.val) := Lib.hid (fun v => ⟨(u.alloc _).up v, rfl⟩)
  have q0 : ∀ w : Later (u.val.alloc (.cells #[.int .i64 n, .slice a l.length cap] 24)).heap.size (u.val.alloc (.cells #[.int .i64 n, .slice a l.length cap] 24)), w.val.cell? ⟨u.val.heap.size, 0, none⟩ = some (.int .i64 n) := fun w => (T0.out.keep w.below).c0
  have q1 : ∀ w : Later (u.val.alloc (.cells #[.int .i64 n, .slice a l.length cap] 24)).heap.size (u.val.alloc (.cells #[.int .i64 n, .slice a l.length cap] 24)), w.val.cell? ⟨u.val.heap.size, 1, none⟩ = some (.slice a l.length cap) := fun w => (T0.out.keep w.below).c1
  have p0 : (u.val.alloc (.cells #[.int .i64 n, .slice a l.length cap] 24)).cell? ⟨u.val.heap.size, 0, none⟩ = some (.int .i64 n) := T0.out.c0
  have p1 : (u.val.alloc (.cells #[.int .i64 n, .slice a l.length cap] 24)).cell? ⟨u.val.heap.size, 1, none⟩ = some (.slice a l.length cap) := T0.out.c1
  have KR : Hid (Calls Try.prog 48 #[.agg #[.int .i64 n, .slice a l.length cap]] (u.val.alloc (.cells #[.int .i64 n, .slice a l.length cap] 24)) (RetP (u.val.alloc (.cells #[.int .i64 n, .slice a l.length cap] 24)).heap.size (u.val.alloc (.cells #[.int .i64 n, .slice a l.length cap] 24)) (ListE [] e))) := Lib.hid (c_axCirc_no (Later.self (u.val.alloc (.cells #[.int .i64 n, .slice a l.length cap] 24))) n l a cap e hI hlen he h0)
  have d0 : (e != 0) = true := by rw [bne_iff_ne]; exact h0
  clear h hI he h0 T0
  go_enter Try.func21, Try.ntmps21
  go_wp2_with (first | (go_at_call 48; (with_reducible refine (KR.out).mono ?_); rintro e _ ⟨_, rfl, ⟨x, rfl, hr⟩, v1, rfl⟩) | fail)
  go_ret2
  exact RetP.of (HV.out v1) ListE.no

set_option maxRecDepth 100000 in
set_option maxHeartbeats 16000000 in
theorem c_minComps {B : Nat} {W : World} (u : Later B W) (m r : Nat) (hm : m ≤ 8) (L : List Nat) (hne : L ≠ []) (hF : Fam8 L r) (hE : Exch L) (hL : ∀ b, b ∈ L → b < bit m) (a : Option Addr) (cap : Nat) (h : IntsAt B W a (ints L)) (hlen : (ints L).length ≤ 4611686018427387904) (he : MatIs (m : Int) (ints L) 0) :
    Calls Try.prog 21 #[.agg #[.int .i64 m, .slice a (ints L).length cap]] u.val (RetP B W (ListO B (ints (those m (memB (cmpL m L)))) 0)) := by
  have hB := u.size
  have hb := bit_le m hm
  have T0 : Hid (Two (u.val.alloc (.cells #[.int .i64 (m : Int), .slice a (ints L).length cap] 24)) u.val.heap.size 24 (.int .i64 (m : Int)) (.slice a (ints L).length cap)) := Lib.hid (Two.new _ _ _ _)
  have hrr : u.val.heap.size < (u.val.alloc (.cells #[.int .i64 (m : Int), .slice a (ints L).length cap] 24)).heap.size := by simp
  have hI : IntsAt (u.val.alloc (.cells #[.int .i64 (m : Int), .slice a (ints L).length cap] 24)).heap.size (u.val.alloc (.cells #[.int .i64 (m : Int), .slice a (ints L).length cap] 24)) a (ints L) := h.to (u.alloc _)
  have HV : Hid (∀ v : Later (u.val.alloc (.cells #[.int .i64 (m : Int), .slice a (ints L).length cap] 24)).heap.size (u.val.alloc (.cells #[.int .i64 (m : Int), .slice a (ints L).length cap] 24)), ∃ w : Later B W, w.val = v.val) := Lib.hid (fun v => ⟨(u.alloc _).up v, rfl⟩)
  have q0 : ∀ w : Later (u.val.alloc (.cells #[.int .i64 (m : Int), .slice a (ints L).length cap] 24)).heap.size (u.val.alloc (.cells #[.int .i64 (m : Int), .slice a (ints L).length cap] 24)), w.val.cell? ⟨u.val.heap.size, 0, none⟩ = some (.int .i64 (m : Int)) := fun w => (T0.out.keep w.below).c0
  have q1 : ∀ w : Later (u.val.alloc (.cells #[.int .i64 (m : Int), .slice a (ints L).length cap] 24)).heap.size (u.val.alloc (.cells #[.int .i64 (m : Int), .slice a (ints L).length cap] 24)), w.val.cell? ⟨u.val.heap.size, 1, none⟩ = some (.slice a (ints L).length cap) := fun w => (T0.out.keep w.below).c1
  have p0 : (u.val.alloc (.cells #[.int .i64 (m : Int), .slice a (ints L).length cap] 24)).cell? ⟨u.val.heap.size, 0, none⟩ = some (.int .i64 (m : Int)) := T0.out.c0
  have p1 : (u.val.alloc (.cells #[.int .i64 (m : Int), .slice a (ints L).length cap] 24)).cell? ⟨u.val.heap.size, 1, none⟩ = some (.slice a (ints L).length cap) := T0.out.c1
  have KR : Hid (Calls Try.prog 48 #[.agg #[.int .i64 m, .slice a (ints L).length cap]] (u.val.alloc (.cells #[.int .i64 (m : Int), .slice a (ints L).length cap] 24)) (RetP (u.val.alloc (.cells #[.int .i64 (m : Int), .slice a (ints L).length cap] 24)).heap.size (u.val.alloc (.cells #[.int .i64 (m : Int), .slice a (ints L).length cap] 24)) (ListO (u.val.alloc (.cells #[.int .i64 (m : Int), .slice a (ints L).length cap] 24)).heap.size (ints (those m (circP L))) 0))) := Lib.hid (by
    have := c_axCircO (Later.self (u.val.alloc (.cells #[.int .i64 (m : Int), .slice a (ints L).length cap] 24))) m hm (ints L) a cap hI hlen he
    rw [toN_ints] at this
    exact this)
  have HCm : Hid (∀ c, c ∈ those m (circP L) → c < bit m) := Lib.hid (fun c hc => (mem_those.1 hc).1)
  have HDef : Hid (cmpL m L = (List.range m).map (cmp (those m (circP L)) m)) := Lib.hid rfl
  have hCl : (those m (circP L)).length ≤ 256 := by have := thoseTo_len (circP L) (bit m); have e : those m (circP L) = thoseTo (circP L) (bit m) := rfl; rw [e]; omega
  have Q0 := Lib.hid q0
  clear h hI he T0 hne hF hE hlen hL
  generalize cmpL m L = R at *
  generalize those m (circP L) = C at *
  have HC : Hid (∀ q, q < C.length → C.getD q 0 < bit m) := Lib.hid (fun q hq => HCm.out _ (by simp [hq]))
  go_enter Try.func21, Try.ntmps21
  go_upto_region 4 with (first | (go_at_call 48; (with_reducible refine (KR.out).mono ?_); rintro e _ ⟨_, rfl, ⟨ad1, cp1, rfl, hO1⟩, v1, rfl⟩) | fail)
  have HI : Hid (IntsAt v1.val.heap.size v1.val ad1 (ints C)) := Lib.hid hO1.reads
  have HV1 : Hid (∀ y : Later v1.val.heap.size v1.val, ∃ w : Later B W, w.val = y.val) := Lib.hid (fun y => HV.out (v1.up y))
  have Q1 : Hid (∀ w : Later v1.val.heap.size v1.val, w.val.cell? ⟨u.val.heap.size, 0, none⟩ = some (.int .i64 m)) := Lib.hid (fun w => Q0.out (v1.up w))
  have HB2 : Hid (B ≤ v1.val.heap.size) := Lib.hid (by have := v1.size; simp at this; omega)
  obtain ⟨y, hy⟩ : ∃ y : Later v1.val.heap.size v1.val, y.val = v1.val := ⟨Later.self _, rfl⟩
  rw [← hy, ints_len C]
  clear hy hO1 HV KR q0 q1 p0 p1 hrr Q0
  generalize v1.val = V at *
  generalize u.val.heap.size = gu at *
  clear v1
  have qy := Q1.out y
  go_wp2
  go_loopw [6, 21] (fun t i wr => ∃ (k : Nat) (ad : Option Addr) (cp : Nat) (v : Later V.heap.size V), k ≤ m ∧ t = .slice ad (ints ((List.range k).map (cmp C m))).length cp ∧ i = .int .i64 k ∧ wr = v.val ∧ Hid (Own V.heap.size v.val ad cp (ints ((List.range k).map (cmp C m))))) (fun _ i _ => m - (intOf i).toNat)
  case atStart => exact ⟨0, none, 0, y, by omega, rfl, rfl, rfl, Lib.hid (Own.nil _ _)⟩
  case round =>
    clear y qy
    obtain ⟨k, ad, cp, v, hk, rfl, rfl, rfl, HO⟩ := hrel
    have qv := Q1.out v
    by_cases hlt : k < m
    · have bc := bit_cast k
      have bd := bit_lt k (by omega)
      have w1 := IntWalk.i64_in (bit k : Int) (by omega)
      have hbk : bit k < bit m := bit_lt_bit hlt
      have HTl := Lib.hid (fun t => cmT_lt (C := C) HCm.out hbk t)
      have HRl := Lib.hid (fun t q (hq : q ≤ C.length) => crT_lt (C := C) HCm.out (cmT_lt (C := C) HCm.out hbk t) q hq)
      have HCmp : Hid (cmp C m k = cmT C (bit k) m) := Lib.hid rfl
      have HT0 : Hid (cmT C (bit k) 0 = bit k) := Lib.hid rfl
      go_wp2
      go_loopw [8, 28] (fun s t wr => ∃ (j : Nat) (v2 : Later V.heap.size V), j ≤ m ∧ s = .int .i64 (cmT C (bit k) j) ∧ t = .int .i64 j ∧ wr = v2.val ∧ Hid (Own V.heap.size v2.val ad cp (ints ((List.range k).map (cmp C m))))) (fun _ t _ => m - (intOf t).toNat)
      case atStart => exact ⟨0, v, by omega, by rw [HT0.out], rfl, rfl, HO⟩
      case round =>
        clear v qv HO
        obtain ⟨j, v2, hj, rfl, rfl, rfl, HO⟩ := hrel
        have qv := Q1.out v2
        by_cases hjm : j < m
        · have HR0 : Hid (crT C (cmT C (bit k) j) 0 = cmT C (bit k) j) := Lib.hid rfl
          have HRe : Hid (cmT C (bit k) (j + 1) = crT C (cmT C (bit k) j) C.length) := Lib.hid rfl
          have HR := Lib.hid (HRl.out j)
          have HSy : Hid (∀ q, C.getD q 0 &&& crT C (cmT C (bit k) j) q ≠ 0 → crT C (cmT C (bit k) j) (q + 1) = crT C (cmT C (bit k) j) q ||| C.getD q 0) := Lib.hid (fun q h => by rw [crT, if_pos h])
          have HSn : Hid (∀ q, ¬ C.getD q 0 &&& crT C (cmT C (bit k) j) q ≠ 0 → crT C (cmT C (bit k) j) (q + 1) = crT C (cmT C (bit k) j) q) := Lib.hid (fun q h => by rw [crT, if_neg h])
          go_wp2
          go_loopw [8, 32] (fun s t wr => ∃ (q : Nat) (v3 : Later V.heap.size V), q ≤ C.length ∧ s = .int .i64 (crT C (cmT C (bit k) j) q) ∧ t = .int .i64 q ∧ wr = v3.val ∧ Hid (Own V.heap.size v3.val ad cp (ints ((List.range k).map (cmp C m))))) (fun _ t _ => C.length - (intOf t).toNat)
          case atStart => exact ⟨0, v2, by omega, by rw [HR0.out], rfl, rfl, HO⟩
          case round =>
            clear v2 qv HO
            obtain ⟨q, v3, hq, rfl, rfl, rfl, HO⟩ := hrel
            by_cases hql : q < C.length
            · obtain ⟨b1, off1, rfl, hbB1, hcell1⟩ := (HI.out.to v3).at (k := q) (by rw [ints_len]; exact hql)
              have c0 : v3.val.cell? ⟨b1, off1 + q, none⟩ = some (.int .i64 ((C.getD q 0 : Nat) : Int)) := by
                have := hcell1 (Later.self _) q (by rw [ints_len]; exact hql)
                rw [ints_getD] at this
                exact this
              have hx := HC.out q hql
              have hg := HR.out q hq
              have hq1 : Hid (q + 1 ≤ C.length) := Lib.hid hql
              have o1 := i64_and (C.getD q 0) (crT C (cmT C (bit k) j) q) (by omega) (by omega)
              have o2 := i64_or (crT C (cmT C (bit k) j) q) (C.getD q 0) (by omega) (by omega)
              by_cases hz : C.getD q 0 &&& crT C (cmT C (bit k) j) q ≠ 0
              · have HS := Lib.hid (HSy.out q hz)
                have e1 : (((C.getD q 0 &&& crT C (cmT C (bit k) j) q : Nat) : Int) != 0) = true := by rw [bne_iff_ne]; omega
                clear hcell1 hz
                generalize C.getD q 0 &&& crT C (cmT C (bit k) j) q = an at *
                generalize C.getD q 0 = x at *
                generalize crT C (cmT C (bit k) j) q = g at *
                go_wp2
                go_roundw
                case rel => exact ⟨q+1, v3, hq1.out, by rw [HS.out], by go_num, rfl, HO⟩
                case measure => have := hq1.out; simp [intOf]; omega
              · have HS := Lib.hid (HSn.out q hz)
                have e0 : C.getD q 0 &&& crT C (cmT C (bit k) j) q = 0 := Decidable.not_not.1 hz
                rw [e0] at o1
                clear hcell1 hz e0
                generalize C.getD q 0 = x at *
                generalize crT C (cmT C (bit k) j) q = g at *
                go_wp2
                go_roundw
                case rel => exact ⟨q+1, v3, hq1.out, by rw [HS.out], by go_num, rfl, HO⟩
                case measure => have := hq1.out; simp [intOf]; omega
            · have hqe : q = C.length := by omega
              subst hqe
              rw [← HRe.out]
              go_wp2
              go_roundw
              case rel => exact ⟨j+1, v3, by omega, rfl, by go_num, rfl, HO⟩
              case measure => simp [intOf]; omega
        · have hje : j = m := by omega
          subst hje
          rw [← HCmp.out]
          have HTk : Hid ((List.range (k + 1)).map (cmp C j) = (List.range k).map (cmp C j) ++ [cmp C j k]) := Lib.hid (by rw [List.range_succ, List.map_append]; rfl)
          have HLn : Hid ((ints ((List.range k).map (cmp C j))).length + 1 ≤ 1099511627776) := Lib.hid (by rw [ints_len, List.length_map, List.length_range]; omega)
          obtain ⟨v3, hv3⟩ : ∃ v3 : Later v2.val.heap.size v2.val, v3.val = v2.val := ⟨Later.self _, rfl⟩
          rw [← hv3]
          clear hv3
          generalize (List.range k).map (cmp C j) = T at *
          generalize cmp C j k = z at *
          have qv3 : v3.val.cell? ⟨gu, 0, none⟩ = some (.int .i64 j) := Q1.out (v2.up v3)
          go_wp2_with (first | (at_builtin; refine wpList_push (B := V.heap.size) (W := V) (w := v3.val) (v2.up v3).below (v2.up v3).size rfl _ _ rfl (ints T) ad cp (z : Int) rfl (HO.out.keep v3.below) rfl (by have := HLn.out; omega) ?_; intro u2 ad2 cp2 hown))
          go_roundw
          case rel => exact ⟨k+1, ad2, cp2, u2, by omega, by rw [HTk.out, ints_snoc]; simp, by go_num, rfl, by rw [HTk.out, ints_snoc]; exact hown⟩
          case measure => simp [intOf]; omega
    · have hke : k = m := by omega
      subst hke
      rw [← HDef.out] at HO ⊢
      have HRl : Hid (∀ s, s ∈ R → s < bit k) := Lib.hid (fun s hs => by
        rw [HDef.out] at hs
        obtain ⟨i, hi, rfl⟩ := List.mem_map.1 hs
        exact cmT_lt HCm.out (bit_lt_bit (List.mem_range.1 hi)) k)
      have HRn : Hid ((ints R).length ≤ 17592186044416) := Lib.hid (by rw [HDef.out, ints_len, List.length_map, List.length_range]; omega)
      have e1 : cpt (srt (ints R)) = ints (those k (memB R)) := cpt_srt HRl.out
      have hAl : Hid ((ints (those k (memB R))).length ≤ 17592186044416) := Lib.hid (by rw [ints_len]; have := thoseTo_len (memB R) (bit k); have e : those k (memB R) = thoseTo (memB R) (bit k) := rfl; rw [e]; omega)
      have K1 : Hid (Calls Try.prog 51 #[.slice ad (ints R).length cp] v.val (fun e w' => e = .returned (.tuple #[]) ∧ ∃ v4 : Later V.heap.size V, w' = v4.val ∧ Own V.heap.size v4.val ad cp (srt (ints R)) ∧ (∀ k', k' < v.val.heap.size → (∀ off, ad ≠ some ⟨k', off, none⟩) → v4.val.heap[k']? = v.val.heap[k']?))) := Lib.hid (c_sort v (ints R) ad cp HO.out HRn.out)
      have K2 : Hid (∀ (w : Later V.heap.size V), Own V.heap.size w.val ad cp (srt (ints R)) → Calls Try.prog 52 #[.slice ad (ints R).length cp] w.val (fun e w' => e = .returned (.slice ad (ints (those k (memB R))).length cp) ∧ ∃ v2 : Later V.heap.size V, w' = v2.val ∧ Own V.heap.size v2.val ad cp (ints (those k (memB R))) ∧ (∀ k', k' < w.val.heap.size → (∀ off, ad ≠ some ⟨k', off, none⟩) → v2.val.heap[k']? = w.val.heap[k']?))) := Lib.hid (fun w h => by
        have := c_compact w _ ad cp h
        rw [srt_len, e1] at this
        exact this)
      generalize ints (those k (memB R)) = A at *
      have K3 : Hid (∀ (w : Later V.heap.size V), Own V.heap.size w.val ad cp A → Calls Try.prog 46 #[.slice ad A.length cp] w.val (RetOwn V.heap.size V A)) := Lib.hid (fun w h => by
        refine (c_clone (Later.self w.val) A ad cp h.reads hAl.out).mono ?_
        rintro e _ ⟨_, rfl, ⟨ad3, cp3, rfl, hO3⟩, v3, rfl⟩
        exact RetP.mk (w.up v3) ⟨ad3, cp3, rfl, hO3.mono w.size⟩)
      clear HO e1 HDef HRl HRn
      generalize (ints R).length = len at *
      go_wp2_with (first | (go_at_call 51; (with_reducible refine (K1.out).mono ?_); rintro e _ ⟨rfl, v4, rfl, hO4, _⟩) | (go_at_call 52; (with_reducible refine (K2.out v4 hO4).mono ?_); rintro e _ ⟨rfl, v5, rfl, hO5, _⟩) | (go_at_call 46; (with_reducible refine (K3.out v5 hO5).mono ?_); rintro e _ ⟨_, rfl, ⟨ad3, cp3, rfl, hO3⟩, v6, rfl⟩) | fail)
      go_ret2
      exact RetP.of (HV1.out v6) ⟨ad3, cp3, rfl, hO3.mono HB2.out⟩

end Go.Proofs.Ytefkhnibempibaa
