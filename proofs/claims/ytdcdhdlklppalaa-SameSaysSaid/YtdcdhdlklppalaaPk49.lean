
/-
  rotalaw.SameSays where the first one is no matroid.
-/
import Derived.Test.YtdcdhdlklppalaaPk48
import Derived.Test.YtdcdhdlklppalaaPk36
namespace Go.Proofs.Ytdcdhdlklppalaa
open Go.RowKit
set_option linter.unusedVariables false

set_option maxRecDepth 100000 in
set_option maxHeartbeats 40000000 in
theorem law_ss_no {B : Nat} {W : World} (u : Later B W) (n1 n2 : Int) (l1 l2 p : List Int) (a b c : Option Addr) (cap capb capc : Nat) (e e2 : Int) (h1 : IntsAt B W a l1) (h2 : IntsAt B W b l2) (hlen1 : l1.length ≤ 4611686018427387904) (hlen2 : l2.length ≤ 4611686018427387904) (he1 : MatIs n1 l1 e) (he2 : MatIs n2 l2 e2) (h0 : e ≠ 0) :
    Calls Try.prog 3 #[.agg #[.int .i64 n1, .slice a l1.length cap], .agg #[.int .i64 n2, .slice b l2.length capb], .slice c p.length capc] u.val (Ret B W (.bool true)) := by
  obtain ⟨V, hV⟩ : ∃ V, V = u.val := ⟨_, rfl⟩
  have HU : Hid (∀ w, Bel V w → ∃ w' : Later B W, w'.val = w) := Lib.hid (fun w h => by
    subst hV
    obtain ⟨v, rfl⟩ := h.later
    exact ⟨u.up v, rfl⟩)
  have I1 : IntsAt V.heap.size V a l1 := by rw [hV]; exact h1.to u
  have I2 : IntsAt V.heap.size V b l2 := by rw [hV]; exact h2.to u
  have T1 : ∀ w, Bel V w → IntsAt w.heap.size w a l1 := fun w h => by obtain ⟨v, rfl⟩ := h.later; exact I1.to v
  have T2 : ∀ w, Bel V w → IntsAt w.heap.size w b l2 := fun w h => by obtain ⟨v, rfl⟩ := h.later; exact I2.to v
  rw [← hV]
  clear hV h1 h2 I1 I2
  have KM1 : Hid (∀ w, Bel V w → Calls Try.prog 4 #[.agg #[.int .i64 n1, .slice a l1.length cap]] w (Ret w.heap.size w (.int .i64 e))) := Lib.hid (fun w h => c_refMatroid (Later.self w) n1 l1 a cap e (T1 w h) hlen1 he1)
  have KpR : Hid (∀ w, Bel V w → Calls Try.prog 11 #[.agg #[.int .i64 n1, .slice a l1.length cap], .slice c p.length capc] w (RetP w.heap.size w (MatTO w.heap.size 0 [] e))) := Lib.hid (fun w h => c_sameRename_no (Later.self w) n1 l1 a cap e (T1 w h) hlen1 he1 h0 _)
  have KpI : Hid (∀ w, Bel V w → Calls Try.prog 12 #[.agg #[.int .i64 n1, .slice a l1.length cap], .agg #[.int .i64 n2, .slice b l2.length capb]] w (Ret w.heap.size w (.tuple #[.slice none 0 0, .int .i64 e]))) := Lib.hid (fun w h => c_sameIso_no (Later.self w) n1 n2 l1 l2 a b cap capb (T1 w h) (T2 w h) hlen1 hlen2 e e2 e he1 he2 (.inl ⟨h0, rfl⟩))
  have KpG : Hid (∀ w, Bel V w → Calls Try.prog 13 #[.agg #[.int .i64 n1, .slice a l1.length cap]] w (Ret w.heap.size w (.tuple #[.int .i64 0, .int .i64 e]))) := Lib.hid (fun w h => c_sameGroup_no (Later.self w) n1 l1 a cap e (T1 w h) hlen1 he1 h0)
  have KpO : Hid (∀ w, Bel V w → Calls Try.prog 14 #[.agg #[.int .i64 n1, .slice a l1.length cap]] w (Ret w.heap.size w (.tuple #[.slice none 0 0, .int .i64 e]))) := Lib.hid (fun w h => c_sameOrbits_no (Later.self w) n1 l1 a cap e (T1 w h) hlen1 he1 h0)
  have KpC : Hid (∀ w, Bel V w → Calls Try.prog 15 #[.agg #[.int .i64 n1, .slice a l1.length cap]] w (RetP w.heap.size w (MatTO w.heap.size 0 [] e))) := Lib.hid (fun w h => c_sameCanon_no (Later.self w) n1 l1 a cap e (T1 w h) hlen1 he1 h0)
  have HE := Lib.hid h0
  have d9 : (e == 0) = false := by rw [beq_eq_false_iff_ne]; exact h0
  clear T1 T2 he1 he2 h0
  have hs1 : (V.alloc (.cells #[.int .i64 n1, .slice a l1.length cap] 24)).heap.size = V.heap.size + 1 := by simp
  have HA : Hid (RowL ((V.alloc (.cells #[.int .i64 n1, .slice a l1.length cap] 24)).alloc (.cells #[.int .i64 n2, .slice b l2.length capb] 24)) V.heap.size 24 [.int .i64 n1, .slice a l1.length cap]) := Lib.hid ((RowL.new _ _ _).keep ((Below.refl _ _).alloc (Nat.le_refl _) _))
  have HB2 : Hid (RowL ((V.alloc (.cells #[.int .i64 n1, .slice a l1.length cap] 24)).alloc (.cells #[.int .i64 n2, .slice b l2.length capb] 24)) (V.heap.size + 1) 24 [.int .i64 n2, .slice b l2.length capb]) := Lib.hid (by
    have := RowL.new (V.alloc (.cells #[.int .i64 n1, .slice a l1.length cap] 24)) 24 [.int .i64 n2, .slice b l2.length capb]
    rwa [hs1] at this)
  have HVY : Hid (Bel V ((V.alloc (.cells #[.int .i64 n1, .slice a l1.length cap] 24)).alloc (.cells #[.int .i64 n2, .slice b l2.length capb] 24))) := Lib.hid (((Bel.of (Later.self V)).alloc _).alloc _)
  clear hs1
  go_enter Try.func3, Try.ntmps3
  go_upto_region 1 with fail
  generalize ((V.alloc (.cells #[.int .i64 n1, .slice a l1.length cap] 24)).alloc (.cells #[.int .i64 n2, .slice b l2.length capb] 24)) = Y at *
  generalize V.heap.size = g0 at *
  have qa : ∀ w, Bel Y w → w.cell? ⟨g0, 0, none⟩ = some (.int .i64 n1) ∧ w.cell? ⟨g0, 1, none⟩ = some (.slice a l1.length cap) ∧ w.cell? ⟨g0 + 1, 0, none⟩ = some (.int .i64 n2) ∧ w.cell? ⟨g0 + 1, 1, none⟩ = some (.slice b l2.length capb) := fun w hw => by
    obtain ⟨v, rfl⟩ := hw.later
    exact ⟨(HA.out.keep v.below).cell rfl, (HA.out.keep v.below).cell rfl, (HB2.out.keep v.below).cell rfl, (HB2.out.keep v.below).cell rfl⟩
  have hbY : Bel Y Y := Bel.of (Later.self Y)
  obtain ⟨p0, p1, p2, p3⟩ := qa Y hbY
  have KA := Lib.hid (KM1.out Y HVY.out)
  generalize g0 + 1 = g1 at *
  clear HA HB2 u
  go_upto_region 5 with (first | (go_at_call 4; (with_reducible refine (KA.out).mono ?_); rintro e _ ⟨rfl, v2, rfl⟩; have hb2 := hbY.up v2) | fail)
  clear KA KM1 p0 p1 p2 p3 hbY
  go_upto_region 6 with fail
  have hz1 : (v2.val.alloc (.cells #[.int .i64 0, .slice none 0 0] 24)).heap.size = v2.val.heap.size + 1 := by simp
  have N10 : Hid (BMs ((v2.val.alloc (.cells #[.int .i64 0, .slice none 0 0] 24)).alloc (.cells #[.int .i64 0, .slice none 0 0] 24)) v2.val.heap.size 0 []) := Lib.hid ⟨none, 0, (RowL.new _ _ _).keep ((Below.refl _ _).alloc (Nat.le_refl _) _), IntsAt.nil⟩
  have N11 : Hid (BMs ((v2.val.alloc (.cells #[.int .i64 0, .slice none 0 0] 24)).alloc (.cells #[.int .i64 0, .slice none 0 0] 24)) (v2.val.heap.size + 1) 0 []) := Lib.hid ⟨none, 0, by
    have h := RowL.new (v2.val.alloc (.cells #[.int .i64 0, .slice none 0 0] 24)) 24 [.int .i64 0, .slice none 0 0]
    rwa [hz1] at h, IntsAt.nil⟩
  have hbA : Bel Y ((v2.val.alloc (.cells #[.int .i64 0, .slice none 0 0] 24)).alloc (.cells #[.int .i64 0, .slice none 0 0] 24)) := (hb2.alloc _).alloc _
  clear hz1 hb2
  generalize ((v2.val.alloc (.cells #[.int .i64 0, .slice none 0 0] 24)).alloc (.cells #[.int .i64 0, .slice none 0 0] 24)) = WA at *
  generalize v2.val.heap.size = h at *
  clear v2
  have K1 := Lib.hid (KpR.out WA (belTr HVY.out hbA))
  obtain ⟨p0, p1, p2, p3⟩ := qa WA hbA
  go_upto_region 19 with (first | (go_at_call 11; (with_reducible refine (K1.out).mono ?_); rintro e _ ⟨_, rfl, ⟨adA, cpA, rfl, hOA⟩, vA, rfl⟩; have HOA := Lib.hid hOA; clear hOA) | fail)
  have N16 : Hid (BMs (vA.val.alloc (.cells #[.int .i64 0, .slice adA ([] : List Int).length cpA] 24)) vA.val.heap.size 0 []) := Lib.hid (BMs.new HOA.out.reads)
  have hc1 : Bel WA (vA.val.alloc (.cells #[.int .i64 0, .slice adA ([] : List Int).length cpA] 24)) := (Bel.of vA).alloc _
  replace N10 := Lib.hid (N10.out.bel hc1)
  replace N11 := Lib.hid (N11.out.bel hc1)
  have hbB : Bel Y (vA.val.alloc (.cells #[.int .i64 0, .slice adA ([] : List Int).length cpA] 24)) := belTr hbA hc1
  generalize vA.val.heap.size = h16 at *
  generalize (vA.val.alloc (.cells #[.int .i64 0, .slice adA ([] : List Int).length cpA] 24)) = WB at *
  clear HOA vA hc1 hbA K1 KpR p0 p1 p2 p3 WA
  have K := Lib.hid (KpI.out WB (belTr HVY.out hbB))
  obtain ⟨p0, p1, p2, p3⟩ := qa WB hbB
  go_upto_region 20 with (first | (go_at_call 12; (with_reducible refine (K.out).mono ?_); rintro e _ ⟨rfl, vv, rfl⟩) | fail)
  have hc : Bel WB vv.val := Bel.of vv
  replace N10 := Lib.hid (N10.out.bel hc)
  replace N11 := Lib.hid (N11.out.bel hc)
  replace N16 := Lib.hid (N16.out.bel hc)
  have hbC : Bel Y vv.val := belTr hbB hc
  generalize vv.val = WC at *
  clear vv hc hbB K KpI p0 p1 p2 p3 WB
  have K := Lib.hid (KpG.out WC (belTr HVY.out hbC))
  obtain ⟨p0, p1, p2, p3⟩ := qa WC hbC
  go_upto_region 21 with (first | (go_at_call 13; (with_reducible refine (K.out).mono ?_); rintro e _ ⟨rfl, vv, rfl⟩) | fail)
  have hc : Bel WC vv.val := Bel.of vv
  replace N10 := Lib.hid (N10.out.bel hc)
  replace N11 := Lib.hid (N11.out.bel hc)
  replace N16 := Lib.hid (N16.out.bel hc)
  have hbD : Bel Y vv.val := belTr hbC hc
  generalize vv.val = WD at *
  clear vv hc hbC K KpG p0 p1 p2 p3 WC
  have K := Lib.hid (KpO.out WD (belTr HVY.out hbD))
  obtain ⟨p0, p1, p2, p3⟩ := qa WD hbD
  go_upto_region 22 with (first | (go_at_call 14; (with_reducible refine (K.out).mono ?_); rintro e _ ⟨rfl, vv, rfl⟩) | fail)
  have hc : Bel WD vv.val := Bel.of vv
  replace N10 := Lib.hid (N10.out.bel hc)
  replace N11 := Lib.hid (N11.out.bel hc)
  replace N16 := Lib.hid (N16.out.bel hc)
  have hbE : Bel Y vv.val := belTr hbD hc
  generalize vv.val = WE at *
  clear vv hc hbD K KpO p0 p1 p2 p3 WD
  have K5 := Lib.hid (KpC.out WE (belTr HVY.out hbE))
  obtain ⟨p0, p1, p2, p3⟩ := qa WE hbE
  go_upto_region 23 with (first | (go_at_call 15; (with_reducible refine (K5.out).mono ?_); rintro e _ ⟨_, rfl, ⟨adE, cpE, rfl, hOE⟩, vE, rfl⟩; have HOE := Lib.hid hOE; clear hOE) | fail)
  have N24 : Hid (BMs (vE.val.alloc (.cells #[.int .i64 0, .slice adE ([] : List Int).length cpE] 24)) vE.val.heap.size 0 []) := Lib.hid (BMs.new HOE.out.reads)
  have hc5 : Bel WE (vE.val.alloc (.cells #[.int .i64 0, .slice adE ([] : List Int).length cpE] 24)) := (Bel.of vE).alloc _
  replace N10 := Lib.hid (N10.out.bel hc5)
  replace N11 := Lib.hid (N11.out.bel hc5)
  replace N16 := Lib.hid (N16.out.bel hc5)
  have hbF : Bel Y (vE.val.alloc (.cells #[.int .i64 0, .slice adE ([] : List Int).length cpE] 24)) := belTr hbE hc5
  generalize vE.val.heap.size = h24 at *
  generalize (vE.val.alloc (.cells #[.int .i64 0, .slice adE ([] : List Int).length cpE] 24)) = WF at *
  clear HOE vE hc5 hbE K5 KpC p0 p1 p2 p3 WE
  obtain ⟨a10, c10, r10, i10⟩ := N10.out
  obtain ⟨a11, c11, r11, i11⟩ := N11.out
  obtain ⟨a16, c16, r16, i16⟩ := N16.out
  obtain ⟨a24, c24, r24, i24⟩ := N24.out
  have y10 : ∀ w : Later WF.heap.size WF, w.val.cell? ⟨h, 0, none⟩ = some (.int .i64 0) := fun w => (r10.keep w.below).cell rfl
  have z10 : ∀ w : Later WF.heap.size WF, w.val.cell? ⟨h, 1, none⟩ = some (.slice a10 0 c10) := fun w => (r10.keep w.below).cell rfl
  have y11 : ∀ w : Later WF.heap.size WF, w.val.cell? ⟨(h + 1), 0, none⟩ = some (.int .i64 0) := fun w => (r11.keep w.below).cell rfl
  have z11 : ∀ w : Later WF.heap.size WF, w.val.cell? ⟨(h + 1), 1, none⟩ = some (.slice a11 0 c11) := fun w => (r11.keep w.below).cell rfl
  have y16 : ∀ w : Later WF.heap.size WF, w.val.cell? ⟨h16, 0, none⟩ = some (.int .i64 0) := fun w => (r16.keep w.below).cell rfl
  have z16 : ∀ w : Later WF.heap.size WF, w.val.cell? ⟨h16, 1, none⟩ = some (.slice a16 0 c16) := fun w => (r16.keep w.below).cell rfl
  have y24 : ∀ w : Later WF.heap.size WF, w.val.cell? ⟨h24, 0, none⟩ = some (.int .i64 0) := fun w => (r24.keep w.below).cell rfl
  have z24 : ∀ w : Later WF.heap.size WF, w.val.cell? ⟨h24, 1, none⟩ = some (.slice a24 0 c24) := fun w => (r24.keep w.below).cell rfl
  have KT : Hid (∀ (w : Later WF.heap.size WF) (a b : Option Addr) (ca cb : Nat), Calls Try.prog 16 #[.agg #[.int .i64 0, .slice a 0 ca], .int .i64 e, .agg #[.int .i64 0, .slice b 0 cb], .int .i64 e] w.val (Ret WF.heap.size WF (.bool true))) := Lib.hid (fun w a b ca cb => c_told w 0 0 [] [] a b ca cb e e IntsAt.nil IntsAt.nil (Nat.zero_le _) rfl (by rw [if_neg HE.out]; exact ⟨rfl, rfl⟩))
  have KL : Hid (∀ w : Later WF.heap.size WF, Calls Try.prog 17 #[.slice none 0 0, .int .i64 e, .slice none 0 0, .int .i64 e] w.val (Ret WF.heap.size WF (.bool true))) := Lib.hid (fun w => c_list w [] [] none none 0 0 e e IntsAt.nil IntsAt.nil (Nat.zero_le _) rfl (by rw [if_neg HE.out]))
  have KN : Hid (∀ w : Later WF.heap.size WF, Calls Try.prog 18 #[.int .i64 0, .int .i64 e, .int .i64 0, .int .i64 e] w.val (Ret WF.heap.size WF (.bool true))) := Lib.hid (fun w => c_one_no w 0 e HE.out)
  have HWW : Hid (∀ w : Later WF.heap.size WF, ∃ w' : Later B W, w'.val = w.val) := Lib.hid (fun w => HU.out _ (belTr HVY.out (hbF.up w)))
  clear N10 N11 N16 N24 r10 r11 r16 r24 i10 i11 i16 i24 HU HE hbF HVY qa
  obtain ⟨z, hz⟩ : ∃ z : Later WF.heap.size WF, z.val = WF := ⟨Later.self _, rfl⟩
  rw [← hz]
  clear hz
  go_wp2_with (first | (go_at_call 16; (with_reducible refine (KT.out z _ _ _ _).mono ?_); rintro e _ ⟨rfl, x1, rfl⟩) | (go_at_call 17; (with_reducible refine (KL.out x1).mono ?_); rintro e _ ⟨rfl, x2, rfl⟩) | (go_at_call 18; (with_reducible refine (KN.out x2).mono ?_); rintro e _ ⟨rfl, x3, rfl⟩) | (go_at_call 17; (with_reducible refine (KL.out x3).mono ?_); rintro e _ ⟨rfl, x4, rfl⟩) | (go_at_call 16; (with_reducible refine (KT.out x4 _ _ _ _).mono ?_); rintro e _ ⟨rfl, x5, rfl⟩) | fail)
  go_ret
  obtain ⟨w, hw⟩ := HWW.out x5
  rw [← hw]
  exact Ret.mk w rfl
end Go.Proofs.Ytdcdhdlklppalaa
