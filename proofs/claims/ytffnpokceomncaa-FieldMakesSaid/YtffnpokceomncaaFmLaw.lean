
/-
  rotalaw.FieldMakes of what is no matrix.
-/
import Derived.Test.YtffnpokceomncaaFmI
import Derived.Test.YtffnpokceomncaaOnes
namespace Go.Proofs.Ytffnpokceomncaa
open Go.RowKit
set_option linter.unusedVariables false

set_option maxRecDepth 100000 in
set_option maxHeartbeats 16000000 in
theorem law_fm_no {B : Nat} {W : World} (u : Later B W) (px cx py cy : Int) (rx ry : Lls) (ax ay : Option Addr) (capx capy : Nat) (hx : RowsI B W ax rx) (hy : RowsI B W ay ry)
    (hlx : rx.length ≤ 17592186044416) (hrx : ∀ i, i < rx.length → (rx.getD i []).length ≤ 17592186044416) (hly : ry.length ≤ 17592186044416) (hry : ∀ i, i < ry.length → (ry.getD i []).length ≤ 17592186044416) (hN : ¬ isMatrix px cx rx) :
    Calls Try.prog 3 #[.agg #[.int .i64 px, .int .i64 cx, .slice ax rx.length capx], .agg #[.int .i64 py, .int .i64 cy, .slice ay ry.length capy]] u.val (Ret B W (.bool true)) := by
  have k1 : (u.val.alloc (.cells #[.int .i64 px, .int .i64 cx, .slice ax rx.length capx] 24)).heap.size = u.val.heap.size + 1 := by simp
  have TX : Hid (RowL ((u.val.alloc (.cells #[.int .i64 px, .int .i64 cx, .slice ax rx.length capx] 24)).alloc (.cells #[.int .i64 py, .int .i64 cy, .slice ay ry.length capy] 24)) u.val.heap.size 24 [.int .i64 px, .int .i64 cx, .slice ax rx.length capx]) := Lib.hid ((RowL.new u.val 24 _).keep ((Below.refl _ _).alloc (Nat.le_refl _) _))
  have TY : Hid (RowL ((u.val.alloc (.cells #[.int .i64 px, .int .i64 cx, .slice ax rx.length capx] 24)).alloc (.cells #[.int .i64 py, .int .i64 cy, .slice ay ry.length capy] 24)) (u.val.heap.size + 1) 24 [.int .i64 py, .int .i64 cy, .slice ay ry.length capy]) := Lib.hid (by
    have h := RowL.new (u.val.alloc (.cells #[.int .i64 px, .int .i64 cx, .slice ax rx.length capx] 24)) 24 [.int .i64 py, .int .i64 cy, .slice ay ry.length capy]
    rwa [k1] at h)
  have HV : Hid (∀ v : Later ((u.val.alloc (.cells #[.int .i64 px, .int .i64 cx, .slice ax rx.length capx] 24)).alloc (.cells #[.int .i64 py, .int .i64 cy, .slice ay ry.length capy] 24)).heap.size ((u.val.alloc (.cells #[.int .i64 px, .int .i64 cx, .slice ax rx.length capx] 24)).alloc (.cells #[.int .i64 py, .int .i64 cy, .slice ay ry.length capy] 24)), ∃ w : Later B W, w.val = v.val) := Lib.hid (fun v => ⟨((u.alloc _).alloc _).up v, rfl⟩)
  have HXs : Hid (RowsI ((u.val.alloc (.cells #[.int .i64 px, .int .i64 cx, .slice ax rx.length capx] 24)).alloc (.cells #[.int .i64 py, .int .i64 cy, .slice ay ry.length capy] 24)).heap.size ((u.val.alloc (.cells #[.int .i64 px, .int .i64 cx, .slice ax rx.length capx] 24)).alloc (.cells #[.int .i64 py, .int .i64 cy, .slice ay ry.length capy] 24)) ax rx) := Lib.hid (hx.to ((u.alloc _).alloc _))
  have HYs : Hid (RowsI ((u.val.alloc (.cells #[.int .i64 px, .int .i64 cx, .slice ax rx.length capx] 24)).alloc (.cells #[.int .i64 py, .int .i64 cy, .slice ay ry.length capy] 24)).heap.size ((u.val.alloc (.cells #[.int .i64 px, .int .i64 cx, .slice ax rx.length capx] 24)).alloc (.cells #[.int .i64 py, .int .i64 cy, .slice ay ry.length capy] 24)) ay ry) := Lib.hid (hy.to ((u.alloc _).alloc _))
  have HRx := Lib.hid hrx
  have HRy := Lib.hid hry
  clear hx hy k1 hrx hry
  go_enter Try.func3, Try.ntmps3
  go_upto_region 1 with fail
  generalize ((u.val.alloc (.cells #[.int .i64 px, .int .i64 cx, .slice ax rx.length capx] 24)).alloc (.cells #[.int .i64 py, .int .i64 cy, .slice ay ry.length capy] 24)) = Y at *
  generalize u.val.heap.size = g0 at *
  clear u
  have x0 : ∀ v : Later Y.heap.size Y, v.val.cell? ⟨g0, 0, none⟩ = some (.int .i64 px) := fun v => (TX.out.keep v.below).cell rfl
  have x1 : ∀ v : Later Y.heap.size Y, v.val.cell? ⟨g0, 1, none⟩ = some (.int .i64 cx) := fun v => (TX.out.keep v.below).cell rfl
  have x2 : ∀ v : Later Y.heap.size Y, v.val.cell? ⟨g0, 2, none⟩ = some (.slice ax rx.length capx) := fun v => (TX.out.keep v.below).cell rfl
  have y0 : ∀ v : Later Y.heap.size Y, v.val.cell? ⟨g0 + 1, 0, none⟩ = some (.int .i64 py) := fun v => (TY.out.keep v.below).cell rfl
  have y1 : ∀ v : Later Y.heap.size Y, v.val.cell? ⟨g0 + 1, 1, none⟩ = some (.int .i64 cy) := fun v => (TY.out.keep v.below).cell rfl
  have y2 : ∀ v : Later Y.heap.size Y, v.val.cell? ⟨g0 + 1, 2, none⟩ = some (.slice ay ry.length capy) := fun v => (TY.out.keep v.below).cell rfl
  obtain ⟨z, hz⟩ : ∃ z : Later Y.heap.size Y, z.val = Y := ⟨Later.self _, rfl⟩
  have KD := Lib.hid (fun w : Later Y.heap.size Y => c_fieldDet_no w px cx rx ax capx HXs.out hlx HRx.out 1 (.inl ⟨hN, rfl⟩))
  have KT := Lib.hid (fun w : Later Y.heap.size Y => c_times w px cx py cy rx ry ax ay capx capy HXs.out HYs.out hlx HRx.out hly HRy.out 0 0 0 0 (fun _ _ => 0) 1 (.inl ⟨fun h => hN h.1, rfl⟩) (fun _ => ⟨rfl, rfl, rfl⟩) (fun h => by cases h))
  have KU : Hid (∀ v : Later Y.heap.size Y, Calls Try.prog 8 #[.agg #[.int .i64 px, .int .i64 cx, .slice ax rx.length capx]] v.val (RetP v.val.heap.size v.val (MatM v.val.heap.size 0 0 0 0 (fun _ _ => 0) 1))) := Lib.hid (fun v => c_turned (Later.self v.val) px cx rx ax capx (HXs.out.to v) hlx HRx.out 0 0 0 0 (fun _ _ => 0) 1 (.inl ⟨hN, rfl⟩) (fun _ => ⟨rfl, rfl, rfl⟩) (fun h => by cases h))
  have KM := Lib.hid (fun w : Later Y.heap.size Y => c_isMatrix w px cx rx ax capx HXs.out hlx HRx.out)
  rw [decide_eq_false hN] at KM
  have KB := Lib.hid (fun w : Later Y.heap.size Y => (show Calls Try.prog 9 #[.bool false, .int .i64 1] w.val (Ret Y.heap.size Y (.int .i64 1)) from c_bad w false 1))
  have KO := Lib.hid (fun w : Later Y.heap.size Y => c_one_no w 0 1 (by decide))
  have KG := Lib.hid (fun (w : Later Y.heap.size Y) (a : Option Addr) (cap : Nat) => c_goneM w a cap)
  rw [← hz]
  clear hz
  have d0 := x0 z
  have d1 := x1 z
  have d2 := x2 z
  go_upto_region 2 with (first | (go_at_call 6; (with_reducible refine (KD.out z).mono ?_); rintro e _ ⟨rfl, v1, rfl⟩) | fail)
  have a0 := x0 v1
  have a1 := x1 v1
  have a2 := x2 v1
  have b0 := y0 v1
  have b1 := y1 v1
  have b2 := y2 v1
  clear d0 d1 d2 KD
  go_upto_region 3 with (first | (go_at_call 7; (with_reducible refine (KT.out v1).mono ?_); rintro e _ ⟨_, rfl, ⟨adA, gcA, hdA, rA, cpA, rfl, hMA⟩, v2, rfl⟩) | fail)
  clear a0 a1 a2 b0 b1 b2 KT hMA hdA rA cpA
  have TA : Hid (RowL (v2.val.alloc (.cells #[.int .i64 0, .int .i64 0, .slice adA 0 gcA] 24)) v2.val.heap.size 24 [.int .i64 0, .int .i64 0, .slice adA 0 gcA]) := Lib.hid (RowL.new _ _ _)
  obtain ⟨v3, hv3⟩ : ∃ v3 : Later Y.heap.size Y, v3.val = v2.val.alloc (.cells #[.int .i64 0, .int .i64 0, .slice adA 0 gcA] 24) := ⟨v2.alloc _, rfl⟩
  have hga : v2.val.heap.size < v3.val.heap.size := by rw [hv3]; simp
  rw [← hv3] at TA ⊢
  generalize v2.val.heap.size = ga at *
  clear hv3 v2 v1
  have a0 := x0 v3
  have a1 := x1 v3
  have a2 := x2 v3
  have KUs := Lib.hid (KU.out v3)
  go_upto_region 4 with (first | (go_at_call 8; (with_reducible refine (KUs.out).mono ?_); rintro e _ ⟨_, rfl, ⟨adB, gcB, hdB, rB, cpB, rfl, hMB⟩, v4, rfl⟩) | fail)
  clear a0 a1 a2 KU KUs hMB hdB rB cpB
  have TA4 := TA.out.keep_at v4.below hga
  have TB : Hid (RowL (v4.val.alloc (.cells #[.int .i64 0, .int .i64 0, .slice adB 0 gcB] 24)) v4.val.heap.size 24 [.int .i64 0, .int .i64 0, .slice adB 0 gcB]) := Lib.hid (RowL.new _ _ _)
  have TA5 : Hid (RowL (v4.val.alloc (.cells #[.int .i64 0, .int .i64 0, .slice adB 0 gcB] 24)) ga 24 [.int .i64 0, .int .i64 0, .slice adA 0 gcA]) := Lib.hid (TA4.keep ((Below.refl _ _).alloc (Nat.le_refl _) _))
  obtain ⟨v5, hv5⟩ : ∃ v5 : Later Y.heap.size Y, v5.val = v4.val.alloc (.cells #[.int .i64 0, .int .i64 0, .slice adB 0 gcB] 24) := ⟨(v3.up v4).alloc _, rfl⟩
  rw [← hv5] at TB TA5 ⊢
  have hgb : v4.val.heap.size < v5.val.heap.size := by rw [hv5]; simp
  have hga5 : ga < v5.val.heap.size := TA5.out.lt
  generalize v4.val.heap.size = gb at *
  clear hv5 TA TA4 hga v4 v3
  have e0 : ∀ w : Later v5.val.heap.size v5.val, w.val.cell? ⟨g0, 0, none⟩ = some (.int .i64 px) := fun w => x0 (v5.up w)
  have e1 : ∀ w : Later v5.val.heap.size v5.val, w.val.cell? ⟨g0, 1, none⟩ = some (.int .i64 cx) := fun w => x1 (v5.up w)
  have e2 : ∀ w : Later v5.val.heap.size v5.val, w.val.cell? ⟨g0, 2, none⟩ = some (.slice ax rx.length capx) := fun w => x2 (v5.up w)
  have KM5 : Hid (∀ w : Later v5.val.heap.size v5.val, Calls Try.prog 10 #[.agg #[.int .i64 px, .int .i64 cx, .slice ax rx.length capx]] w.val (Ret v5.val.heap.size v5.val (.bool false))) := Lib.hid (fun w => by
    have := c_isMatrix w px cx rx ax capx (HXs.out.to v5) hlx HRx.out
    rwa [decide_eq_false hN] at this)
  have KB5 := Lib.hid (fun w : Later v5.val.heap.size v5.val => (show Calls Try.prog 9 #[.bool false, .int .i64 1] w.val (Ret v5.val.heap.size v5.val (.int .i64 1)) from c_bad w false 1))
  have KO5 := Lib.hid (fun w : Later v5.val.heap.size v5.val => c_one_no w 0 1 (by decide))
  have KG5 := Lib.hid (fun (w : Later v5.val.heap.size v5.val) (a : Option Addr) (cap : Nat) => c_goneM w a cap)
  have HV5 : Hid (∀ w : Later v5.val.heap.size v5.val, ∃ x : Later B W, x.val = w.val) := Lib.hid (fun w => HV.out (v5.up w))
  clear KM KB KO KG HV x0 x1 x2 y0 y1 y2
  obtain ⟨V, hVV⟩ : ∃ V, V = v5.val := ⟨_, rfl⟩
  rw [← hVV] at TB TA5 hgb hga5 e0 e1 e2 KM5 KB5 KO5 KG5 HV5 ⊢
  clear hVV HXs HYs HRx HRy hN TX TY v5
  obtain ⟨z, hz⟩ : ∃ z : Later V.heap.size V, z.val = V := ⟨Later.self _, rfl⟩
  have r0 : ∀ w : Later V.heap.size V, w.val.cell? ⟨ga, 0, none⟩ = some (.int .i64 0) := fun w => (TA5.out.keep w.below).cell rfl
  have r1 : ∀ w : Later V.heap.size V, w.val.cell? ⟨ga, 1, none⟩ = some (.int .i64 0) := fun w => (TA5.out.keep w.below).cell rfl
  have r2 : ∀ w : Later V.heap.size V, w.val.cell? ⟨ga, 2, none⟩ = some (.slice adA 0 gcA) := fun w => (TA5.out.keep w.below).cell rfl
  have s0 : ∀ w : Later V.heap.size V, w.val.cell? ⟨gb, 0, none⟩ = some (.int .i64 0) := fun w => (TB.out.keep w.below).cell rfl
  have s1 : ∀ w : Later V.heap.size V, w.val.cell? ⟨gb, 1, none⟩ = some (.int .i64 0) := fun w => (TB.out.keep w.below).cell rfl
  have s2 : ∀ w : Later V.heap.size V, w.val.cell? ⟨gb, 2, none⟩ = some (.slice adB 0 gcB) := fun w => (TB.out.keep w.below).cell rfl
  rw [← hz]
  clear hz
  have d0 := e0 z
  have d1 := e1 z
  have d2 := e2 z
  go_wp2_with (first | (go_at_call 10; (with_reducible refine (KM5.out z).mono ?_); rintro e _ ⟨rfl, w1, rfl⟩) | (go_at_call 9; (with_reducible refine (KB5.out w1).mono ?_); rintro e _ ⟨rfl, w2, rfl⟩) | (go_at_call 12; (with_reducible refine (KO5.out w2).mono ?_); rintro e _ ⟨rfl, w3, rfl⟩; have r0a := r0 w3; have r1a := r1 w3; have r2a := r2 w3) | (go_at_call 13; (with_reducible refine (KG5.out w3 adA gcA).mono ?_); rintro e _ ⟨rfl, w4, rfl⟩; have s0a := s0 w4; have s1a := s1 w4; have s2a := s2 w4) | (go_at_call 13; (with_reducible refine (KG5.out w4 adB gcB).mono ?_); rintro e _ ⟨rfl, w5, rfl⟩) | fail)
  go_ret
  obtain ⟨w, hw⟩ := HV5.out w5
  exact Ret.of ⟨w, hw⟩ rfl

end Go.Proofs.Ytffnpokceomncaa
