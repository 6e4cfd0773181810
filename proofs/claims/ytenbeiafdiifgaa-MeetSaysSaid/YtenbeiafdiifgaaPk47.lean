
/-
  rotalaw.MeetSays where the two are not matroids of one number.
-/
import Derived.Test.YtenbeiafdiifgaaPk40
import Derived.Test.YtenbeiafdiifgaaPk14
import Derived.Test.YtenbeiafdiifgaaPk07
import Derived.Test.YtenbeiafdiifgaaPk37
import Derived.Deep.CutRange
namespace Go.Proofs.Ytenbeiafdiifgaa
open Go.RowKit
set_option linter.unusedVariables false

set_option maxRecDepth 100000 in
set_option maxHeartbeats 8000000 in
theorem law_meet_no {B : Nat} {W : World} (u : Later B W) (n1 n2 : Int) (l1 l2 : List Int) (a b : Option Addr) (cap capb : Nat) (e1 e2 er sv : Int) (wv : Value) (h1 : IntsAt B W a l1) (h2 : IntsAt B W b l2) (hlen1 : l1.length ≤ 4611686018427387904) (hlen2 : l2.length ≤ 4611686018427387904) (he1 : MatIs n1 l1 e1) (he2 : MatIs n2 l2 e2) (hc : bothE n1 n2 e1 e2 er) (h0 : er ≠ 0) :
    Calls Try.prog 3 #[.agg #[.int .i64 n1, .slice a l1.length cap], .agg #[.int .i64 n2, .slice b l2.length capb], wv, .int .i64 sv] u.val (Ret B W (.bool true)) := by
  have hs1 : (u.val.alloc (.cells #[.int .i64 n1, .slice a l1.length cap] 24)).heap.size = u.val.heap.size + 1 := by simp
  have HA : Hid (RowL ((u.val.alloc (.cells #[.int .i64 n1, .slice a l1.length cap] 24)).alloc (.cells #[.int .i64 n2, .slice b l2.length capb] 24)) u.val.heap.size 24 [.int .i64 n1, .slice a l1.length cap]) := Lib.hid ((RowL.new _ _ _).keep ((Below.refl _ _).alloc (Nat.le_refl _) _))
  have HB2 : Hid (RowL ((u.val.alloc (.cells #[.int .i64 n1, .slice a l1.length cap] 24)).alloc (.cells #[.int .i64 n2, .slice b l2.length capb] 24)) (u.val.heap.size + 1) 24 [.int .i64 n2, .slice b l2.length capb]) := Lib.hid (by
    have := RowL.new (u.val.alloc (.cells #[.int .i64 n1, .slice a l1.length cap] 24)) 24 [.int .i64 n2, .slice b l2.length capb]
    rwa [hs1] at this)
  have HVY : Hid (∀ v : Later ((u.val.alloc (.cells #[.int .i64 n1, .slice a l1.length cap] 24)).alloc (.cells #[.int .i64 n2, .slice b l2.length capb] 24)).heap.size ((u.val.alloc (.cells #[.int .i64 n1, .slice a l1.length cap] 24)).alloc (.cells #[.int .i64 n2, .slice b l2.length capb] 24)), ∃ w : Later B W, w.val = v.val) := Lib.hid (fun v => ⟨((u.alloc _).alloc _).up v, rfl⟩)
  have I1 : Hid (IntsAt ((u.val.alloc (.cells #[.int .i64 n1, .slice a l1.length cap] 24)).alloc (.cells #[.int .i64 n2, .slice b l2.length capb] 24)).heap.size ((u.val.alloc (.cells #[.int .i64 n1, .slice a l1.length cap] 24)).alloc (.cells #[.int .i64 n2, .slice b l2.length capb] 24)) a l1) := Lib.hid (h1.to ((u.alloc _).alloc _))
  have I2 : Hid (IntsAt ((u.val.alloc (.cells #[.int .i64 n1, .slice a l1.length cap] 24)).alloc (.cells #[.int .i64 n2, .slice b l2.length capb] 24)).heap.size ((u.val.alloc (.cells #[.int .i64 n1, .slice a l1.length cap] 24)).alloc (.cells #[.int .i64 n2, .slice b l2.length capb] 24)) b l2) := Lib.hid (h2.to ((u.alloc _).alloc _))
  have KM1 := Lib.hid (fun v : Later ((u.val.alloc (.cells #[.int .i64 n1, .slice a l1.length cap] 24)).alloc (.cells #[.int .i64 n2, .slice b l2.length capb] 24)).heap.size ((u.val.alloc (.cells #[.int .i64 n1, .slice a l1.length cap] 24)).alloc (.cells #[.int .i64 n2, .slice b l2.length capb] 24)) => c_refMatroid v n1 l1 a cap e1 I1.out hlen1 he1)
  have KM2 := Lib.hid (fun v : Later ((u.val.alloc (.cells #[.int .i64 n1, .slice a l1.length cap] 24)).alloc (.cells #[.int .i64 n2, .slice b l2.length capb] 24)).heap.size ((u.val.alloc (.cells #[.int .i64 n1, .slice a l1.length cap] 24)).alloc (.cells #[.int .i64 n2, .slice b l2.length capb] 24)) => c_refMatroid v n2 l2 b capb e2 I2.out hlen2 he2)
  have KC := Lib.hid (fun v : Later ((u.val.alloc (.cells #[.int .i64 n1, .slice a l1.length cap] 24)).alloc (.cells #[.int .i64 n2, .slice b l2.length capb] 24)).heap.size ((u.val.alloc (.cells #[.int .i64 n1, .slice a l1.length cap] 24)).alloc (.cells #[.int .i64 n2, .slice b l2.length capb] 24)) => c_mtCommon_no v n1 n2 l1 l2 a b cap capb e1 e2 er I1.out I2.out hlen1 hlen2 he1 he2 hc h0)
  have KH := Lib.hid (fun v : Later ((u.val.alloc (.cells #[.int .i64 n1, .slice a l1.length cap] 24)).alloc (.cells #[.int .i64 n2, .slice b l2.length capb] 24)).heap.size ((u.val.alloc (.cells #[.int .i64 n1, .slice a l1.length cap] 24)).alloc (.cells #[.int .i64 n2, .slice b l2.length capb] 24)) => c_mtHeaviest_no v n1 n2 l1 l2 a b cap capb e1 e2 er wv I1.out I2.out hlen1 hlen2 he1 he2 hc h0)
  have KS := Lib.hid (fun v : Later ((u.val.alloc (.cells #[.int .i64 n1, .slice a l1.length cap] 24)).alloc (.cells #[.int .i64 n2, .slice b l2.length capb] 24)).heap.size ((u.val.alloc (.cells #[.int .i64 n1, .slice a l1.length cap] 24)).alloc (.cells #[.int .i64 n2, .slice b l2.length capb] 24)) => c_mtSpanned_no v n1 n2 l1 l2 a b cap capb e1 e2 er sv I1.out I2.out hlen1 hlen2 he1 he2 hc h0)
  have KO := Lib.hid (fun v : Later ((u.val.alloc (.cells #[.int .i64 n1, .slice a l1.length cap] 24)).alloc (.cells #[.int .i64 n2, .slice b l2.length capb] 24)).heap.size ((u.val.alloc (.cells #[.int .i64 n1, .slice a l1.length cap] 24)).alloc (.cells #[.int .i64 n2, .slice b l2.length capb] 24)) => c_one_no v 0 er h0)
  have KL := Lib.hid (fun v : Later ((u.val.alloc (.cells #[.int .i64 n1, .slice a l1.length cap] 24)).alloc (.cells #[.int .i64 n2, .slice b l2.length capb] 24)).heap.size ((u.val.alloc (.cells #[.int .i64 n1, .slice a l1.length cap] 24)).alloc (.cells #[.int .i64 n2, .slice b l2.length capb] 24)) => c_list_no v er h0 none 0)
  have KB : Hid (∀ v : Later ((u.val.alloc (.cells #[.int .i64 n1, .slice a l1.length cap] 24)).alloc (.cells #[.int .i64 n2, .slice b l2.length capb] 24)).heap.size ((u.val.alloc (.cells #[.int .i64 n1, .slice a l1.length cap] 24)).alloc (.cells #[.int .i64 n2, .slice b l2.length capb] 24)), Calls Try.prog 5 #[.bool false, .int .i64 3] v.val (Ret ((u.val.alloc (.cells #[.int .i64 n1, .slice a l1.length cap] 24)).alloc (.cells #[.int .i64 n2, .slice b l2.length capb] 24)).heap.size ((u.val.alloc (.cells #[.int .i64 n1, .slice a l1.length cap] 24)).alloc (.cells #[.int .i64 n2, .slice b l2.length capb] 24)) (.int .i64 3))) := Lib.hid (fun v => c_bad v false 3)
  have HC := Lib.hid hc
  clear h1 h2 he1 he2 hs1 hc
  go_enter Try.func3, Try.ntmps3
  go_upto_region 1 with fail
  generalize ((u.val.alloc (.cells #[.int .i64 n1, .slice a l1.length cap] 24)).alloc (.cells #[.int .i64 n2, .slice b l2.length capb] 24)) = A at *
  generalize u.val.heap.size = g at *
  have q0 : ∀ w : Later A.heap.size A, w.val.cell? ⟨g, 0, none⟩ = some (.int .i64 n1) := fun w => (HA.out.keep w.below).cell rfl
  have q1 : ∀ w : Later A.heap.size A, w.val.cell? ⟨g, 1, none⟩ = some (.slice a l1.length cap) := fun w => (HA.out.keep w.below).cell rfl
  have q2 : ∀ w : Later A.heap.size A, w.val.cell? ⟨g + 1, 0, none⟩ = some (.int .i64 n2) := fun w => (HB2.out.keep w.below).cell rfl
  have q3 : ∀ w : Later A.heap.size A, w.val.cell? ⟨g + 1, 1, none⟩ = some (.slice b l2.length capb) := fun w => (HB2.out.keep w.below).cell rfl
  have qa : ∀ w : Later A.heap.size A, w.val.cell? ⟨g, 0, none⟩ = some (.int .i64 n1) ∧ w.val.cell? ⟨g, 1, none⟩ = some (.slice a l1.length cap) ∧ w.val.cell? ⟨g + 1, 0, none⟩ = some (.int .i64 n2) ∧ w.val.cell? ⟨g + 1, 1, none⟩ = some (.slice b l2.length capb) := fun w => ⟨q0 w, q1 w, q2 w, q3 w⟩
  obtain ⟨z, hz⟩ : ∃ z : Later A.heap.size A, z.val = A := ⟨Later.self _, rfl⟩
  rw [← hz]
  clear hz u HA HB2 q0 q1 q2 q3
  generalize g + 1 = g' at *
  have z0 : ((0 : Int) == 0) = true := rfl
  have d9 : (er == 0) = false := by rw [beq_eq_false_iff_ne]; exact h0
  obtain ⟨p0, p1, p2, p3⟩ := qa z
  rcases HC.out with ⟨g1, rfl⟩ | ⟨rfl, g1, rfl⟩ | ⟨rfl, rfl, g1, rfl⟩ | ⟨rfl, rfl, rfl, rfl⟩
  · clear HC
    go_upto_region 38 with (first | (go_at_call 4; (with_reducible refine (KM1.out z).mono ?_); rintro e _ ⟨rfl, v, rfl⟩) | fail)
    obtain ⟨r0, r1, r2, r3⟩ := qa v
    go_wp2_with (first | (go_at_call 13; (with_reducible refine (KC.out v).mono ?_); rintro e _ ⟨rfl, v1, rfl⟩; obtain ⟨r0, r1, r2, r3⟩ := qa v1) | (go_at_call 14; (with_reducible refine (KH.out v1).mono ?_); rintro e _ ⟨rfl, v2, rfl⟩; obtain ⟨r0, r1, r2, r3⟩ := qa v2) | (go_at_call 15; (with_reducible refine (KS.out v2).mono ?_); rintro e _ ⟨rfl, v3, rfl⟩) | (go_at_call 16; (with_reducible refine (KO.out v3).mono ?_); rintro e _ ⟨rfl, v4, rfl⟩) | (go_at_call 16; (with_reducible refine (KO.out v4).mono ?_); rintro e _ ⟨rfl, v5, rfl⟩) | (go_at_call 17; (with_reducible refine (KL.out v5).mono ?_); rintro e _ ⟨rfl, v6, rfl⟩) | (go_at_call 16; (with_reducible refine (KO.out v6).mono ?_); rintro e _ ⟨rfl, v7, rfl⟩) | fail)
    go_ret
    exact Ret.of (HVY.out v7) rfl
  · clear HC
    go_upto_region 38 with (first | (go_at_call 4; (with_reducible refine (KM1.out z).mono ?_); rintro e _ ⟨rfl, v0, rfl⟩; obtain ⟨r0, r1, r2, r3⟩ := qa v0) | (go_at_call 4; (with_reducible refine (KM2.out v0).mono ?_); rintro e _ ⟨rfl, v, rfl⟩) | fail)
    obtain ⟨r0, r1, r2, r3⟩ := qa v
    go_wp2_with (first | (go_at_call 13; (with_reducible refine (KC.out v).mono ?_); rintro e _ ⟨rfl, v1, rfl⟩; obtain ⟨r0, r1, r2, r3⟩ := qa v1) | (go_at_call 14; (with_reducible refine (KH.out v1).mono ?_); rintro e _ ⟨rfl, v2, rfl⟩; obtain ⟨r0, r1, r2, r3⟩ := qa v2) | (go_at_call 15; (with_reducible refine (KS.out v2).mono ?_); rintro e _ ⟨rfl, v3, rfl⟩) | (go_at_call 16; (with_reducible refine (KO.out v3).mono ?_); rintro e _ ⟨rfl, v4, rfl⟩) | (go_at_call 16; (with_reducible refine (KO.out v4).mono ?_); rintro e _ ⟨rfl, v5, rfl⟩) | (go_at_call 17; (with_reducible refine (KL.out v5).mono ?_); rintro e _ ⟨rfl, v6, rfl⟩) | (go_at_call 16; (with_reducible refine (KO.out v6).mono ?_); rintro e _ ⟨rfl, v7, rfl⟩) | fail)
    go_ret
    exact Ret.of (HVY.out v7) rfl
  · have dn : (n1 == n2) = false := by rw [beq_eq_false_iff_ne]; exact g1
    clear HC
    go_upto_region 38 with (first | (go_at_call 4; (with_reducible refine (KM1.out z).mono ?_); rintro e _ ⟨rfl, v0, rfl⟩; obtain ⟨r0, r1, r2, r3⟩ := qa v0) | (go_at_call 4; (with_reducible refine (KM2.out v0).mono ?_); rintro e _ ⟨rfl, v9, rfl⟩; obtain ⟨r0, r1, r2, r3⟩ := qa v9) | (go_at_call 5; (with_reducible refine (KB.out v9).mono ?_); rintro e _ ⟨rfl, v, rfl⟩) | fail)
    obtain ⟨r0, r1, r2, r3⟩ := qa v
    go_wp2_with (first | (go_at_call 13; (with_reducible refine (KC.out v).mono ?_); rintro e _ ⟨rfl, v1, rfl⟩; obtain ⟨r0, r1, r2, r3⟩ := qa v1) | (go_at_call 14; (with_reducible refine (KH.out v1).mono ?_); rintro e _ ⟨rfl, v2, rfl⟩; obtain ⟨r0, r1, r2, r3⟩ := qa v2) | (go_at_call 15; (with_reducible refine (KS.out v2).mono ?_); rintro e _ ⟨rfl, v3, rfl⟩) | (go_at_call 16; (with_reducible refine (KO.out v3).mono ?_); rintro e _ ⟨rfl, v4, rfl⟩) | (go_at_call 16; (with_reducible refine (KO.out v4).mono ?_); rintro e _ ⟨rfl, v5, rfl⟩) | (go_at_call 17; (with_reducible refine (KL.out v5).mono ?_); rintro e _ ⟨rfl, v6, rfl⟩) | (go_at_call 16; (with_reducible refine (KO.out v6).mono ?_); rintro e _ ⟨rfl, v7, rfl⟩) | fail)
    go_ret
    exact Ret.of (HVY.out v7) rfl
  · exact absurd rfl h0
end Go.Proofs.Ytenbeiafdiifgaa
