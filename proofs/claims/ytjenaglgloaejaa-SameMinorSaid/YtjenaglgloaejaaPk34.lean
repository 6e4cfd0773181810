
/-
  rotalaw.SameMinor where both are matroids.
  rotalaw.SameMinor returns true, whatever it is handed.
-/
import Derived.Test.YtjenaglgloaejaaPk41
import Derived.Test.YtjenaglgloaejaaPk43
import Derived.Test.YtjenaglgloaejaaPk09
import Derived.Test.YtjenaglgloaejaaPk24
import Derived.Test.YtjenaglgloaejaaPk04
namespace Go.Proofs.Ytjenaglgloaejaa
open Go.RowKit
set_option linter.unusedVariables false

theorem mn_both (r : Option (Nat × Nat)) : ∃ (d c e : Int) (ok : Bool), MnRes r = .tuple #[.int .i64 d, .int .i64 c, .int .i64 e] ∧ MnRef r = .tuple #[.int .i64 d, .int .i64 c, .bool ok] ∧ (if ok then (0 : Int) else 5) = e ∧ (e ≠ 0 → d = 0) ∧ (e ≠ 0 → c = 0) := by
  cases r with
  | none => exact ⟨0, 0, 5, false, rfl, rfl, rfl, by simp, by simp⟩
  | some q => exact ⟨q.1, q.2, 0, true, rfl, rfl, rfl, by simp, by simp⟩
set_option maxRecDepth 100000 in
set_option maxHeartbeats 8000000 in
theorem law_sameMinor_yes {B : Nat} {W : World} (u : Later B W) (n1 n2 : Nat) (L K : List Nat) (a b : Option Addr) (cap capb : Nat) (h1 : IntsAt B W a (ints L)) (h2 : IntsAt B W b (ints K)) (hlen1 : L.length ≤ 256) (hlen2 : K.length ≤ 256) (r1 r2 : Nat) (hL : MatL n1 L r1) (hK : MatL n2 K r2) (hρ : RkM n1 (rk L)) :
    Calls Try.prog 3 #[.agg #[.int .i64 n1, .slice a L.length cap], .agg #[.int .i64 n2, .slice b K.length capb]] u.val (Ret B W (.bool true)) := by
  have hs1 : (u.val.alloc (.cells #[.int .i64 n1, .slice a L.length cap] 24)).heap.size = u.val.heap.size + 1 := by simp
  have HA : Hid (RowL ((u.val.alloc (.cells #[.int .i64 n1, .slice a L.length cap] 24)).alloc (.cells #[.int .i64 n2, .slice b K.length capb] 24)) u.val.heap.size 24 [.int .i64 n1, .slice a L.length cap]) := Lib.hid ((RowL.new _ _ _).keep ((Below.refl _ _).alloc (Nat.le_refl _) _))
  have HB2 : Hid (RowL ((u.val.alloc (.cells #[.int .i64 n1, .slice a L.length cap] 24)).alloc (.cells #[.int .i64 n2, .slice b K.length capb] 24)) (u.val.heap.size + 1) 24 [.int .i64 n2, .slice b K.length capb]) := Lib.hid (by
    have := RowL.new (u.val.alloc (.cells #[.int .i64 n1, .slice a L.length cap] 24)) 24 [.int .i64 n2, .slice b K.length capb]
    rwa [hs1] at this)
  have HVY : Hid (∀ v : Later ((u.val.alloc (.cells #[.int .i64 n1, .slice a L.length cap] 24)).alloc (.cells #[.int .i64 n2, .slice b K.length capb] 24)).heap.size ((u.val.alloc (.cells #[.int .i64 n1, .slice a L.length cap] 24)).alloc (.cells #[.int .i64 n2, .slice b K.length capb] 24)), ∃ w : Later B W, w.val = v.val) := Lib.hid (fun v => ⟨((u.alloc _).alloc _).up v, rfl⟩)
  have I1 : Hid (IntsAt ((u.val.alloc (.cells #[.int .i64 n1, .slice a L.length cap] 24)).alloc (.cells #[.int .i64 n2, .slice b K.length capb] 24)).heap.size ((u.val.alloc (.cells #[.int .i64 n1, .slice a L.length cap] 24)).alloc (.cells #[.int .i64 n2, .slice b K.length capb] 24)) a (ints L)) := Lib.hid (h1.to ((u.alloc _).alloc _))
  have I2 : Hid (IntsAt ((u.val.alloc (.cells #[.int .i64 n1, .slice a L.length cap] 24)).alloc (.cells #[.int .i64 n2, .slice b K.length capb] 24)).heap.size ((u.val.alloc (.cells #[.int .i64 n1, .slice a L.length cap] 24)).alloc (.cells #[.int .i64 n2, .slice b K.length capb] 24)) b (ints K)) := Lib.hid (h2.to ((u.alloc _).alloc _))
  have KM1 : Hid (∀ v : Later ((u.val.alloc (.cells #[.int .i64 n1, .slice a L.length cap] 24)).alloc (.cells #[.int .i64 n2, .slice b K.length capb] 24)).heap.size ((u.val.alloc (.cells #[.int .i64 n1, .slice a L.length cap] 24)).alloc (.cells #[.int .i64 n2, .slice b K.length capb] 24)), Calls Try.prog 6 #[.agg #[.int .i64 n1, .slice a L.length cap]] v.val (Ret ((u.val.alloc (.cells #[.int .i64 n1, .slice a L.length cap] 24)).alloc (.cells #[.int .i64 n2, .slice b K.length capb] 24)).heap.size ((u.val.alloc (.cells #[.int .i64 n1, .slice a L.length cap] 24)).alloc (.cells #[.int .i64 n2, .slice b K.length capb] 24)) (.int .i64 0))) := Lib.hid (fun v => by
    have h3 := c_refMatroid v n1 (ints L) a cap 0 I1.out (by rw [ints_len]; omega) hL.is
    rwa [ints_len] at h3)
  have KM2 : Hid (∀ v : Later ((u.val.alloc (.cells #[.int .i64 n1, .slice a L.length cap] 24)).alloc (.cells #[.int .i64 n2, .slice b K.length capb] 24)).heap.size ((u.val.alloc (.cells #[.int .i64 n1, .slice a L.length cap] 24)).alloc (.cells #[.int .i64 n2, .slice b K.length capb] 24)), Calls Try.prog 6 #[.agg #[.int .i64 n2, .slice b K.length capb]] v.val (Ret ((u.val.alloc (.cells #[.int .i64 n1, .slice a L.length cap] 24)).alloc (.cells #[.int .i64 n2, .slice b K.length capb] 24)).heap.size ((u.val.alloc (.cells #[.int .i64 n1, .slice a L.length cap] 24)).alloc (.cells #[.int .i64 n2, .slice b K.length capb] 24)) (.int .i64 0))) := Lib.hid (fun v => by
    have h3 := c_refMatroid v n2 (ints K) b capb 0 I2.out (by rw [ints_len]; omega) hK.is
    rwa [ints_len] at h3)
  have KN := Lib.hid (fun v : Later ((u.val.alloc (.cells #[.int .i64 n1, .slice a L.length cap] 24)).alloc (.cells #[.int .i64 n2, .slice b K.length capb] 24)).heap.size ((u.val.alloc (.cells #[.int .i64 n1, .slice a L.length cap] 24)).alloc (.cells #[.int .i64 n2, .slice b K.length capb] 24)) => c_sameMinor v n1 n2 L K a b cap capb I1.out I2.out hlen1 hlen2 hL.is hK.is)
  have KR := Lib.hid (fun v : Later ((u.val.alloc (.cells #[.int .i64 n1, .slice a L.length cap] 24)).alloc (.cells #[.int .i64 n2, .slice b K.length capb] 24)).heap.size ((u.val.alloc (.cells #[.int .i64 n1, .slice a L.length cap] 24)).alloc (.cells #[.int .i64 n2, .slice b K.length capb] 24)) => c_refMinor v n1 n2 r1 r2 L K a b cap capb I1.out I2.out hlen1 hlen2 hL hK hρ)
  have KO := Lib.hid (fun (v : Later ((u.val.alloc (.cells #[.int .i64 n1, .slice a L.length cap] 24)).alloc (.cells #[.int .i64 n2, .slice b K.length capb] 24)).heap.size ((u.val.alloc (.cells #[.int .i64 n1, .slice a L.length cap] 24)).alloc (.cells #[.int .i64 n2, .slice b K.length capb] 24))) (x e : Int) => c_one v x e x e)
  have KB : Hid (∀ (v : Later ((u.val.alloc (.cells #[.int .i64 n1, .slice a L.length cap] 24)).alloc (.cells #[.int .i64 n2, .slice b K.length capb] 24)).heap.size ((u.val.alloc (.cells #[.int .i64 n1, .slice a L.length cap] 24)).alloc (.cells #[.int .i64 n2, .slice b K.length capb] 24))) (k : Bool), Calls Try.prog 8 #[.bool k, .int .i64 5] v.val (Ret ((u.val.alloc (.cells #[.int .i64 n1, .slice a L.length cap] 24)).alloc (.cells #[.int .i64 n2, .slice b K.length capb] 24)).heap.size ((u.val.alloc (.cells #[.int .i64 n1, .slice a L.length cap] 24)).alloc (.cells #[.int .i64 n2, .slice b K.length capb] 24)) (.int .i64 (if k then 0 else 5)))) := Lib.hid (fun v k => c_bad v k 5)
  clear h1 h2 hs1 hL hK hρ
  go_enter Try.func3, Try.ntmps3
  go_upto_region 1 with fail
  generalize ((u.val.alloc (.cells #[.int .i64 n1, .slice a L.length cap] 24)).alloc (.cells #[.int .i64 n2, .slice b K.length capb] 24)) = A at *
  generalize u.val.heap.size = g at *
  have q0 : ∀ w : Later A.heap.size A, w.val.cell? ⟨g, 0, none⟩ = some (.int .i64 n1) := fun w => (HA.out.keep w.below).cell rfl
  have q1 : ∀ w : Later A.heap.size A, w.val.cell? ⟨g, 1, none⟩ = some (.slice a L.length cap) := fun w => (HA.out.keep w.below).cell rfl
  have q2 : ∀ w : Later A.heap.size A, w.val.cell? ⟨g + 1, 0, none⟩ = some (.int .i64 n2) := fun w => (HB2.out.keep w.below).cell rfl
  have q3 : ∀ w : Later A.heap.size A, w.val.cell? ⟨g + 1, 1, none⟩ = some (.slice b K.length capb) := fun w => (HB2.out.keep w.below).cell rfl
  have qa : ∀ w : Later A.heap.size A, w.val.cell? ⟨g, 0, none⟩ = some (.int .i64 n1) ∧ w.val.cell? ⟨g, 1, none⟩ = some (.slice a L.length cap) ∧ w.val.cell? ⟨g + 1, 0, none⟩ = some (.int .i64 n2) ∧ w.val.cell? ⟨g + 1, 1, none⟩ = some (.slice b K.length capb) := fun w => ⟨q0 w, q1 w, q2 w, q3 w⟩
  obtain ⟨z, hz⟩ : ∃ z : Later A.heap.size A, z.val = A := ⟨Later.self _, rfl⟩
  rw [← hz]
  clear hz u HA HB2 q0 q1 q2 q3
  generalize g + 1 = g' at *
  have z0 : ((0 : Int) == 0) = true := rfl
  obtain ⟨p0, p1, p2, p3⟩ := qa z
  go_wp2_with (first | (go_at_call 5; (with_reducible refine (KN.out z).mono ?_); rintro e _ ⟨_, rfl, ⟨r, hF, rfl⟩, v0, rfl⟩; obtain ⟨d, c, er, ok, m1, m2, m3, m4, m5⟩ := mn_both r; rw [m1]; have m2 := Lib.hid m2; have m3 := Lib.hid m3; have m4 := Lib.hid m4; have m5 := Lib.hid m5; have hF := Lib.hid hF; clear m1; obtain ⟨r0, r1, r2, r3⟩ := qa v0) | (go_at_call 6; (with_reducible refine (KM1.out v0).mono ?_); rintro e _ ⟨rfl, v1, rfl⟩; obtain ⟨r0, r1, r2, r3⟩ := qa v1) | (go_at_call 6; (with_reducible refine (KM2.out v1).mono ?_); rintro e _ ⟨rfl, v2, rfl⟩; obtain ⟨r0, r1, r2, r3⟩ := qa v2) | (go_at_call 7; (with_reducible refine (KR.out v2).mono ?_); rintro e _ ⟨_, rfl, ⟨r', hF', rfl⟩, v3, rfl⟩; rw [hF'.uniq hF.out, m2.out]) | (go_at_call 8; (with_reducible refine (KB.out v3 _).mono ?_); rintro e _ ⟨rfl, v4, rfl⟩; rw [m3.out]) | (go_at_call 9; (with_reducible refine (c_one v4 d er d er rfl (by by_cases h : er = 0; (rw [if_pos h]); (rw [if_neg h]; exact m4.out h))).mono ?_); rintro e _ ⟨rfl, v5, rfl⟩) | (go_at_call 9; (with_reducible refine (c_one v5 c er c er rfl (by by_cases h : er = 0; (rw [if_pos h]); (rw [if_neg h]; exact m5.out h))).mono ?_); rintro e _ ⟨rfl, v6, rfl⟩) | fail)
  go_ret
  exact Ret.of (HVY.out v6) rfl
end Go.Proofs.Ytjenaglgloaejaa

namespace Go.Proofs.Ytjenaglgloaejaa
open Go.RowKit
set_option linter.unusedVariables false

theorem law_sameMinor {B : Nat} {W : World} (u : Later B W) (n1 n2 : Int) (l1 l2 : List Int) (a b : Option Addr) (cap capb : Nat) (h1 : IntsAt B W a l1) (h2 : IntsAt B W b l2) (hlen1 : l1.length ≤ 4611686018427387904) (hlen2 : l2.length ≤ 4611686018427387904) :
    Calls Try.prog 3 #[.agg #[.int .i64 n1, .slice a l1.length cap], .agg #[.int .i64 n2, .slice b l2.length capb]] u.val (Ret B W (.bool true)) := by
  obtain ⟨e1, he1⟩ := MatIs.ex n1 l1
  obtain ⟨e2, he2⟩ := MatIs.ex n2 l2
  by_cases c1 : e1 = 0
  case neg => exact law_sameMinor_no u n1 n2 l1 l2 a b cap capb e1 e2 e1 h1 h2 hlen1 hlen2 he1 he2 (.inl ⟨c1, rfl⟩) c1
  by_cases c2 : e2 = 0
  case neg => exact law_sameMinor_no u n1 n2 l1 l2 a b cap capb e1 e2 e2 h1 h2 hlen1 hlen2 he1 he2 (.inr ⟨c1, c2, rfl⟩) c2
  subst c1 c2
  obtain ⟨n, rfl⟩ := Int.eq_ofNat_of_zero_le he1.ok.1.1.1
  obtain ⟨q, rfl⟩ := Int.eq_ofNat_of_zero_le he2.ok.1.1.1
  have hr := rkM_of_mat he1.ok.1 he1.ok.2
  obtain ⟨m1, e1, k1⟩ := MatIs.matL he1
  obtain ⟨m2, e2, k2⟩ := MatIs.matL he2
  have f1 : l1.length = (toN l1).length := by rw [← ints_len (toN l1), e1]
  have f2 : l2.length = (toN l2).length := by rw [← ints_len (toN l2), e2]
  rw [f1, f2]
  exact law_sameMinor_yes u n q (toN l1) (toN l2) a b cap capb (by rw [e1]; exact h1) (by rw [e2]; exact h2) k1 k2 _ _ m1 m2 hr
end Go.Proofs.Ytjenaglgloaejaa
