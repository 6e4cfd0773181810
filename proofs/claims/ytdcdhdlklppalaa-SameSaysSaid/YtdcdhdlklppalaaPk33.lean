
/-
  greedy.taken, greedy.sum, rotaref.Weighs.
  slices.Compare; rotaref.Greedy; greedy.First.
-/
import Derived.Test.YtdcdhdlklppalaaPk31
import Derived.Test.YtdcdhdlklppalaaPk17
import Derived.IntWalk
import Derived.Test.YtdcdhdlklppalaaPk18
namespace Go.Proofs.Ytdcdhdlklppalaa
open Go.RowKit
set_option linter.unusedVariables false

theorem shr_andG (x k : Nat) (hx : x < 256) : bits .and .i64 ((x : Int) / 2 ^ k) 1 = (((x.testBit k).toNat : Nat) : Int) := by
  have e1 : ((x : Int) / 2 ^ k) = ((x / 2 ^ k : Nat) : Int) := by simp
  have h1 : x / 2 ^ k ≤ x := Nat.div_le_self _ _
  rw [e1]
  have := i64_and (x / 2 ^ k) 1 (by omega) (by omega)
  rw [show ((1 : Nat) : Int) = 1 from rfl] at this
  rw [this, Nat.and_one_is_mod, Nat.toNat_testBit]

end Go.Proofs.Ytdcdhdlklppalaa

namespace Go.Proofs.Ytdcdhdlklppalaa
open Go.RowKit
set_option linter.unusedVariables false

theorem lexc_at {x y : List Int} {k : Nat} (hx : k < x.length) (hy : k < y.length) : lexc (x.drop k) (y.drop k) = if x.getD k 0 < y.getD k 0 then -1 else if y.getD k 0 < x.getD k 0 then 1 else lexc (x.drop (k + 1)) (y.drop (k + 1)) := by
  have e1 : x.getD k 0 = x[k] := by simp [hx]
  have e2 : y.getD k 0 = y[k] := by simp [hy]
  rw [List.drop_eq_getElem_cons hx, List.drop_eq_getElem_cons hy, e1, e2]
  rfl
theorem lexc_more {x y : List Int} {k : Nat} (hx : k < x.length) (hy : y.length ≤ k) : lexc (x.drop k) (y.drop k) = 1 := by
  rw [List.drop_eq_getElem_cons hx, List.drop_eq_nil_iff.2 hy]
  rfl
theorem lexc_less {x y : List Int} {k : Nat} (hx : x.length ≤ k) (hy : k < y.length) : lexc (x.drop k) (y.drop k) = -1 := by
  rw [List.drop_eq_getElem_cons hy, List.drop_eq_nil_iff.2 hx]
  rfl
theorem lexc_both {x y : List Int} {k : Nat} (hx : x.length ≤ k) (hy : y.length ≤ k) : lexc (x.drop k) (y.drop k) = 0 := by
  rw [List.drop_eq_nil_iff.2 hy, List.drop_eq_nil_iff.2 hx]
  rfl
def cmpI (x y : Int) : Int := if x < y then -1 else if y < x then 1 else 0

set_option maxRecDepth 100000 in
set_option maxHeartbeats 4000000 in
theorem c_cmpCompare {B : Nat} {W : World} (u : Later B W) (x y : Int) :
    Calls Try.prog 50 #[.int .i64 x, .int .i64 y] u.val (Ret B W (.int .i64 (cmpI x y))) := by
  have H := Lib.hid (fun (u : Later B W) x => c_cmpIsNaN u x)
  have HC : Hid (cmpI x y = if x < y then -1 else if y < x then 1 else 0) := Lib.hid rfl
  generalize cmpI x y = r at *
  rcases ilt x y with ⟨g1, d1⟩ | ⟨g1, d1⟩
  · have hr : Hid (r = -1) := Lib.hid (by rw [HC.out, if_pos g1])
    clear HC g1
    go_enter Try.func50, Try.ntmps50
    go_wp2_with (first | (go_at_call 61; refine (H.out _ _).mono ?_; rintro e _ ⟨rfl, v, rfl⟩))
    go_ret
    exact Ret.mk _ (vint hr.out.symm)
  · rcases ilt y x with ⟨g2, d2⟩ | ⟨g2, d2⟩
    · have hr : Hid (r = 1) := Lib.hid (by rw [HC.out, if_neg (by omega), if_pos g2])
      clear HC g1 g2
      go_enter Try.func50, Try.ntmps50
      go_wp2_with (first | (go_at_call 61; refine (H.out _ _).mono ?_; rintro e _ ⟨rfl, v, rfl⟩))
      go_ret
      exact Ret.mk _ (vint hr.out.symm)
    · have hr : Hid (r = 0) := Lib.hid (by rw [HC.out, if_neg (by omega), if_neg (by omega)])
      clear HC g1 g2
      go_enter Try.func50, Try.ntmps50
      go_wp2_with (first | (go_at_call 61; refine (H.out _ _).mono ?_; rintro e _ ⟨rfl, v, rfl⟩))
      go_ret
      exact Ret.mk _ (vint hr.out.symm)

set_option maxRecDepth 100000 in
set_option maxHeartbeats 8000000 in
theorem c_slCompare {B : Nat} {W : World} (u : Later B W) (x y : List Int) (a b : Option Addr) (ca cb : Nat) (ha : IntsAt B W a x) (hb : IntsAt B W b y) (hx : x.length ≤ 4611686018427387904) (hy : y.length ≤ 4611686018427387904) :
    Calls Try.prog 29 #[.slice a x.length ca, .slice b y.length cb] u.val (Ret B W (.int .i64 (lexc x y))) := by
  have HA := Lib.hid ha
  have HB := Lib.hid hb
  have KC := Lib.hid (fun (v : Later B W) (p q : Int) => c_cmpCompare v p q)
  have L1 := Lib.hid (fun k => @lexc_at x y k)
  have L2 := Lib.hid (fun k => @lexc_more x y k)
  have L3 := Lib.hid (fun k => @lexc_less x y k)
  have L4 := Lib.hid (fun k => @lexc_both x y k)
  clear ha hb
  obtain ⟨r, hr⟩ : ∃ r, r = lexc x y := ⟨_, rfl⟩
  rw [← hr]
  have HR : Hid (r = lexc (x.drop 0) (y.drop 0)) := Lib.hid (by rw [hr]; rfl)
  clear hr
  go_enter Try.func29, Try.ntmps29
  go_wp2
  go_loopw [11] (fun i wr => ∃ (k : Nat) (v : Later B W), k ≤ x.length ∧ i = .int .i64 k ∧ wr = v.val ∧ Hid (k ≤ y.length ∧ r = lexc (x.drop k) (y.drop k))) (fun i _ => x.length - (intOf i).toNat)
  case atStart => exact ⟨0, u, by omega, rfl, rfl, Lib.hid ⟨Nat.zero_le _, HR.out⟩⟩
  case round =>
    clear u HR
    obtain ⟨k, v, hk, rfl, rfl, HF⟩ := hrel
    by_cases hlt : k < x.length
    · obtain ⟨ba, oa, rfl, hba, hca⟩ := HA.out.at (k := k) hlt
      have c0 : v.val.cell? ⟨ba, oa + k, none⟩ = some (.int .i64 (x.getD k 0)) := hca v k hlt
      have h2 := L2.out k hlt
      by_cases hly : k < y.length
      · obtain ⟨bb, ob, rfl, hbb, hcb⟩ := HB.out.at (k := k) hly
        have c1 : v.val.cell? ⟨bb, ob + k, none⟩ = some (.int .i64 (y.getD k 0)) := hcb v k hly
        have HL := Lib.hid (L1.out k hlt hly)
        have K := Lib.hid (KC.out v (x.getD k 0) (y.getD k 0))
        clear hca hcb h2
        generalize x.getD k 0 = p at *
        generalize y.getD k 0 = q at *
        unfold cmpI at K
        rcases ilt p q with ⟨g1, d1⟩ | ⟨g1, d1⟩
        · rw [if_pos g1] at K HL
          have HN : Hid (r = -1) := Lib.hid (by rw [HF.out.2, HL.out])
          clear g1 HL HF
          go_wp2_with (first | (go_at_call 50; (with_reducible refine (K.out).mono ?_); rintro e _ ⟨rfl, v1, rfl⟩))
          go_ret
          exact Ret.mk v1 (vint HN.out.symm)
        · rw [if_neg (by omega)] at K HL
          rcases ilt q p with ⟨g2, d2⟩ | ⟨g2, d2⟩
          · rw [if_pos g2] at K HL
            have HN : Hid (r = 1) := Lib.hid (by rw [HF.out.2, HL.out])
            clear g1 g2 HL HF
            go_wp2_with (first | (go_at_call 50; (with_reducible refine (K.out).mono ?_); rintro e _ ⟨rfl, v1, rfl⟩))
            go_ret
            exact Ret.mk v1 (vint HN.out.symm)
          · rw [if_neg (by omega)] at K HL
            have HN : Hid (k + 1 ≤ y.length ∧ r = lexc (x.drop (k + 1)) (y.drop (k + 1))) := Lib.hid ⟨by omega, by rw [HF.out.2, HL.out]⟩
            clear g1 g2 HL HF
            go_wp2_with (first | (go_at_call 50; (with_reducible refine (K.out).mono ?_); rintro e _ ⟨rfl, v1, rfl⟩))
            go_roundw
            case rel => exact ⟨k+1, v1, by omega, by go_num, rfl, HN⟩
            case measure => simp [intOf]; omega
      · have HN : Hid (r = 1) := Lib.hid (by rw [HF.out.2, h2 (by omega)])
        have d1 : decide ((y.length : Int) ≤ (k : Int)) = true := decide_eq_true (by omega)
        clear hca h2 HF
        go_wp2
        go_ret
        exact Ret.mk v (vint HN.out.symm)
    · have hke : k = x.length := by omega
      subst hke
      by_cases hly : x.length < y.length
      · have HN : Hid (r = -1) := Lib.hid (by rw [HF.out.2, L3.out _ (Nat.le_refl _) hly])
        have d1 : decide ((x.length : Int) < (y.length : Int)) = true := decide_eq_true (by omega)
        go_wp2
        go_ret
        exact Ret.mk v (vint HN.out.symm)
      · have HN : Hid (r = 0) := Lib.hid (by rw [HF.out.2, L4.out _ (Nat.le_refl _) (by omega)])
        have d1 : decide ((x.length : Int) < (y.length : Int)) = false := decide_eq_false (by omega)
        go_wp2
        go_ret
        exact Ret.mk v (vint HN.out.symm)

end Go.Proofs.Ytdcdhdlklppalaa
