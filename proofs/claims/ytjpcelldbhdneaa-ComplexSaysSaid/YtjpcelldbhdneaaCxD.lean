
/-
  complex.Faces, F, H, Euler.
-/
import Derived.Test.YtjpcelldbhdneaaCxB
namespace Go.Proofs.Ytjpcelldbhdneaa
open Go.RowKit
set_option linter.unusedVariables false

/-! what Check refuses, all refuse -/
set_option maxRecDepth 100000 in
set_option maxHeartbeats 4000000 in
theorem c_cxFaces_no {B : Nat} {W : World} (u : Later B W) (n : Int) (q : Nat) (a : Option Addr) (cap : Nat) (e : Int) (he : e ≠ 0) (KC : Calls Try.prog 115 #[.int .i64 n, .slice a q cap] u.val (Ret B W (.int .i64 e))) :
    Calls Try.prog 109 #[.int .i64 n, .slice a q cap] u.val (RetP B W (ListE [] e)) := by
  have K := Lib.hid KC
  have d0 : (e != 0) = true := by rw [bne_iff_ne]; exact he
  clear KC he
  go_enter Try.func109, Try.ntmps109
  go_wp2_with (first | (go_at_call 115; (with_reducible refine (K.out).mono ?_); rintro e _ ⟨rfl, v1, rfl⟩))
  go_ret2
  exact RetP.mk v1 ListE.no
set_option maxRecDepth 100000 in
set_option maxHeartbeats 4000000 in
theorem c_cxF_no {B : Nat} {W : World} (u : Later B W) (n : Int) (q : Nat) (a : Option Addr) (cap : Nat) (e : Int) (he : e ≠ 0) (KC : Calls Try.prog 115 #[.int .i64 n, .slice a q cap] u.val (Ret B W (.int .i64 e))) :
    Calls Try.prog 110 #[.int .i64 n, .slice a q cap] u.val (RetP B W (ListE [] e)) := by
  have K := Lib.hid KC
  have d0 : (e != 0) = true := by rw [bne_iff_ne]; exact he
  clear KC he
  go_enter Try.func110, Try.ntmps110
  go_wp2_with (first | (go_at_call 115; (with_reducible refine (K.out).mono ?_); rintro e _ ⟨rfl, v1, rfl⟩))
  go_ret2
  exact RetP.mk v1 ListE.no
set_option maxRecDepth 100000 in
set_option maxHeartbeats 4000000 in
theorem c_cxH_no {B : Nat} {W : World} (u : Later B W) (n : Int) (q : Nat) (a : Option Addr) (cap : Nat) (e : Int) (he : e ≠ 0) (KC : Calls Try.prog 115 #[.int .i64 n, .slice a q cap] u.val (Ret B W (.int .i64 e))) :
    Calls Try.prog 111 #[.int .i64 n, .slice a q cap] u.val (RetP B W (ListE [] e)) := by
  have K := Lib.hid (c_cxF_no u n q a cap e he KC)
  have d0 : (e != 0) = true := by rw [bne_iff_ne]; exact he
  clear KC he
  go_enter Try.func111, Try.ntmps111
  go_wp2_with (first | (go_at_call 110; (with_reducible refine (K.out).mono ?_); rintro e _ ⟨_, rfl, ⟨_, rfl, ⟨ad, cp, rfl, _, _⟩⟩, v1, rfl⟩))
  go_ret2
  exact RetP.mk v1 ListE.no
set_option maxRecDepth 100000 in
set_option maxHeartbeats 4000000 in
theorem c_cxEuler_no {B : Nat} {W : World} (u : Later B W) (n : Int) (q : Nat) (a : Option Addr) (cap : Nat) (e : Int) (he : e ≠ 0) (KC : Calls Try.prog 115 #[.int .i64 n, .slice a q cap] u.val (Ret B W (.int .i64 e))) :
    Calls Try.prog 112 #[.int .i64 n, .slice a q cap] u.val (Ret B W (.tuple #[.int .i64 0, .int .i64 e])) := by
  have K := Lib.hid (c_cxF_no u n q a cap e he KC)
  have d0 : (e != 0) = true := by rw [bne_iff_ne]; exact he
  clear KC he
  go_enter Try.func112, Try.ntmps112
  go_wp2_with (first | (go_at_call 110; (with_reducible refine (K.out).mono ?_); rintro e _ ⟨_, rfl, ⟨_, rfl, ⟨ad, cp, rfl, _, _⟩⟩, v1, rfl⟩))
  go_ret2
  exact Ret.mk v1 rfl
set_option maxRecDepth 100000 in
set_option maxHeartbeats 4000000 in
theorem c_cxDual_no {B : Nat} {W : World} (u : Later B W) (n : Int) (q : Nat) (a : Option Addr) (cap : Nat) (e : Int) (he : e ≠ 0) (KC : Calls Try.prog 115 #[.int .i64 n, .slice a q cap] u.val (Ret B W (.int .i64 e))) :
    Calls Try.prog 113 #[.int .i64 n, .slice a q cap] u.val (RetP B W (ListE [] e)) := by
  have K := Lib.hid KC
  have d0 : (e != 0) = true := by rw [bne_iff_ne]; exact he
  clear KC he
  go_enter Try.func113, Try.ntmps113
  go_wp2_with (first | (go_at_call 115; (with_reducible refine (K.out).mono ?_); rintro e _ ⟨rfl, v1, rfl⟩))
  go_ret2
  exact RetP.mk v1 ListE.no
set_option maxRecDepth 100000 in
set_option maxHeartbeats 4000000 in
theorem c_cxLink_no {B : Nat} {W : World} (u : Later B W) (n s : Int) (q : Nat) (a : Option Addr) (cap : Nat) (e : Int) (he : e ≠ 0) (KC : Calls Try.prog 115 #[.int .i64 n, .slice a q cap] u.val (Ret B W (.int .i64 e))) :
    Calls Try.prog 114 #[.int .i64 n, .slice a q cap, .int .i64 s] u.val (RetP B W (ListE [] e)) := by
  have K := Lib.hid KC
  have d0 : (e != 0) = true := by rw [bne_iff_ne]; exact he
  clear KC he
  go_enter Try.func114, Try.ntmps114
  go_wp2_with (first | (go_at_call 115; (with_reducible refine (K.out).mono ?_); rintro e _ ⟨rfl, v1, rfl⟩))
  go_ret2
  exact RetP.mk v1 ListE.no

set_option maxRecDepth 100000 in
set_option maxHeartbeats 4000000 in
theorem c_cxFaces {B : Nat} {W : World} (u : Later B W) (m : Nat) (hm : m ≤ 8) (L : List Nat) (hL : ∀ b, b ∈ L → b < bit m) (hlen : L.length ≤ 1048576) (a : Option Addr) (cap : Nat) (h : IntsAt B W a (ints L)) (hf : isFam m (ints L)) (h0 : cxE L = 0) :
    Calls Try.prog 109 #[.int .i64 m, .slice a (ints L).length cap] u.val (RetP B W (ListE (ints (those m (freeB L))) 0)) := by
  have hb := bit_le m hm
  have h256 : ∀ b, b ∈ L → b < 256 := fun b hb' => by have := hL b hb'; omega
  have KC := Lib.hid (c_cxCheck u m L h256 hlen a cap h hf)
  rw [h0] at KC
  have KF := Lib.hid (fun v : Later B W => c_cxFaces0 v m hm L h256 hlen a cap h)
  clear h hf h0 hL h256
  generalize (ints L).length = q at *
  go_enter Try.func109, Try.ntmps109
  go_wp2_with (first | (go_at_call 115; (with_reducible refine (KC.out).mono ?_); rintro e _ ⟨rfl, v1, rfl⟩) | (go_at_call 207; (with_reducible refine (KF.out _).mono ?_); rintro e _ ⟨_, rfl, ⟨ad, cp, rfl, hO⟩, v2, rfl⟩))
  go_ret2
  exact RetP.mk v2 ⟨_, rfl, Reads.of_own hO⟩
set_option maxRecDepth 100000 in
set_option maxHeartbeats 4000000 in
theorem c_cxF {B : Nat} {W : World} (u : Later B W) (m : Nat) (hm : m ≤ 8) (L : List Nat) (hL : ∀ b, b ∈ L → b < bit m) (hne : L ≠ []) (hlen : L.length ≤ 1048576) (a : Option Addr) (cap : Nat) (h : IntsAt B W a (ints L)) (hf : isFam m (ints L)) (h0 : cxE L = 0) :
    Calls Try.prog 110 #[.int .i64 m, .slice a (ints L).length cap] u.val (RetP B W (ListE (tabL (mostTo L L.length + 1) (tally (those m (freeB L)) (those m (freeB L)).length)) 0)) := by
  have hb := bit_le m hm
  have h256 : ∀ b, b ∈ L → b < 256 := fun b hb' => by have := hL b hb'; omega
  have KC := Lib.hid (c_cxCheck u m L h256 hlen a cap h hf)
  rw [h0] at KC
  have KF := Lib.hid (fun v : Later B W => c_cxCount v m hm L hL hne hlen a cap h)
  clear h hf h0 hL h256
  generalize (ints L).length = q at *
  go_enter Try.func110, Try.ntmps110
  go_wp2_with (first | (go_at_call 115; (with_reducible refine (KC.out).mono ?_); rintro e _ ⟨rfl, v1, rfl⟩) | (go_at_call 208; (with_reducible refine (KF.out _).mono ?_); rintro e _ ⟨_, rfl, ⟨ad, cp, rfl, hI, hc⟩, v2, rfl⟩))
  go_ret2
  exact RetP.mk v2 ⟨_, rfl, ⟨_, _, rfl, hI, hc⟩⟩

set_option maxRecDepth 100000 in
set_option maxHeartbeats 4000000 in
theorem c_cxChoose {B : Nat} {W : World} (u : Later B W) (n k : Nat) (hn : n ≤ 8) (hk : k ≤ n) :
    Calls Try.prog 209 #[.int .i64 n, .int .i64 k] u.val (Ret B W (.int .i64 (chs n k))) := by
  have HB := Lib.hid (fun i hi => chs_pos n i hn hi)
  have HS : Hid (∀ i, chs n (i + 1) = chs n i * ((n : Int) - (i : Int)) / ((i : Int) + 1)) := Lib.hid (fun i => rfl)
  have HZ : Hid (chs n 0 = 1) := Lib.hid rfl
  have HD := Lib.hid (fun i hi => chs_bd n i hn hi)
  generalize chs n = A at *
  go_enter Try.func209, Try.ntmps209
  go_wp2
  go_loopw [5, 8] (fun o i wr => ∃ (i' : Nat) (v : Later B W), i' ≤ k ∧ o = .int .i64 (A i') ∧ i = .int .i64 i' ∧ wr = v.val) (fun _ i _ => k - (intOf i).toNat)
  case atStart => exact ⟨0, u, by omega, vint HZ.out.symm, rfl, rfl⟩
  case round =>
    clear u
    obtain ⟨i, v, hi, rfl, rfl, rfl⟩ := hrel
    by_cases hlt : i < k
    · have h1 := HB.out i (by omega)
      have h2 := HD.out i (by omega)
      have h3 := Lib.hid (HS.out i)
      have h4 := HD.out (i + 1) (by omega)
      have q0 : Int.tdiv (A i * ((n : Int) - (i : Int))) ((i : Int) + 1) = A (i + 1) := by rw [h3.out, Int.tdiv_eq_ediv_of_nonneg h1.1]
      clear h3
      generalize hx1 : A (i + 1) = x1 at *
      have HX1 := Lib.hid hx1
      clear hx1
      have w1 := IntWalk.i64_in (A i * ((n : Int) - (i : Int))) (by omega)
      have w2 := IntWalk.i64_in x1 (by omega)
      have d0 : ((i : Int) + 1 == 0) = false := by rw [beq_eq_false_iff_ne]; omega
      go_wp2
      go_roundw
      case rel => exact ⟨i+1, v, by omega, vint HX1.out.symm, by go_num, rfl⟩
      case measure => simp [intOf]; omega
    · have hke : i = k := by omega
      subst hke
      go_wp2
      go_ret
      exact Ret.mk v rfl

end Go.Proofs.Ytjpcelldbhdneaa
