
/-
  sets.Write, rotaref.Text.
-/
import Derived.Test.YtpfhgklajaigfaaDoorSsA
import Derived.Test.YtpfhgklajaigfaaDoorMemB
import Derived.Test.YtpfhgklajaigfaaDoorFam
namespace Go.Proofs.YtpfhgklajaigfaaDoor
open Go.RowKit
set_option linter.unusedVariables false

/-- a text of bytes -/
def strB (l : List Nat) : ByteArray := strOfNums (ints l)
theorem strB_app (a b : List Nat) : strB a ++ strB b = strB (a ++ b) := by
  unfold strB strOfNums ints
  rw [ByteArray.mk_append_mk, List.map_append, List.map_append]
theorem strB_size (a : List Nat) : (strB a).size = a.length := by
  unfold strB
  rw [strOfNums_size, ints_len]
theorem strB_nil : strB [] = ⟨#[]⟩ := rfl

theorem shr_andS (x k : Nat) (hx : x < 256) : bits .and .i64 ((x : Int) / 2 ^ k) 1 = (((x.testBit k).toNat : Nat) : Int) := by
  have e1 : ((x : Int) / 2 ^ k) = ((x / 2 ^ k : Nat) : Int) := by simp
  have h1 : x / 2 ^ k ≤ x := Nat.div_le_self _ _
  rw [e1]
  have := i64_and (x / 2 ^ k) 1 (by omega) (by omega)
  rw [show ((1 : Nat) : Int) = 1 from rfl] at this
  rw [this, Nat.and_one_is_mod, Nat.toNat_testBit]

set_option maxRecDepth 100000 in
set_option maxHeartbeats 8000000 in
theorem c_small {B : Nat} {W : World} (u : Later B W) (d : Nat) (hd : d < 8) : Calls Tryd.prog 19 #[.int .i64 (d : Nat)] u.val (Ret B W (.string (strB [48 + d]))) := by
  have h : d = 0 ∨ d = 1 ∨ d = 2 ∨ d = 3 ∨ d = 4 ∨ d = 5 ∨ d = 6 ∨ d = 7 := by omega
  rcases h with rfl | rfl | rfl | rfl | rfl | rfl | rfl | rfl
  all_goals
    go_enter Tryd.func19, Tryd.ntmps19
    go_wp2
    go_ret
    exact Ret.mk u (by rfl)

set_option maxRecDepth 100000 in
set_option maxHeartbeats 8000000 in
theorem c_itoa {B : Nat} {W : World} (u : Later B W) (d : Nat) (hd : d < 8) : Calls Tryd.prog 15 #[.int .i64 (d : Nat)] u.val (Ret B W (.string (strB [48 + d]))) := by
  have KS : Hid (Calls Tryd.prog 19 #[.int .i64 (d : Nat)] u.val (Ret B W (.string (strB [48 + d])))) := Lib.hid (c_small u d hd)
  generalize strB [48 + d] = t at *
  have d0 : decide ((0 : Int) ≤ (d : Int)) = true := by simp
  have d1 : decide ((d : Int) < 100) = true := by simp; omega
  have KF : Hid (Calls Tryd.prog 18 #[.int .i64 (d : Nat), .int .i64 10] u.val (Ret B W (.string t))) := Lib.hid (by
    go_enter Tryd.func18, Tryd.ntmps18
    go_wp2_with (first | (go_at_call 19; (with_reducible refine (KS.out).mono ?_); rintro e _ ⟨rfl, v, rfl⟩) | fail)
    go_ret
    exact Ret.mk v rfl)
  have KI : Hid (Calls Tryd.prog 17 #[.int .i64 (d : Nat)] u.val (Ret B W (.string t))) := Lib.hid (by
    go_enter Tryd.func17, Tryd.ntmps17
    go_wp2_with (first | (go_at_call 18; (with_reducible refine (KF.out).mono ?_); rintro e _ ⟨rfl, v, rfl⟩) | fail)
    go_ret
    exact Ret.mk v rfl)
  go_enter Tryd.func15, Tryd.ntmps15
  go_wp2_with (first | (go_at_call 17; (with_reducible refine (KI.out).mono ?_); rintro e _ ⟨rfl, v, rfl⟩) | fail)
  go_ret
  exact Ret.mk v rfl

set_option maxRecDepth 100000 in
set_option maxHeartbeats 8000000 in
theorem c_write_no {B : Nat} {W : World} (u : Later B W) (s : Int) (hs : ¬ isSet 8 s) : Calls Tryd.prog 9 #[.int .i64 s] u.val (Ret B W (.tuple #[.string ⟨#[]⟩, .int .i64 1])) := by
  have KC : Hid (Calls Tryd.prog 6 #[.int .i64 8, .int .i64 s] u.val (Ret B W (.int .i64 1))) := Lib.hid (by
    have := c_setsCheck u 8 s
    rwa [decide_eq_false hs] at this)
  go_enter Tryd.func9, Tryd.ntmps9
  go_wp2_with (first | (go_at_call 6; (with_reducible refine (KC.out).mono ?_); rintro e _ ⟨rfl, v, rfl⟩) | fail)
  go_ret2
  exact Ret.mk v rfl

set_option maxRecDepth 100000 in
set_option maxHeartbeats 8000000 in
theorem c_write {B : Nat} {W : World} (u : Later B W) (s : Nat) (hs : s < 256) : Calls Tryd.prog 9 #[.int .i64 (s : Nat)] u.val (Ret B W (.tuple #[.string (strB (wrT s 8)), .int .i64 0])) := by
  have hi : isSet 8 (s : Int) := by unfold isSet; rw [show (8 : Int) = ((8 : Nat) : Int) from rfl, all_nat]; have : bit 8 = 256 := rfl; omega
  have KC : Hid (Calls Tryd.prog 6 #[.int .i64 8, .int .i64 (s : Nat)] u.val (Ret B W (.int .i64 0))) := Lib.hid (by
    have := c_setsCheck u 8 s
    rwa [decide_eq_true hi] at this)
  clear hi
  have HL := Lib.hid (wrT_len s)
  go_enter Tryd.func9, Tryd.ntmps9
  go_upto_region 4 with (first | (go_at_call 6; (with_reducible refine (KC.out).mono ?_); rintro e _ ⟨rfl, v, rfl⟩) | fail)
  clear KC u
  go_wp2
  go_loopw [5, 12] (fun o iv wr => ∃ (k : Nat) (ad : Option Addr) (cp : Nat) (u : Later B W), k ≤ 8 ∧ iv = .int .i64 k ∧ o = .slice ad (ints (wrT s k)).length cp ∧ wr = u.val ∧ Hid (OwnB B u.val ad cp (ints (wrT s k)))) (fun _ i _ => 8 - (intOf i).toNat)
  case atStart => exact ⟨0, none, 0, v, by omega, rfl, rfl, rfl, Lib.hid (OwnB.nil _ _)⟩
  case round =>
    clear v
    obtain ⟨k, ad, cp, u, hk, rfl, rfl, rfl, HO⟩ := hrel
    by_cases hlt : k < 8
    · have s1 := shr_andS s k (by omega)
      have hln := HL.out k
      have hil : (ints (wrT s k)).length = (wrT s k).length := ints_len _
      have wk := IntWalk.i64_in (48 + (k : Int)) (by omega)
      by_cases ht : s.testBit k = true
      · rw [ht] at s1
        by_cases h0 : (wrT s k).length = 0
        · have hnil : wrT s k = [] := List.length_eq_zero_iff.1 h0
          have HS : Hid (ints (wrT s (k + 1)) = [48 + (k : Int)]) := Lib.hid (by rw [wrT, if_pos ht, if_pos h0, ints_snoc, hnil]; simp [ints])
          have HA : OwnB B u.val ad cp [] := by have := HO.out; rwa [hnil] at this
          rw [hnil]
          clear HO ht h0 hln hil hnil
          go_wp2_with (first | (at_builtin; refine wpList_pushB (B := B) (W := W) (w := u.val) u.below u.size rfl _ _ rfl ([] : List Int) ad cp (48 + (k : Int)) rfl HA rfl (by simp) ?_; intro u2 ad2 cp2 hown) | fail)
          go_roundw
          case rel => exact ⟨k+1, ad2, cp2, u2, by omega, by go_num, by rw [HS.out]; rfl, rfl, Lib.hid (by rw [HS.out]; exact hown)⟩
          case measure => simp [intOf]; omega
        · have HS : Hid (ints (wrT s (k + 1)) = (ints (wrT s k) ++ [32]) ++ [48 + (k : Int)]) := Lib.hid (by rw [wrT, if_pos ht, if_neg h0, ints_snoc, ints_snoc]; simp)
          have HA := HO.out
          have d0 : decide ((0 : Int) < ((wrT s k).length : Int)) = true := by simp; omega
          have d0n : decide (0 < (wrT s k).length) = true := by simp; omega
          have hne : ¬ wrT s k = [] := fun c => h0 (by rw [c]; rfl)
          have H0 := Lib.hid h0
          rw [hil]
          clear HO ht h0
          generalize (wrT s k).length = X0 at *
          generalize hX : ints (wrT s k) = X at *
          clear hX hne
          have HE1 : Hid (∀ (ad : Option Addr) (cp : Nat), Value.slice ad (X0 + 1) cp = .slice ad (X ++ [32]).length cp) := Lib.hid (fun ad cp => by rw [List.length_append, hil]; rfl)
          have HE2 : Hid (∀ (ad : Option Addr) (cp : Nat), Value.slice ad (X0 + 1 + 1) cp = .slice ad (X ++ [32] ++ [48 + (k : Int)]).length cp) := Lib.hid (fun ad cp => by rw [List.length_append, List.length_append, hil]; rfl)
          have HE0 : Hid (∀ (ad : Option Addr) (cp : Nat), Value.slice ad X0 cp = .slice ad X.length cp) := Lib.hid (fun ad cp => by rw [hil])
          go_wp2_with (first | (at_builtin; refine wpList_pushB (B := B) (W := W) (w := u.val) u.below u.size rfl _ _ rfl X ad cp (32 : Int) (Eq.trans (by rfl) (HE0.out ad cp)) HA rfl (by omega) ?_; intro u1 ad1 cp1 hown1) | (at_builtin; refine wpList_pushB (B := B) (W := W) (w := u1.val) u1.below u1.size rfl _ _ rfl (X ++ [32]) ad1 cp1 (48 + (k : Int)) (Eq.trans (by rfl) (HE1.out ad1 cp1)) hown1 rfl (by simp; omega) ?_; intro u2 ad2 cp2 hown) | fail)
          go_roundw
          case rel => exact ⟨k+1, ad2, cp2, u2, by omega, by go_num, by rw [HS.out]; exact HE2.out ad2 cp2, rfl, Lib.hid (by rw [HS.out]; exact hown)⟩
          case measure => simp [intOf]; omega
      · have hbf : s.testBit k = false := by simpa using ht
        have HS : Hid (wrT s (k + 1) = wrT s k) := Lib.hid (by rw [wrT, if_neg ht])
        rw [hbf] at s1
        clear ht hbf
        obtain ⟨len, hlen⟩ : ∃ len, len = (ints (wrT s k)).length := ⟨_, rfl⟩
        rw [← hlen]
        have HLn := Lib.hid hlen
        clear hlen
        go_wp2
        go_roundw
        case rel => exact ⟨k+1, ad, cp, u, by omega, by go_num, by rw [HS.out, HLn.out], rfl, Lib.hid (by rw [HS.out]; exact HO.out)⟩
        case measure => simp [intOf]; omega
    · have hke : k = 8 := by omega
      subst hke
      have hcv := run_text HO.out 9 Tryd.underlying9
      have HT : Hid (strOfNums (ints (wrT s 8)) = strB (wrT s 8)) := Lib.hid rfl
      generalize ints (wrT s 8) = X at *
      generalize strB (wrT s 8) = T at *
      go_wp2
      go_ret2
      exact Ret.mk u (by first | rfl | (rw [HT.out]; rfl))

end Go.Proofs.YtpfhgklajaigfaaDoor
