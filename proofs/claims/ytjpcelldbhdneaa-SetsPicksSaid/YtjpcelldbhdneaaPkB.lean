
/-
  sets.Choose, sets.Below, sets.Shadow.
-/
import Derived.Test.YtjpcelldbhdneaaPkPl
import Derived.Test.YtjpcelldbhdneaaAxFam
import Derived.Test.YtjpcelldbhdneaaSrt
import Derived.Test.YtjpcelldbhdneaaConv4
import Derived.IntWalk
namespace Go.Proofs.Ytjpcelldbhdneaa
open Go.RowKit
set_option linter.unusedVariables false

def isChoice (n k : Int) : Prop := 0 ≤ n ∧ n ≤ 8 ∧ 0 ≤ k ∧ k ≤ n
instance (n k : Int) : Decidable (isChoice n k) := by unfold isChoice; infer_instance

set_option maxRecDepth 100000 in
set_option maxHeartbeats 4000000 in
theorem c_choose {B : Nat} {W : World} (u : Later B W) (m k : Nat) (hm : m ≤ 8) (hk : k ≤ m) :
    Calls Try.prog 91 #[.int .i64 m, .int .i64 k] u.val (RetP B W (ListO B (ints (those m (fun s => decide (sz s = k)))) 0)) := by
  have hb := bit_le m hm
  have hbc := bit_cast m
  have e1 : decide ((m : Int) < 0) = false := decide_eq_false (by omega)
  have e2 : decide (8 < (m : Int)) = false := decide_eq_false (by omega)
  have e3 : decide ((k : Int) < 0) = false := decide_eq_false (by omega)
  have e4 : decide ((m : Int) < (k : Int)) = false := decide_eq_false (by omega)
  have e5 : decide (m < k) = false := decide_eq_false (by omega)
  go_enter Try.func91, Try.ntmps91
  go_wp2
  go_loopw [6, 25] (fun o i wr => ∃ (s : Nat) (ad : Option Addr) (cp : Nat) (v : Later B W), s ≤ bit m ∧ i = .int .i64 s ∧ o = .slice ad (ints (thoseTo (fun s => decide (sz s = k)) s)).length cp ∧ wr = v.val ∧ Hid (Own B v.val ad cp (ints (thoseTo (fun s => decide (sz s = k)) s)))) (fun _ i _ => bit m - (intOf i).toNat)
  case atStart => exact ⟨0, none, 0, u, by omega, rfl, rfl, rfl, Lib.hid (Own.nil _ _)⟩
  case round =>
    clear u
    obtain ⟨s, ad, cp, v, hs, rfl, rfl, rfl, HO⟩ := hrel
    have HE := Lib.hid (thoseTo_step (fun s => decide (sz s = k)) s)
    have HL : Hid ((ints (thoseTo (fun s => decide (sz s = k)) s)).length ≤ 256) := Lib.hid (by rw [ints_len]; have := thoseTo_len (fun s => decide (sz s = k)) s; omega)
    rcases nlt s (bit m) with ⟨hlt, d0⟩ | ⟨hlt, d0⟩
    · have d0' : decide ((s : Int) < (bit m : Int)) = true := decide_eq_true (by omega)
      have KZ : Hid (Calls Try.prog 196 #[.int .u64 s] v.val (Ret v.val.heap.size v.val (.int .i64 (sz s)))) := Lib.hid (c_ones (Later.self v.val) s (by omega))
      generalize thoseTo (fun s => decide (sz s = k)) s = Lt at *
      rcases ieq (sz s : Int) k with ⟨g1, d1, d2⟩ | ⟨g1, d1, d2⟩
      · have G1 : Hid (decide (sz s = k) = true) := Lib.hid (decide_eq_true (by omega))
        clear g1
        generalize sz s = z at *
        go_wp2_with (first | (go_at_call 196; (with_reducible refine (KZ.out).mono ?_); rintro e _ ⟨rfl, v2, rfl⟩) | (at_builtin; refine wpList_push (B := B) (W := W) (w := v2.val) (v.up v2).below (v.up v2).size rfl _ _ rfl (ints Lt) ad cp (s : Int) rfl (HO.out.keep v2.below) rfl (by have := HL.out; omega) ?_; intro u2 ad2 cp2 hown))
        go_roundw
        case rel =>
          refine ⟨s+1, ad2, cp2, u2, by omega, by go_num, ?_, rfl, ?_⟩
          · rw [HE.out]; simp only [G1.out, if_true]; rw [ints_snoc]; simp
          · rw [HE.out]; simp only [G1.out, if_true]; rw [ints_snoc]; exact hown
        case measure => simp [intOf]; omega
      · have G1 : Hid (decide (sz s = k) = false) := Lib.hid (decide_eq_false (by omega))
        clear g1
        generalize sz s = z at *
        go_wp2_with (first | (go_at_call 196; (with_reducible refine (KZ.out).mono ?_); rintro e _ ⟨rfl, v2, rfl⟩))
        go_roundw
        case rel =>
          refine ⟨s+1, ad, cp, v.up v2, by omega, by go_num, ?_, rfl, ?_⟩
          · rw [HE.out]; simp only [G1.out, Bool.false_eq_true, if_false]
          · rw [HE.out]; simp only [G1.out, Bool.false_eq_true, if_false]; exact HO.out.keep v2.below
        case measure => simp [intOf]; omega
    · have hse : s = bit m := by omega
      have d0' : decide ((s : Int) < (bit m : Int)) = false := decide_eq_false (by omega)
      have HO2 : Hid (Own B v.val ad cp (ints (those m (fun s => decide (sz s = k))))) := Lib.hid (by rw [hse] at HO; exact HO.out)
      have hl : (ints (thoseTo (fun s => decide (sz s = k)) s)).length = (ints (those m (fun s => decide (sz s = k)))).length := by rw [hse]; rfl
      rw [hl]
      clear HO HE HL hl
      go_wp2
      go_ret2
      exact RetP.mk v ⟨ad, cp, rfl, HO2.out⟩
set_option maxRecDepth 100000 in
set_option maxHeartbeats 4000000 in
theorem c_choose_no {B : Nat} {W : World} (u : Later B W) (n k : Int) (hc : ¬ isChoice n k) :
    Calls Try.prog 91 #[.int .i64 n, .int .i64 k] u.val (RetP B W (ListE [] 1)) := by
  unfold isChoice at hc
  rcases ilt n 0 with ⟨g1, d1⟩ | ⟨g1, d1⟩
  · clear hc
    go_enter Try.func91, Try.ntmps91
    go_wp2
    go_ret2
    exact RetP.mk u ListE.no
  · rcases ilt 8 n with ⟨g2, d2⟩ | ⟨g2, d2⟩
    · clear hc
      go_enter Try.func91, Try.ntmps91
      go_wp2
      go_ret2
      exact RetP.mk u ListE.no
    · rcases ilt k 0 with ⟨g3, d3⟩ | ⟨g3, d3⟩
      · clear hc
        go_enter Try.func91, Try.ntmps91
        go_wp2
        go_ret2
        exact RetP.mk u ListE.no
      · have g4 : n < k := by omega
        have d4 : decide (n < k) = true := decide_eq_true g4
        clear hc
        go_enter Try.func91, Try.ntmps91
        go_wp2
        go_ret2
        exact RetP.mk u ListE.no

/-! ### Below -/
theorem shr_and2 (x k : Nat) (hx : x < 256) : bits .and .i64 ((x : Int) / 2 ^ k) 1 = (((x.testBit k).toNat : Nat) : Int) := by
  have e1 : ((x : Int) / 2 ^ k) = ((x / 2 ^ k : Nat) : Int) := by simp
  have h1 : x / 2 ^ k ≤ x := Nat.div_le_self _ _
  rw [e1]
  have := i64_and (x / 2 ^ k) 1 (by omega) (by omega)
  rw [show ((1 : Nat) : Int) = 1 from rfl] at this
  rw [this, Nat.and_one_is_mod, Nat.toNat_testBit]
set_option maxRecDepth 100000 in
set_option maxHeartbeats 4000000 in
theorem c_below_arg {B : Nat} {W : World} (u : Later B W) (a b : Int) (h : ¬ (isSet 8 a ∧ isSet 8 b)) :
    Calls Try.prog 93 #[.int .i64 a, .int .i64 b] u.val (Ret B W (.tuple #[.bool false, .int .i64 1])) := by
  have KA := Lib.hid (fun v : Later B W => c_setsCheck v 8 a)
  have KB := Lib.hid (fun v : Later B W => c_setsCheck v 8 b)
  by_cases ha : isSet 8 a
  · have hb : ¬ isSet 8 b := fun hb => h ⟨ha, hb⟩
    rw [show errno (decide (isSet 8 a)) 1 = 0 by simp [errno, ha]] at KA
    rw [show errno (decide (isSet 8 b)) 1 = 1 by simp [errno, hb]] at KB
    clear h ha hb
    go_enter Try.func93, Try.ntmps93
    go_wp2_with (first | (go_at_call 137; (with_reducible refine (KA.out _).mono ?_); rintro e _ ⟨rfl, v1, rfl⟩) | (go_at_call 137; (with_reducible refine (KB.out _).mono ?_); rintro e _ ⟨rfl, v1, rfl⟩))
    go_ret2
    exact Ret.mk v1 rfl
  · rw [show errno (decide (isSet 8 a)) 1 = 1 by simp [errno, ha]] at KA
    clear h ha
    go_enter Try.func93, Try.ntmps93
    go_wp2_with (first | (go_at_call 137; (with_reducible refine (KA.out _).mono ?_); rintro e _ ⟨rfl, v1, rfl⟩))
    go_ret2
    exact Ret.mk v1 rfl
theorem is8 {s : Int} (h : isSet 8 s) : ∃ t : Nat, s = t ∧ t < 256 := by
  obtain ⟨_, _, h1, h2⟩ := h
  have := all_le 8 (by omega)
  exact ⟨s.toNat, by omega, by omega⟩
theorem is8_nat {s : Nat} (h : s < 256) : isSet 8 (s : Int) := by
  have : all 8 = 255 := rfl
  exact ⟨by omega, by omega, by omega, by omega⟩
set_option maxRecDepth 100000 in
set_option maxHeartbeats 4000000 in
theorem c_below_shape {B : Nat} {W : World} (u : Later B W) (a b : Nat) (ha : a < 256) (hb : b < 256) (h : sz a ≠ sz b) :
    Calls Try.prog 93 #[.int .i64 a, .int .i64 b] u.val (Ret B W (.tuple #[.bool false, .int .i64 3])) := by
  have KA := Lib.hid (fun v : Later B W => c_setsCheck v 8 a)
  have KB := Lib.hid (fun v : Later B W => c_setsCheck v 8 b)
  rw [show errno (decide (isSet 8 (a : Int))) 1 = 0 by simp [errno, is8_nat ha]] at KA
  rw [show errno (decide (isSet 8 (b : Int))) 1 = 0 by simp [errno, is8_nat hb]] at KB
  have KC := Lib.hid (fun v : Later B W => c_ones v a ha)
  have KD := Lib.hid (fun v : Later B W => c_ones v b hb)
  have d0 : ((sz a : Int) != (sz b : Int)) = true := by rw [bne_iff_ne]; omega
  clear h
  generalize sz a = za at *
  generalize sz b = zb at *
  go_enter Try.func93, Try.ntmps93
  go_wp2_with (first | (go_at_call 137; (with_reducible refine (KA.out _).mono ?_); rintro e _ ⟨rfl, v1, rfl⟩) | (go_at_call 137; (with_reducible refine (KB.out _).mono ?_); rintro e _ ⟨rfl, v1, rfl⟩) | (go_at_call 196; (with_reducible refine (KC.out _).mono ?_); rintro e _ ⟨rfl, v1, rfl⟩) | (go_at_call 196; (with_reducible refine (KD.out _).mono ?_); rintro e _ ⟨rfl, v1, rfl⟩))
  go_ret2
  exact Ret.mk v1 rfl
def ovr (a b k : Nat) : Int := ((elemsTo a k).length : Int) - ((elemsTo b k).length : Int)
theorem ovr_step (a b k : Nat) : ovr a b (k + 1) = ovr a b k + ((((a.testBit k).toNat : Nat) : Int) - (((b.testBit k).toNat : Nat) : Int)) := by
  unfold ovr
  rw [elemsTo_step, elemsTo_step]
  cases a.testBit k <;> cases b.testBit k <;> simp <;> omega
theorem ovr_le (a b k : Nat) : -(k : Int) ≤ ovr a b k ∧ ovr a b k ≤ k := by
  unfold ovr
  have := elemsTo_len a k
  have := elemsTo_len b k
  omega
theorem belB_iff {a b : Nat} : belB a b = true ↔ ∀ i, i < 8 → 0 ≤ ovr a b (i + 1) := by
  unfold belB ovr
  rw [List.all_eq_true]
  constructor
  · intro h i hi
    have := of_decide_eq_true (h i (by simpa using hi))
    omega
  · intro h i hi
    have := h i (by simpa using hi)
    exact decide_eq_true (by omega)
set_option maxRecDepth 100000 in
set_option maxHeartbeats 4000000 in
theorem c_below {B : Nat} {W : World} (u : Later B W) (a b : Nat) (ha : a < 256) (hb : b < 256) (h : sz a = sz b) :
    Calls Try.prog 93 #[.int .i64 a, .int .i64 b] u.val (Ret B W (.tuple #[.bool (belB a b), .int .i64 0])) := by
  have KA := Lib.hid (fun v : Later B W => c_setsCheck v 8 a)
  have KB := Lib.hid (fun v : Later B W => c_setsCheck v 8 b)
  rw [show errno (decide (isSet 8 (a : Int))) 1 = 0 by simp [errno, is8_nat ha]] at KA
  rw [show errno (decide (isSet 8 (b : Int))) 1 = 0 by simp [errno, is8_nat hb]] at KB
  have KC := Lib.hid (fun v : Later B W => c_ones v a ha)
  have KD := Lib.hid (fun v : Later B W => c_ones v b hb)
  rw [← h] at KD
  have d0 : ((sz a : Int) != (sz a : Int)) = false := by simp
  have HB := Lib.hid (@belB_iff a b)
  clear h
  generalize sz a = za at *
  generalize belB a b = r at *
  go_enter Try.func93, Try.ntmps93
  go_wp2_with (first | (go_at_call 137; (with_reducible refine (KA.out _).mono ?_); rintro e _ ⟨rfl, v1, rfl⟩) | (go_at_call 137; (with_reducible refine (KB.out _).mono ?_); rintro e _ ⟨rfl, v1, rfl⟩) | (go_at_call 196; (with_reducible refine (KC.out _).mono ?_); rintro e _ ⟨rfl, v1, rfl⟩) | (go_at_call 196; (with_reducible refine (KD.out _).mono ?_); rintro e _ ⟨rfl, v1, rfl⟩))
  clear KA KB KC KD d0
  go_loopw [6, 25] (fun o i wr => ∃ (k : Nat) (v : Later B W), k ≤ 8 ∧ o = .int .i64 (ovr a b k) ∧ i = .int .i64 k ∧ wr = v.val ∧ Hid (∀ i, i < k → 0 ≤ ovr a b (i + 1))) (fun _ i _ => 8 - (intOf i).toNat)
  case atStart => exact ⟨0, v1, by omega, rfl, rfl, rfl, Lib.hid (fun i hi => by omega)⟩
  case round =>
    clear v1
    obtain ⟨k, v, hk, rfl, rfl, rfl, HF⟩ := hrel
    by_cases hlt : k < 8
    · have s1 := shr_and2 a k ha
      have s2 := shr_and2 b k hb
      have hS := ovr_step a b k
      have hl := ovr_le a b k
      have hl2 := ovr_le a b (k + 1)
      have ta : (a.testBit k).toNat ≤ 1 := Bool.toNat_le _
      have tb : (b.testBit k).toNat ≤ 1 := Bool.toNat_le _
      have HX : Hid (ovr a b (k + 1) < 0 → r = false) := Lib.hid (fun h => by
        cases c : r
        · rfl
        · have := HB.out.1 c k hlt; omega)
      have HY : Hid (0 ≤ ovr a b (k + 1) → ∀ i, i < k + 1 → 0 ≤ ovr a b (i + 1)) := Lib.hid (fun h i hi => by
        by_cases e : i = k
        · subst e; exact h
        · exact HF.out i (by omega))
      have HSS := Lib.hid hS
      generalize (a.testBit k).toNat = p at *
      generalize (b.testBit k).toNat = q at *
      have w1 : IntKind.i64.wrap ((p : Int) - (q : Int)) = (p : Int) - (q : Int) := IntWalk.i64_in _ (by omega)
      have w2 : IntKind.i64.wrap (ovr a b k + ((p : Int) - (q : Int))) = ovr a b k + ((p : Int) - (q : Int)) := IntWalk.i64_in _ (by omega)
      clear HF
      rw [hS] at HX HY
      clear hS hl hl2
      generalize ovr a b k = z at *
      rcases ilt (z + ((p : Int) - (q : Int))) 0 with ⟨g1, d1⟩ | ⟨g1, d1⟩
      · have hr := HX.out g1
        subst hr
        clear HX HY g1 HSS HB
        go_wp2
        refine wp_region_later v (by kernel_rfl) (by kernel_rfl) (fun _ => ?_)
        repeat (first | go_big_quiet_step ((fail)) | (refine wpQuiet_step (fun K hK => ?_); go_simp; refine ⟨_, fun _ => rfl, ?_⟩; refine hK _ ?_; clear hK K))
        refine wpQuiet_nil ?_
        intro v
        go_wp2
        go_ret2
        exact Ret.mk v rfl
      · have HN := Lib.hid (HY.out (by omega))
        clear HX HY g1
        go_wp2
        refine wp_region_later v (by kernel_rfl) (by kernel_rfl) (fun _ => ?_)
        repeat (first | go_big_quiet_step ((fail)) | (refine wpQuiet_step (fun K hK => ?_); go_simp; refine ⟨_, fun _ => rfl, ?_⟩; refine hK _ ?_; clear hK K))
        refine wpQuiet_nil ?_
        intro v
        go_wp2
        go_roundw
        case rel => exact ⟨k+1, v, by omega, by rw [HSS.out], by go_num, rfl, HN⟩
        case measure => simp [intOf]; omega
    · have hr : r = true := HB.out.2 (fun i hi => HF.out i (by omega))
      subst hr
      go_wp2
      go_ret2
      exact Ret.mk v rfl

end Go.Proofs.Ytjpcelldbhdneaa
