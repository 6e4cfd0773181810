/-
  game.Check, rotaref.Position.
-/
import Derived.Test.YtcljgnmlpfddiaaGameOver
namespace Go.Proofs.Ytcljgnmlpfddiaa
open Go.RowKit
set_option linter.unusedVariables false

/-- a position -/
def isPos (n : Int) (es : List (Int × Int)) (s t j c : Int) : Prop := isGraph n es ∧ (0 ≤ s ∧ s < n ∧ 0 ≤ t ∧ t < n) ∧ isSet es.length j ∧ isSet es.length c ∧ j.toNat &&& c.toNat = 0
instance (n es s t j c) : Decidable (isPos n es s t j c) := by unfold isPos; infer_instance
theorem nand_all_zero (j m : Nat) : nand j (bit m - 1) = 0 ↔ j < bit m := by
  constructor
  · intro h
    have : j = j % bit m := by
      apply Nat.eq_of_testBit_eq
      intro i
      have h1 := congrArg (fun x => x.testBit i) h
      simp only [Nat.zero_testBit] at h1
      rw [nand_testBit, testBit_all] at h1
      unfold bit
      rw [Nat.testBit_mod_two_pow]
      by_cases hi : i < m
      · simp [hi]
      · simp [hi] at h1 ⊢; exact h1
    rw [this]
    exact Nat.mod_lt _ (Nat.two_pow_pos m)
  · intro h
    apply Nat.eq_of_testBit_eq
    intro i
    rw [nand_testBit, testBit_all, Nat.zero_testBit]
    by_cases hi : i < m
    · simp [hi]
    · have : j.testBit i = false := by
        cases hj : j.testBit i
        · rfl
        · exact absurd (lt_m_of_testBit h hj) hi
      simp [this]
theorem isSet_iff {m : Nat} (hm : m ≤ 8) (j : Int) : isSet (m : Int) j ↔ 0 ≤ j ∧ j < bit m := by
  have := bit_le m hm
  unfold isSet
  rw [all_nat]
  omega

set_option maxRecDepth 100000 in
set_option maxHeartbeats 8000000 in
theorem c_gameCheck {B : Nat} {W : World} (u : Later B W) (n s t j c : Int) (es : List (Int × Int)) (a : Option Addr) (cap : Nat) (h : EdgesAt B W a es) (hlen : es.length ≤ 4611686018427387904) (hj : j < 9223372036854775808) (hc : c < 9223372036854775808) :
    Calls Try.prog 18 #[.agg #[.int .i64 n, .slice a es.length cap], .int .i64 s, .int .i64 t, .int .i64 j, .int .i64 c] u.val (Ret B W (.int .i64 (errno (decide (isPos n es s t j c)) 1))) := by
  have T0 : Hid (Two (u.val.alloc (.cells #[.int .i64 n, .slice a es.length cap] 27)) u.val.heap.size 27 (.int .i64 n) (.slice a es.length cap)) := Lib.hid (Two.new _ _ _ _)
  have hr : u.val.heap.size < (u.val.alloc (.cells #[.int .i64 n, .slice a es.length cap] 27)).heap.size := by simp
  have HV : Hid (∀ v : Later (u.val.alloc (.cells #[.int .i64 n, .slice a es.length cap] 27)).heap.size (u.val.alloc (.cells #[.int .i64 n, .slice a es.length cap] 27)), ∃ w : Later B W, w.val = v.val) := Lib.hid (fun v => ⟨(u.alloc _).up v, rfl⟩)
  have K0 : Hid (∀ x : Int, x = errno (decide (isGraph n es)) 1 → Calls Try.prog 72 #[.agg #[.int .i64 n, .slice a es.length cap]] (u.val.alloc (.cells #[.int .i64 n, .slice a es.length cap] 27)) (Ret (u.val.alloc (.cells #[.int .i64 n, .slice a es.length cap] 27)).heap.size (u.val.alloc (.cells #[.int .i64 n, .slice a es.length cap] 27)) (.int .i64 x))) := Lib.hid (fun x hx => by subst hx; exact c_checkGraph (Later.self _) n es a cap (h.to (u.alloc _)) hlen)
  have q0 : ∀ w : Later (u.val.alloc (.cells #[.int .i64 n, .slice a es.length cap] 27)).heap.size (u.val.alloc (.cells #[.int .i64 n, .slice a es.length cap] 27)), w.val.cell? ⟨u.val.heap.size, 0, none⟩ = some (.int .i64 n) := fun w => (T0.out.keep w.below).c0
  have q1 : ∀ w : Later (u.val.alloc (.cells #[.int .i64 n, .slice a es.length cap] 27)).heap.size (u.val.alloc (.cells #[.int .i64 n, .slice a es.length cap] 27)), w.val.cell? ⟨u.val.heap.size, 1, none⟩ = some (.slice a es.length cap) := fun w => (T0.out.keep w.below).c1
  clear h T0
  by_cases hG : isGraph n es
  case neg =>
    have K1 := Lib.hid (K0.out 1 (by simp [errno, hG]))
    have HR : Hid (errno (decide (isPos n es s t j c)) 1 = 1) := Lib.hid (errno_bad (fun h => hG h.1)).symm
    clear hG K0
    generalize errno (decide (isPos n es s t j c)) 1 = rv at *
    go_enter Try.func18, Try.ntmps18
    go_wp2_with (first | (go_at_call 72; refine (K1.out).mono ?_; rintro e _ ⟨rfl, v1, rfl⟩))
    go_ret
    exact Ret.of (HV.out v1) (vint HR.out.symm)
  have K1 := Lib.hid (K0.out 0 (by simp [errno, hG])); clear K0
  have he8 : es.length ≤ 8 := hG.2.2.1
  have hbm := bit_le es.length he8
  have hbc := bit_cast es.length
  have HP : Hid (isPos n es s t j c ↔ (0 ≤ s ∧ s < n ∧ 0 ≤ t ∧ t < n) ∧ (0 ≤ j ∧ j < bit es.length) ∧ (0 ≤ c ∧ c < bit es.length) ∧ j.toNat &&& c.toNat = 0) := Lib.hid (by
    unfold isPos
    rw [isSet_iff he8, isSet_iff he8]
    constructor
    · exact fun h => h.2
    · exact fun h => ⟨hG, h⟩)
  have HR : Hid (errno (decide (isPos n es s t j c)) 1 = if isPos n es s t j c then 0 else 1) := Lib.hid (by unfold errno; simp)
  generalize errno (decide (isPos n es s t j c)) 1 = rv at *
  have HNo : Hid (¬ isPos n es s t j c → rv = 1) := Lib.hid (fun h => by rw [HR.out, if_neg h])
  have HYes : Hid (isPos n es s t j c → rv = 0) := Lib.hid (fun h => by rw [HR.out, if_pos h])
  clear hG HR
  go_enter Try.func18, Try.ntmps18
  rcases ilt s 0 with ⟨g1, d1⟩ | ⟨g1, d1⟩
  · go_wp2_with (first | (go_at_call 72; refine (K1.out).mono ?_; rintro e _ ⟨rfl, v1, rfl⟩))
    go_ret
    exact Ret.of (HV.out v1) (vint (HNo.out (fun h => by have := HP.out.1 h; omega)).symm)
  rcases ilt t 0 with ⟨g2, d2⟩ | ⟨g2, d2⟩
  · go_wp2_with (first | (go_at_call 72; refine (K1.out).mono ?_; rintro e _ ⟨rfl, v1, rfl⟩))
    go_ret
    exact Ret.of (HV.out v1) (vint (HNo.out (fun h => by have := HP.out.1 h; omega)).symm)
  rcases ile n s with ⟨g3, d3⟩ | ⟨g3, d3⟩
  · go_wp2_with (first | (go_at_call 72; refine (K1.out).mono ?_; rintro e _ ⟨rfl, v1, rfl⟩))
    go_ret
    exact Ret.of (HV.out v1) (vint (HNo.out (fun h => by have := HP.out.1 h; omega)).symm)
  rcases ile n t with ⟨g4, d4⟩ | ⟨g4, d4⟩
  · go_wp2_with (first | (go_at_call 72; refine (K1.out).mono ?_; rintro e _ ⟨rfl, v1, rfl⟩))
    go_ret
    exact Ret.of (HV.out v1) (vint (HNo.out (fun h => by have := HP.out.1 h; omega)).symm)
  rcases ilt j 0 with ⟨g5, d5⟩ | ⟨g5, d5⟩
  · go_wp2_with (first | (go_at_call 72; refine (K1.out).mono ?_; rintro e _ ⟨rfl, v1, rfl⟩))
    go_ret
    exact Ret.of (HV.out v1) (vint (HNo.out (fun h => by have := HP.out.1 h; omega)).symm)
  rcases ilt c 0 with ⟨g6, d6⟩ | ⟨g6, d6⟩
  · go_wp2_with (first | (go_at_call 72; refine (K1.out).mono ?_; rintro e _ ⟨rfl, v1, rfl⟩))
    go_ret
    exact Ret.of (HV.out v1) (vint (HNo.out (fun h => by have := HP.out.1 h; omega)).symm)
  obtain ⟨j, rfl⟩ := Int.eq_ofNat_of_zero_le g5
  obtain ⟨c, rfl⟩ := Int.eq_ofNat_of_zero_le g6
  have o1 := i64_andNot j (bit es.length - 1) (by omega) (by omega)
  have o2 := i64_andNot c (bit es.length - 1) (by omega) (by omega)
  have o3 := i64_and j c (by omega) (by omega)
  rw [show ((bit es.length - 1 : Nat) : Int) = (bit es.length : Int) - 1 by omega] at o1 o2
  have N1 := Lib.hid (nand_all_zero j es.length)
  have N2 := Lib.hid (nand_all_zero c es.length)
  generalize nand j (bit es.length - 1) = a1 at *
  generalize nand c (bit es.length - 1) = a2 at *
  have HA : Hid ((j : Int).toNat &&& (c : Int).toNat = j &&& c) := Lib.hid rfl
  generalize hjc : j &&& c = a3 at *
  have HJC := Lib.hid hjc; clear hjc
  have HT : Hid ((0 ≤ s ∧ s < n ∧ 0 ≤ t ∧ t < n)) := Lib.hid ⟨g1, g3, g2, g4⟩
  rcases ieq (a1 : Int) 0 with ⟨g7, d7, d7'⟩ | ⟨g7, d7, d7'⟩
  case inr =>
    have HF : Hid (rv = 1) := Lib.hid (HNo.out (fun h => by have h1 := (HP.out.1 h).2.1.2; have := N1.out.2 (by omega); omega))
    clear HP HNo HYes g7
    go_wp2_with (first | (go_at_call 72; refine (K1.out).mono ?_; rintro e _ ⟨rfl, v1, rfl⟩))
    go_ret
    exact Ret.of (HV.out v1) (vint HF.out.symm)
  rcases ieq (a2 : Int) 0 with ⟨g8, d8, d8'⟩ | ⟨g8, d8, d8'⟩
  case inr =>
    have HF : Hid (rv = 1) := Lib.hid (HNo.out (fun h => by have h1 := (HP.out.1 h).2.2.1.2; have := N2.out.2 (by omega); omega))
    clear HP HNo HYes g7 g8
    go_wp2_with (first | (go_at_call 72; refine (K1.out).mono ?_; rintro e _ ⟨rfl, v1, rfl⟩))
    go_ret
    exact Ret.of (HV.out v1) (vint HF.out.symm)
  rcases ieq (a3 : Int) 0 with ⟨g9, d9, d9'⟩ | ⟨g9, d9, d9'⟩
  · have HF : Hid (rv = 0) := Lib.hid (HYes.out (HP.out.2 ⟨HT.out, ⟨by omega, by have := N1.out.1 (by omega); omega⟩, ⟨by omega, by have := N2.out.1 (by omega); omega⟩, by rw [HA.out]; omega⟩))
    clear HP HNo HYes g7 g8 g9
    go_wp2_with (first | (go_at_call 72; refine (K1.out).mono ?_; rintro e _ ⟨rfl, v1, rfl⟩))
    go_ret
    exact Ret.of (HV.out v1) (vint HF.out.symm)
  · have HF : Hid (rv = 1) := Lib.hid (HNo.out (fun h => by have h1 := (HP.out.1 h).2.2.2; rw [HA.out] at h1; omega))
    clear HP HNo HYes g7 g8 g9
    go_wp2_with (first | (go_at_call 72; refine (K1.out).mono ?_; rintro e _ ⟨rfl, v1, rfl⟩))
    go_ret
    exact Ret.of (HV.out v1) (vint HF.out.symm)

set_option maxRecDepth 100000 in
set_option maxHeartbeats 8000000 in
theorem c_position {B : Nat} {W : World} (u : Later B W) (n s t j c : Int) (es : List (Int × Int)) (a : Option Addr) (cap : Nat) (h : EdgesAt B W a es) (hlen : es.length ≤ 4611686018427387904) :
    Calls Try.prog 15 #[.agg #[.int .i64 n, .slice a es.length cap], .int .i64 s, .int .i64 t, .int .i64 j, .int .i64 c] u.val (Ret B W (.bool (decide (isPos n es s t j c)))) := by
  have T0 : Hid (Two (u.val.alloc (.cells #[.int .i64 n, .slice a es.length cap] 27)) u.val.heap.size 27 (.int .i64 n) (.slice a es.length cap)) := Lib.hid (Two.new _ _ _ _)
  have hr : u.val.heap.size < (u.val.alloc (.cells #[.int .i64 n, .slice a es.length cap] 27)).heap.size := by simp
  have HV : Hid (∀ v : Later (u.val.alloc (.cells #[.int .i64 n, .slice a es.length cap] 27)).heap.size (u.val.alloc (.cells #[.int .i64 n, .slice a es.length cap] 27)), ∃ w : Later B W, w.val = v.val) := Lib.hid (fun v => ⟨(u.alloc _).up v, rfl⟩)
  have K0 : Hid (∀ x : Bool, x = decide (isGraph n es) → Calls Try.prog 39 #[.agg #[.int .i64 n, .slice a es.length cap]] (u.val.alloc (.cells #[.int .i64 n, .slice a es.length cap] 27)) (Ret (u.val.alloc (.cells #[.int .i64 n, .slice a es.length cap] 27)).heap.size (u.val.alloc (.cells #[.int .i64 n, .slice a es.length cap] 27)) (.bool x))) := Lib.hid (fun x hx => by subst hx; exact c_isGraph (Later.self _) n es a cap (h.to (u.alloc _)) hlen)
  have q0 : ∀ w : Later (u.val.alloc (.cells #[.int .i64 n, .slice a es.length cap] 27)).heap.size (u.val.alloc (.cells #[.int .i64 n, .slice a es.length cap] 27)), w.val.cell? ⟨u.val.heap.size, 0, none⟩ = some (.int .i64 n) := fun w => (T0.out.keep w.below).c0
  have q1 : ∀ w : Later (u.val.alloc (.cells #[.int .i64 n, .slice a es.length cap] 27)).heap.size (u.val.alloc (.cells #[.int .i64 n, .slice a es.length cap] 27)), w.val.cell? ⟨u.val.heap.size, 1, none⟩ = some (.slice a es.length cap) := fun w => (T0.out.keep w.below).c1
  have KS : Hid (∀ (w : Later (u.val.alloc (.cells #[.int .i64 n, .slice a es.length cap] 27)).heap.size (u.val.alloc (.cells #[.int .i64 n, .slice a es.length cap] 27))) (b : Bool) (z : Int), decide (isSet (es.length : Int) z) = b → Calls Try.prog 40 #[.int .i64 (es.length : Int), .int .i64 z] w.val (Ret (u.val.alloc (.cells #[.int .i64 n, .slice a es.length cap] 27)).heap.size (u.val.alloc (.cells #[.int .i64 n, .slice a es.length cap] 27)) (.bool b))) := Lib.hid (fun w b z hb => by have := c_isSet w (es.length : Int) z; rwa [hb] at this)
  clear h T0
  have HNo : Hid (¬ isPos n es s t j c → decide (isPos n es s t j c) = false) := Lib.hid (fun h => decide_eq_false h)
  have HYes : Hid (isPos n es s t j c → decide (isPos n es s t j c) = true) := Lib.hid (fun h => decide_eq_true h)
  have HP : Hid (isPos n es s t j c ↔ isGraph n es ∧ (0 ≤ s ∧ s < n ∧ 0 ≤ t ∧ t < n) ∧ isSet es.length j ∧ isSet es.length c ∧ j.toNat &&& c.toNat = 0) := Lib.hid Iff.rfl
  generalize hrv : decide (isPos n es s t j c) = rv at *
  clear hrv
  by_cases hG : isGraph n es
  case neg =>
    have K1 := Lib.hid (K0.out false (by simp [hG]))
    have HF : Hid (rv = false) := Lib.hid (HNo.out (fun h => hG (HP.out.1 h).1))
    clear hG K0 HNo HYes HP
    go_enter Try.func15, Try.ntmps15
    go_wp2_with (first | (go_at_call 39; refine (K1.out).mono ?_; rintro e _ ⟨rfl, v1, rfl⟩))
    go_ret
    exact Ret.of (HV.out v1) (vbool HF.out.symm)
  have K1 := Lib.hid (K0.out true (by simp [hG])); clear K0
  by_cases hst : 0 ≤ s ∧ s < n ∧ 0 ≤ t ∧ t < n
  case neg =>
    have HF : Hid (rv = false) := Lib.hid (HNo.out (fun h => hst (HP.out.1 h).2.1))
    clear hG HNo HYes HP KS
    go_enter Try.func15, Try.ntmps15
    rcases ile 0 s with ⟨g1, d1⟩ | ⟨g1, d1⟩ <;> rcases ile 0 t with ⟨g3, d3⟩ | ⟨g3, d3⟩ <;> rcases ilt s n with ⟨g2, d2⟩ | ⟨g2, d2⟩ <;> rcases ilt t n with ⟨g4, d4⟩ | ⟨g4, d4⟩ <;> rcases ilt s t with ⟨g5, d5⟩ | ⟨g5, d5⟩ <;> rcases ilt t s with ⟨g6, d6⟩ | ⟨g6, d6⟩
    all_goals first | (exfalso; omega) | skip
    all_goals
      clear hst
      go_wp2_with (first | (go_at_call 39; refine (K1.out).mono ?_; rintro e _ ⟨rfl, v1, rfl⟩))
      go_ret
      exact Ret.of (HV.out v1) (vbool HF.out.symm)
  obtain ⟨g1, g2, g3, g4⟩ := hst
  have d1 := decide_eq_true g1
  have d2 := decide_eq_true g2
  have d3 := decide_eq_true g3
  have d4 := decide_eq_true g4
  have HG := Lib.hid hG
  have HST : Hid (0 ≤ s ∧ s < n ∧ 0 ≤ t ∧ t < n) := Lib.hid ⟨g1, g2, g3, g4⟩
  clear hG
  by_cases hj : isSet (es.length : Int) j
  case neg =>
    have HF : Hid (rv = false) := Lib.hid (HNo.out (fun h => hj (HP.out.1 h).2.2.1))
    have K2 := Lib.hid (fun w => KS.out w false j (by simp [hj]))
    clear HNo HYes HP KS hj
    go_enter Try.func15, Try.ntmps15
    rcases ilt s t with ⟨g5, d5⟩ | ⟨g5, d5⟩ <;> rcases ilt t s with ⟨g6, d6⟩ | ⟨g6, d6⟩
    all_goals first | (exfalso; omega) | skip
    all_goals
      go_wp2_with (first | (go_at_call 39; refine (K1.out).mono ?_; rintro e _ ⟨rfl, v1, rfl⟩) | (go_at_call 40; refine (K2.out _).mono ?_; rintro e _ ⟨rfl, v2, rfl⟩))
      go_ret
      exact Ret.of (HV.out v2) (vbool HF.out.symm)
  have K2 := Lib.hid (fun w => KS.out w true j (by simp [hj]))
  by_cases hc : isSet (es.length : Int) c
  case neg =>
    have HF : Hid (rv = false) := Lib.hid (HNo.out (fun h => hc (HP.out.1 h).2.2.2.1))
    have K3 := Lib.hid (fun w => KS.out w false c (by simp [hc]))
    clear HNo HYes HP KS hj hc
    go_enter Try.func15, Try.ntmps15
    rcases ilt s t with ⟨g5, d5⟩ | ⟨g5, d5⟩ <;> rcases ilt t s with ⟨g6, d6⟩ | ⟨g6, d6⟩
    all_goals first | (exfalso; omega) | skip
    all_goals
      go_wp2_with (first | (go_at_call 39; refine (K1.out).mono ?_; rintro e _ ⟨rfl, v1, rfl⟩) | (go_at_call 40; ((with_reducible refine (K2.out _).mono ?_); rintro e _ ⟨rfl, v2, rfl⟩)) | (go_at_call 40; ((with_reducible refine (K3.out _).mono ?_); rintro e _ ⟨rfl, v2, rfl⟩)))
      go_ret
      exact Ret.of (HV.out v2) (vbool HF.out.symm)
  have K3 := Lib.hid (fun w => KS.out w true c (by simp [hc]))
  have he8 : es.length ≤ 8 := HG.out.2.2.1
  have hbm := bit_le es.length he8
  obtain ⟨j0, jb⟩ := (isSet_iff he8 j).1 hj
  obtain ⟨c0, cb⟩ := (isSet_iff he8 c).1 hc
  have HJ := Lib.hid hj; have HC := Lib.hid hc
  clear hj hc KS
  obtain ⟨j, rfl⟩ := Int.eq_ofNat_of_zero_le j0
  obtain ⟨c, rfl⟩ := Int.eq_ofNat_of_zero_le c0
  have o3 := i64_and j c (by omega) (by omega)
  have HA : Hid ((j : Int).toNat &&& (c : Int).toNat = j &&& c) := Lib.hid rfl
  generalize hjc : j &&& c = a3 at *
  have HJC := Lib.hid hjc; clear hjc
  go_enter Try.func15, Try.ntmps15
  rcases ieq (a3 : Int) 0 with ⟨g9, d9, d9'⟩ | ⟨g9, d9, d9'⟩
  · have HF : Hid (rv = true) := Lib.hid (HYes.out (HP.out.2 ⟨HG.out, HST.out, HJ.out, HC.out, by rw [HA.out]; omega⟩))
    clear g9 HP HNo HYes
    rcases ilt s t with ⟨g5, d5⟩ | ⟨g5, d5⟩ <;> rcases ilt t s with ⟨g6, d6⟩ | ⟨g6, d6⟩
    all_goals first | (exfalso; omega) | skip
    all_goals
      go_wp2_with (first | (go_at_call 39; refine (K1.out).mono ?_; rintro e _ ⟨rfl, v1, rfl⟩) | (go_at_call 40; ((with_reducible refine (K2.out _).mono ?_); rintro e _ ⟨rfl, v2, rfl⟩)) | (go_at_call 40; ((with_reducible refine (K3.out _).mono ?_); rintro e _ ⟨rfl, v2, rfl⟩)))
      go_ret
      exact Ret.of (HV.out v2) (vbool HF.out.symm)
  · have HF : Hid (rv = false) := Lib.hid (HNo.out (fun h => by have h1 := (HP.out.1 h).2.2.2.2; rw [HA.out] at h1; omega))
    clear g9 HP HNo HYes
    rcases ilt s t with ⟨g5, d5⟩ | ⟨g5, d5⟩ <;> rcases ilt t s with ⟨g6, d6⟩ | ⟨g6, d6⟩
    all_goals first | (exfalso; omega) | skip
    all_goals
      go_wp2_with (first | (go_at_call 39; refine (K1.out).mono ?_; rintro e _ ⟨rfl, v1, rfl⟩) | (go_at_call 40; ((with_reducible refine (K2.out _).mono ?_); rintro e _ ⟨rfl, v2, rfl⟩)) | (go_at_call 40; ((with_reducible refine (K3.out _).mono ?_); rintro e _ ⟨rfl, v2, rfl⟩)))
      go_ret
      exact Ret.of (HV.out v2) (vbool HF.out.symm)

end Go.Proofs.Ytcljgnmlpfddiaa
