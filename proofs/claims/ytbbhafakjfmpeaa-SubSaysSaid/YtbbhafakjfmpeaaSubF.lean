
/-
  rotaref.IsFunction, sub.form, rotaref.Slower: functions of sets.
-/
import Derived.Test.YtbbhafakjfmpeaaThose
namespace Go.Proofs.Ytbbhafakjfmpeaa
open Go.RowKit
set_option linter.unusedVariables false

def inBound (f : List Int) (k : Nat) : Prop := ∀ i, i < k → -1000 ≤ f.getD i 0 ∧ f.getD i 0 ≤ 1000
theorem inBound_step {f : List Int} {k : Nat} (h : inBound f k) (h0 : -1000 ≤ f.getD k 0) (h1 : f.getD k 0 ≤ 1000) : inBound f (k+1) := by
  intro i hi
  by_cases e : i = k
  · subst e; exact ⟨h0, h1⟩
  · exact h i (by omega)
/-- a function of sets: a number of each, 0 of the empty one -/
def isFun (n : Int) (f : List Int) : Prop := 0 ≤ n ∧ n ≤ 8 ∧ f.length = bit n.toNat ∧ f.getD 0 0 = 0 ∧ ∀ i, i < f.length → -1000 ≤ f.getD i 0 ∧ f.getD i 0 ≤ 1000
instance (n f) : Decidable (isFun n f) := by unfold isFun; infer_instance

set_option maxHeartbeats 1000000 in
theorem c_isFunction {B : Nat} {W : World} (u : Later B W) (n : Int) (f : List Int) (a : Option Addr) (cap : Nat) (h : IntsAt B W a f) (hlen : f.length ≤ 4611686018427387904) :
    Calls Try.prog 8 #[.int .i64 n, .slice a f.length cap] u.val (Ret B W (.bool (decide (isFun n f)))) := by
  have HI := Lib.hid h; clear h
  rcases ilt n 0 with ⟨h0, e0⟩ | ⟨h0, e0⟩
  · go_enter Try.func8, Try.ntmps8
    go_wp2
    go_ret
    exact Ret.mk u (vbool (dec_false (fun h => by have := h.1; omega)))
  rcases ilt 8 n with ⟨h8, e8⟩ | ⟨h8, e8⟩
  · go_enter Try.func8, Try.ntmps8
    go_wp2
    go_ret
    exact Ret.mk u (vbool (dec_false (fun h => by have := h.2.1; omega)))
  obtain ⟨m, rfl⟩ := Int.eq_ofNat_of_zero_le h0
  have hb := bit_le m (by omega)
  have hc := bit_cast m
  rcases ieq (f.length : Int) (bit m : Int) with ⟨hl, e1, e2⟩ | ⟨hl, e1, e2⟩
  case inr =>
    go_enter Try.func8, Try.ntmps8
    go_wp2
    go_ret
    exact Ret.mk u (vbool (dec_false (fun h => by have := h.2.2.1; simp only [Int.toNat_natCast] at this; omega)))
  obtain ⟨b, off, rfl, hbB, hcell⟩ := HI.out.at (k := 0) (by omega)
  have c0 : u.val.cell? ⟨b, off, none⟩ = some (.int .i64 (f.getD 0 0)) := hcell u 0 (by omega)
  have HL : Hid (f.length = bit m) := Lib.hid (by omega)
  have HP : Hid (isFun (m : Int) f → inBound f f.length) := Lib.hid (fun h => h.2.2.2.2)
  have HN : Hid (f.getD 0 0 ≠ 0 → ¬ isFun (m : Int) f) := Lib.hid (fun h1 h2 => h1 h2.2.2.2.1)
  have HY : Hid (f.getD 0 0 = 0 → inBound f f.length → isFun (m : Int) f) := Lib.hid (fun h1 h2 => ⟨by omega, by omega, by simpa using HL.out, h1, h2⟩)
  have C := Lib.hid hcell
  clear hcell HL
  rcases ieq (f.getD 0 0) 0 with ⟨hz, e3, e4⟩ | ⟨hz, e3, e4⟩
  case inr =>
    generalize f.getD 0 0 = x at *
    go_enter Try.func8, Try.ntmps8
    go_wp2
    go_ret
    exact Ret.mk u (vbool (dec_false (HN.out hz)))
  have HZ := Lib.hid hz
  rw [hz] at c0
  clear hz e3 e4
  go_enter Try.func8, Try.ntmps8
  go_wp2
  go_loopw [5] (fun i wr => ∃ (k : Nat) (u : Later B W), k ≤ f.length ∧ i = .int .i64 k ∧ wr = u.val ∧ Hid (inBound f k)) (fun i _ => f.length - (intOf i).toNat)
  case atStart => exact ⟨0, u, by omega, rfl, rfl, by intro i hi; omega⟩
  case round =>
    clear c0
    obtain ⟨k, u, hk, rfl, rfl, hf⟩ := hrel
    by_cases hlt : k < f.length
    · have c0 : u.val.cell? ⟨b, off + k, none⟩ = some (.int .i64 (f.getD k 0)) := C.out u k hlt
      have H1 := Lib.hid (@inBound_step f k hf.out)
      have H2 : Hid (inBound f f.length → -1000 ≤ f.getD k 0 ∧ f.getD k 0 ≤ 1000) := Lib.hid (fun h => h k hlt)
      generalize f.getD k 0 = x at *
      rcases ilt x (-1000) with ⟨g1, d1⟩ | ⟨g1, d1⟩ <;> rcases ilt 1000 x with ⟨g2, d2⟩ | ⟨g2, d2⟩
      · exfalso; omega
      all_goals
        go_wp2
        first
        | (go_ret
           exact Ret.mk u (vbool (dec_false (fun h => by have := H2.out (HP.out h); omega))))
        | (go_roundw
           case rel => exact ⟨k+1, u, by omega, by go_num, rfl, H1.out (by omega) (by omega)⟩
           case measure => simp [intOf]; omega)
    · go_wp2
      go_ret
      have hf' := hf.out
      rw [show k = f.length by omega] at hf'
      exact Ret.mk u (vbool (dec_true (HY.out HZ.out hf')))

set_option maxHeartbeats 1000000 in
theorem c_form {B : Nat} {W : World} (u : Later B W) (n : Int) (f : List Int) (a : Option Addr) (cap : Nat) (h : IntsAt B W a f) (hlen : f.length ≤ 4611686018427387904) :
    Calls Try.prog 17 #[.int .i64 n, .slice a f.length cap] u.val (Ret B W (.int .i64 (errno (decide (isFun n f)) 1))) := by
  have HI := Lib.hid h; clear h
  rcases ilt n 0 with ⟨h0, e0⟩ | ⟨h0, e0⟩
  · go_enter Try.func17, Try.ntmps17
    go_wp2
    go_ret
    exact Ret.mk u (vint (errno_bad (fun h => by have := h.1; omega)))
  rcases ilt 8 n with ⟨h8, e8⟩ | ⟨h8, e8⟩
  · go_enter Try.func17, Try.ntmps17
    go_wp2
    go_ret
    exact Ret.mk u (vint (errno_bad (fun h => by have := h.2.1; omega)))
  obtain ⟨m, rfl⟩ := Int.eq_ofNat_of_zero_le h0
  have hb := bit_le m (by omega)
  have hc := bit_cast m
  rcases ieq (f.length : Int) (bit m : Int) with ⟨hl, e1, e2⟩ | ⟨hl, e1, e2⟩
  case inr =>
    go_enter Try.func17, Try.ntmps17
    go_wp2
    go_ret
    exact Ret.mk u (vint (errno_bad (fun h => by have := h.2.2.1; simp only [Int.toNat_natCast] at this; omega)))
  obtain ⟨b, off, rfl, hbB, hcell⟩ := HI.out.at (k := 0) (by omega)
  have HL : Hid (f.length = bit m) := Lib.hid (by omega)
  have HP : Hid (isFun (m : Int) f → inBound f f.length) := Lib.hid (fun h => h.2.2.2.2)
  have HN : Hid (f.getD 0 0 ≠ 0 → ¬ isFun (m : Int) f) := Lib.hid (fun h1 h2 => h1 h2.2.2.2.1)
  have HY : Hid (f.getD 0 0 = 0 → inBound f f.length → isFun (m : Int) f) := Lib.hid (fun h1 h2 => ⟨by omega, by omega, by simpa using HL.out, h1, h2⟩)
  have C := Lib.hid hcell
  clear hcell HL
  go_enter Try.func17, Try.ntmps17
  go_wp2
  go_loopw [22] (fun i wr => ∃ (k : Nat) (u : Later B W), k ≤ f.length ∧ i = .int .i64 k ∧ wr = u.val ∧ Hid (inBound f k)) (fun i _ => f.length - (intOf i).toNat)
  case atStart => exact ⟨0, u, by omega, rfl, rfl, by intro i hi; omega⟩
  case round =>
    obtain ⟨k, u, hk, rfl, rfl, hf⟩ := hrel
    by_cases hlt : k < f.length
    · have c0 : u.val.cell? ⟨b, off + k, none⟩ = some (.int .i64 (f.getD k 0)) := C.out u k hlt
      have H1 := Lib.hid (@inBound_step f k hf.out)
      have H2 : Hid (inBound f f.length → -1000 ≤ f.getD k 0 ∧ f.getD k 0 ≤ 1000) := Lib.hid (fun h => h k hlt)
      generalize f.getD k 0 = x at *
      rcases ilt x (-1000) with ⟨g1, d1⟩ | ⟨g1, d1⟩ <;> rcases ilt 1000 x with ⟨g2, d2⟩ | ⟨g2, d2⟩
      · exfalso; omega
      all_goals
        go_wp2
        first
        | (go_ret
           exact Ret.mk u (vint (errno_bad (fun h => by have := H2.out (HP.out h); omega))))
        | (go_roundw
           case rel => exact ⟨k+1, u, by omega, by go_num, rfl, H1.out (by omega) (by omega)⟩
           case measure => simp [intOf]; omega)
    · have c0 : u.val.cell? ⟨b, off, none⟩ = some (.int .i64 (f.getD 0 0)) := C.out u 0 (by omega)
      have hf' := hf.out
      rw [show k = f.length by omega] at hf'
      have HF := Lib.hid hf'; clear hf'
      generalize f.getD 0 0 = x at *
      rcases ieq x 0 with ⟨hz, e3, e4⟩ | ⟨hz, e3, e4⟩
      · have HZ := Lib.hid hz
        subst hz
        go_wp2
        go_ret
        exact Ret.mk u (vint (errno_ok (HY.out (by trivial) HF.out)))
      · go_wp2
        go_ret
        exact Ret.mk u (vint (errno_bad (HN.out hz)))

end Go.Proofs.Ytbbhafakjfmpeaa
