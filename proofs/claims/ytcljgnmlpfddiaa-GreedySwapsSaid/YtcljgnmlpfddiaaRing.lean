/-
  rotaref.Ring.
-/
import Derived.Test.YtcljgnmlpfddiaaCirc3
namespace Go.Proofs.Ytcljgnmlpfddiaa
open Go.RowKit
set_option linter.unusedVariables false

/-- the first of the circuits that lies in a set; 0: none -/
def RingIs (C : List Nat) (t r : Nat) : Prop := (∃ k, k < C.length ∧ C.getD k 0 ||| t = t ∧ (∀ i, i < k → ¬ C.getD i 0 ||| t = t) ∧ r = C.getD k 0) ∨ ((∀ i, i < C.length → ¬ C.getD i 0 ||| t = t) ∧ r = 0)

set_option maxRecDepth 100000 in
set_option maxHeartbeats 4000000 in
theorem c_ring {B : Nat} {W : World} (u : Later B W) (m : Nat) (hm : m ≤ 8) (L : List Nat) (h256 : ∀ b, b ∈ L → b < 256) (hlen : L.length ≤ 4611686018427387904) (a : Option Addr) (cap : Nat) (b i r : Nat) (hb8 : b < 256) (hi : i < 8) (h : IntsAt B W a (ints L)) (hr : RingIs (those m (circB m L)) (b ||| bit i) r) :
    Calls Try.prog 78 #[.agg #[.int .i64 m, .slice a (ints L).length cap], .int .i64 b, .int .i64 i] u.val (Ret B W (.int .i64 r)) := by
  have hbm := bit_le m hm
  have T0 : Hid (Two (u.val.alloc (.cells #[.int .i64 m, .slice a (ints L).length cap] 60)) u.val.heap.size 60 (.int .i64 m) (.slice a (ints L).length cap)) := Lib.hid (Two.new _ _ _ _)
  have K0 := Lib.hid (c_circuits (u.alloc (.cells #[.int .i64 m, .slice a (ints L).length cap] 60)) m hm L h256 hlen a cap h)
  have K0' : Hid (Calls Try.prog 132 #[.agg #[.int .i64 m, .slice a (ints L).length cap]] (u.val.alloc (.cells #[.int .i64 m, .slice a (ints L).length cap] 60)) (RetInts B W (ints (those m (circB m L))))) := K0
  have q0 := T0.out.c0
  have q1 := T0.out.c1
  have HL : Hid ((those m (circB m L)).length ≤ 256) := Lib.hid (by have := thoseTo_len (circB m L) (bit m); have e : those m (circB m L) = thoseTo (circB m L) (bit m) := rfl; rw [e]; omega)
  have H8 : Hid (∀ k, k < (those m (circB m L)).length → (those m (circB m L)).getD k 0 < 256) := Lib.hid (fun k hk => by
    have : (those m (circB m L)).getD k 0 ∈ those m (circB m L) := by simp [hk]
    have := (mem_those.1 this).1
    omega)
  have HR := Lib.hid hr
  clear h h256 K0 hr T0
  generalize those m (circB m L) = C at *
  have bi := bit_lt i hi
  have bc := bit_cast i
  have w1 := IntWalk.i64_in (bit i : Int) (by omega)
  have o1 := i64_or b (bit i) (by omega) (by omega)
  have ht := or_lt b (bit i) hb8 (by omega)
  have hll := HL.out
  go_enter Try.func78, Try.ntmps78
  go_upto_region 2 with (first | (go_at_call 132; refine (K0'.out).mono ?_; rintro e _ ⟨_, rfl, ⟨ad1, cp1, rfl, hI1, hcp1⟩, v1, rfl⟩))
  have HI := Lib.hid hI1
  have HVB : Hid (∀ v : Later v1.val.heap.size v1.val, ∃ w : Later B W, w.val = v.val) := Lib.hid (fun v => ⟨v1.up v, rfl⟩)
  clear hI1 hcp1 q0 q1 K0'
  rw [show (ints C).length = C.length from ints_len C]
  generalize u.val.heap.size = gu at *
  generalize v1.val = V at *
  clear v1 u
  obtain ⟨y, hy⟩ : ∃ y : Later V.heap.size V, y.val = V := ⟨Later.self _, rfl⟩
  rw [← hy]
  clear hy
  go_wp2
  go_loopw [8] (fun j wr => ∃ (k : Nat) (v : Later V.heap.size V), k ≤ C.length ∧ j = .int .i64 k ∧ wr = v.val ∧ Hid (∀ i', i' < k → ¬ C.getD i' 0 ||| (b ||| bit i) = (b ||| bit i))) (fun j _ => C.length - (intOf j).toNat)
  case atStart => exact ⟨0, y, by omega, rfl, rfl, Lib.hid (fun i' hi' => by omega)⟩
  case round =>
    clear y
    obtain ⟨k, v, hk, rfl, rfl, hf⟩ := hrel
    by_cases hlt : k < C.length
    · obtain ⟨bb, off, rfl, hbB, hcell⟩ := HI.out.at (k := k) (by rw [ints_len]; exact hlt)
      have c0 : ∀ v : Later V.heap.size V, v.val.cell? ⟨bb, off + k, none⟩ = some (.int .i64 ((C.getD k 0 : Nat) : Int)) := fun v => by rw [← ints_getD]; exact hcell v k (by rw [ints_len]; exact hlt)
      have h8 := H8.out k hlt
      have KW := Lib.hid (fun v : Later V.heap.size V => c_within v (C.getD k 0) (b ||| bit i) (by omega) (by omega))
      have HX : Hid (C.getD k 0 ||| (b ||| bit i) = (b ||| bit i) → r = C.getD k 0) := Lib.hid (fun h => by
        rcases HR.out with ⟨k', h1, h2, h3, h4⟩ | ⟨h1, _⟩
        · have : k' = k := by
            rcases Nat.lt_trichotomy k' k with c | c | c
            · exact absurd h2 (hf.out k' c)
            · exact c
            · exact absurd h (h3 k c)
          rw [h4, this]
        · exact absurd h (h1 k hlt))
      have HY : Hid (¬ C.getD k 0 ||| (b ||| bit i) = (b ||| bit i) → ∀ i', i' < k + 1 → ¬ C.getD i' 0 ||| (b ||| bit i) = (b ||| bit i)) := Lib.hid (fun h i' hi' => by
        by_cases c : i' = k
        · subst c; exact h
        · exact hf.out i' (by omega))
      clear hcell hf
      generalize C.getD k 0 = x at *
      by_cases hw : x ||| (b ||| bit i) = (b ||| bit i)
      · have K1 := Lib.hid (fun v => dcall_t (KW.out v) hw)
        have hrx := HX.out hw
        subst hrx
        clear hw KW HX HY
        go_wp2
        refine wp_region_later v (by kernel_rfl) (by kernel_rfl) (fun _ => ?_)
        repeat (first | go_big_quiet_step (((go_at_call 60; exact K1.out _))) | (refine wpQuiet_step (fun K hK => ?_); go_simp; refine ⟨_, fun _ => rfl, ?_⟩; refine hK _ ?_; clear hK K))
        refine wpQuiet_nil ?_
        intro v
        go_wp2
        go_ret
        exact Ret.of (HVB.out v) rfl
      · have K1 := Lib.hid (fun v => dcall_f (KW.out v) hw)
        have HN := Lib.hid (HY.out hw)
        clear hw KW HX HY
        go_wp2
        refine wp_region_later v (by kernel_rfl) (by kernel_rfl) (fun _ => ?_)
        repeat (first | go_big_quiet_step (((go_at_call 60; exact K1.out _))) | (refine wpQuiet_step (fun K hK => ?_); go_simp; refine ⟨_, fun _ => rfl, ?_⟩; refine hK _ ?_; clear hK K))
        refine wpQuiet_nil ?_
        intro v
        go_wp2
        go_roundw
        case rel => exact ⟨k+1, v, by omega, by go_num, rfl, HN⟩
        case measure => simp [intOf]; omega
    · have hr0 : r = 0 := by
        rcases HR.out with ⟨k', h1, h2, h3, h4⟩ | ⟨_, h2⟩
        · exact absurd h2 (hf.out k' (by omega))
        · exact h2
      subst hr0
      go_wp2
      go_ret
      exact Ret.of (HVB.out v) rfl

end Go.Proofs.Ytcljgnmlpfddiaa
