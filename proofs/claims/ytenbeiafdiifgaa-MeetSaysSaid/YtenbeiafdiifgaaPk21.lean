
/-
  rotaref.Closure.
  rotaref.Most.
-/
import Derived.Test.YtenbeiafdiifgaaPk16
import Derived.Test.YtenbeiafdiifgaaPk04
import Derived.Test.YtenbeiafdiifgaaPk18
namespace Go.Proofs.Ytenbeiafdiifgaa
open Go.RowKit
set_option linter.unusedVariables false

/-- does one of the first k of some sets add x to a set? -/
def adds (C : List Nat) (s x k : Nat) : Prop := ∃ j, j < k ∧ (C.getD j 0).testBit x = true ∧ C.getD j 0 ||| (s ||| bit x) = s ||| bit x
theorem adds_step {C : List Nat} {s x k : Nat} : adds C s x (k+1) ↔ adds C s x k ∨ ((C.getD k 0).testBit x = true ∧ C.getD k 0 ||| (s ||| bit x) = s ||| bit x) := by
  constructor
  · rintro ⟨j, h1, h2⟩
    by_cases e : j = k
    · subst e; exact .inr h2
    · exact .inl ⟨j, by omega, h2⟩
  · rintro (⟨j, h1, h2⟩ | h)
    · exact ⟨j, by omega, h2⟩
    · exact ⟨k, by omega, h⟩
/-- behind k elements, and c circuits of the next one -/
def RcTo (C : List Nat) (s k c X : Nat) : Prop := ∀ i, i < 8 → (X.testBit i = true ↔ s.testBit i = true ∨ (i < k ∧ adds C s i C.length) ∨ (i = k ∧ adds C s i c))
theorem RcTo.next {C : List Nat} {s k X : Nat} (h : RcTo C s k C.length X) : RcTo C s (k+1) 0 X := fun i hi => by
  rw [h i hi]
  constructor
  · rintro (g | g | g)
    · exact .inl g
    · exact .inr (.inl ⟨by omega, g.2⟩)
    · exact .inr (.inl ⟨by omega, g.2⟩)
  · rintro (g | g | ⟨_, j, hj, _⟩)
    · exact .inl g
    · by_cases e : i = k
      · exact .inr (.inr ⟨e, g.2⟩)
      · exact .inr (.inl ⟨by omega, g.2⟩)
    · omega
theorem RcTo.yes {C : List Nat} {s k c X : Nat} (h : RcTo C s k c X) (h1 : (C.getD c 0).testBit k = true) (h2 : C.getD c 0 ||| (s ||| bit k) = s ||| bit k) : RcTo C s k (c+1) (X ||| bit k) := fun i hi => by
  rw [or_bit_testBit, Bool.or_eq_true, h i hi, decide_eq_true_eq, adds_step]
  constructor
  · rintro ((g | g | g) | rfl)
    · exact .inl g
    · exact .inr (.inl g)
    · exact .inr (.inr ⟨g.1, .inl g.2⟩)
    · exact .inr (.inr ⟨rfl, .inr ⟨h1, h2⟩⟩)
  · rintro (g | g | ⟨rfl, g⟩)
    · exact .inl (.inl g)
    · exact .inl (.inr (.inl g))
    · exact .inr rfl
theorem RcTo.no {C : List Nat} {s k c X : Nat} (h : RcTo C s k c X) (h1 : ¬ ((C.getD c 0).testBit k = true ∧ C.getD c 0 ||| (s ||| bit k) = s ||| bit k)) : RcTo C s k (c+1) X := fun i hi => by
  rw [h i hi, adds_step]
  constructor
  · rintro (g | g | g)
    · exact .inl g
    · exact .inr (.inl g)
    · exact .inr (.inr ⟨g.1, .inl g.2⟩)
  · rintro (g | g | ⟨rfl, g | g⟩)
    · exact .inl g
    · exact .inr (.inl g)
    · exact .inr (.inr ⟨rfl, g⟩)
    · exact absurd g h1

set_option maxRecDepth 100000 in
set_option maxHeartbeats 8000000 in
theorem c_refClosure {B : Nat} {W : World} (u : Later B W) (m : Nat) (hm : m ≤ 8) (s X : Nat) (L : List Nat) (h256 : ∀ b, b ∈ L → b < 256) (hlen : L.length ≤ 4611686018427387904) (a : Option Addr) (cap : Nat) (h : IntsAt B W a (ints L)) (hs : s < bit m) (hX : X < 256) (hXc : RcTo (those m (circB m L)) s m 0 X) :
    Calls Try.prog 12 #[.agg #[.int .i64 m, .slice a (ints L).length cap], .int .i64 s] u.val (Ret B W (.int .i64 X)) := by
  have hb := bit_le m hm
  have T0 : Hid (Two (u.val.alloc (.cells #[.int .i64 m, .slice a (ints L).length cap] 24)) u.val.heap.size 24 (.int .i64 m) (.slice a (ints L).length cap)) := Lib.hid (Two.new _ _ _ _)
  have hrr : u.val.heap.size < (u.val.alloc (.cells #[.int .i64 m, .slice a (ints L).length cap] 24)).heap.size := by simp
  have hI : IntsAt (u.val.alloc (.cells #[.int .i64 m, .slice a (ints L).length cap] 24)).heap.size (u.val.alloc (.cells #[.int .i64 m, .slice a (ints L).length cap] 24)) a (ints L) := h.to (u.alloc _)
  have HV : Hid (∀ v : Later (u.val.alloc (.cells #[.int .i64 m, .slice a (ints L).length cap] 24)).heap.size (u.val.alloc (.cells #[.int .i64 m, .slice a (ints L).length cap] 24)), ∃ w : Later B W, w.val = v.val) := Lib.hid (fun v => ⟨(u.alloc _).up v, rfl⟩)
  have q0 : ∀ w : Later (u.val.alloc (.cells #[.int .i64 m, .slice a (ints L).length cap] 24)).heap.size (u.val.alloc (.cells #[.int .i64 m, .slice a (ints L).length cap] 24)), w.val.cell? ⟨u.val.heap.size, 0, none⟩ = some (.int .i64 m) := fun w => (T0.out.keep w.below).c0
  have q1 : ∀ w : Later (u.val.alloc (.cells #[.int .i64 m, .slice a (ints L).length cap] 24)).heap.size (u.val.alloc (.cells #[.int .i64 m, .slice a (ints L).length cap] 24)), w.val.cell? ⟨u.val.heap.size, 1, none⟩ = some (.slice a (ints L).length cap) := fun w => (T0.out.keep w.below).c1
  have p0 : (u.val.alloc (.cells #[.int .i64 m, .slice a (ints L).length cap] 24)).cell? ⟨u.val.heap.size, 0, none⟩ = some (.int .i64 m) := T0.out.c0
  have p1 : (u.val.alloc (.cells #[.int .i64 m, .slice a (ints L).length cap] 24)).cell? ⟨u.val.heap.size, 1, none⟩ = some (.slice a (ints L).length cap) := T0.out.c1
  have K0 : Hid (Calls Try.prog 20 #[.agg #[.int .i64 m, .slice a (ints L).length cap]] (u.val.alloc (.cells #[.int .i64 m, .slice a (ints L).length cap] 24)) (RetInts (u.val.alloc (.cells #[.int .i64 m, .slice a (ints L).length cap] 24)).heap.size (u.val.alloc (.cells #[.int .i64 m, .slice a (ints L).length cap] 24)) (ints (those m (circB m L))))) := Lib.hid (c_circuits (Later.self _) m hm L h256 hlen a cap hI)
  have HC8 : Hid (∀ j, j < (those m (circB m L)).length → (those m (circB m L)).getD j 0 < 256) := Lib.hid (fun j hj => by
    have : (those m (circB m L)).getD j 0 ∈ those m (circB m L) := by simp [hj]
    have := (mem_those.1 this).1; omega)
  have HCl : Hid ((those m (circB m L)).length ≤ 256) := Lib.hid (by have := thoseTo_len (circB m L) (bit m); have e : those m (circB m L) = thoseTo (circB m L) (bit m) := rfl; rw [e]; omega)
  have HXc := Lib.hid hXc
  clear h hI h256 hXc
  generalize those m (circB m L) = C at *
  go_enter Try.func12, Try.ntmps12
  go_upto_region 2 with (first | (go_at_call 20; ((with_reducible refine (K0.out).mono ?_); rintro e _ ⟨_, rfl, ⟨ad1, cp1, rfl, hI1, hcp1⟩, v1, rfl⟩)))
  have HI1 := Lib.hid hI1
  have r0 : ∀ w : Later v1.val.heap.size v1.val, w.val.cell? ⟨u.val.heap.size, 0, none⟩ = some (.int .i64 m) := fun w => q0 (v1.up w)
  have HVB : Hid (∀ v : Later v1.val.heap.size v1.val, ∃ w : Later B W, w.val = v.val) := Lib.hid (fun v => HV.out (v1.up v))
  clear K0 q0 q1 p0 p1 HV T0 hI1 hcp1 hrr
  generalize u.val.heap.size = gu at *
  obtain ⟨y, hy⟩ : ∃ y : Later v1.val.heap.size v1.val, y.val = v1.val := ⟨Later.self _, rfl⟩
  rw [← hy]
  clear hy
  generalize v1.val = V at *
  have hs8 : s < 256 := by omega
  have hcl := HCl.out
  rw [ints_len C]
  go_wp2
  go_loopw [6, 7] (fun o i wr => ∃ (k Y : Nat) (v : Later V.heap.size V), k ≤ m ∧ Y < 256 ∧ i = .int .i64 k ∧ o = .int .i64 Y ∧ wr = v.val ∧ Hid (RcTo C s k 0 Y)) (fun _ i _ => m - (intOf i).toNat)
  case atStart => exact ⟨0, s, y, by omega, hs8, rfl, rfl, rfl, Lib.hid (fun i hi => by
    constructor
    · intro g; exact .inl g
    · rintro (g | g | ⟨_, j, hj, _⟩)
      · exact g
      · omega
      · omega)⟩
  case round =>
    clear y
    obtain ⟨k, Y, v, hk, hY, rfl, rfl, rfl, HY⟩ := hrel
    by_cases hlt : k < m
    · have hbk := bit_lt k (by omega)
      have bc := bit_cast k
      have w1 := IntWalk.i64_in (bit k : Int) (by omega)
      have o1 := i64_or s (bit k) (by omega) (by omega)
      have hz8 := or_lt s (bit k) hs8 (by omega)
      go_wp2
      go_loopw [6, 8] (fun o i wr => ∃ (c Z : Nat) (v : Later V.heap.size V), c ≤ C.length ∧ Z < 256 ∧ i = .int .i64 c ∧ o = .int .i64 Z ∧ wr = v.val ∧ Hid (RcTo C s k c Z)) (fun _ i _ => C.length - (intOf i).toNat)
      case atStart => exact ⟨0, Y, v, by omega, hY, rfl, rfl, rfl, HY⟩
      case round =>
        clear v HY
        obtain ⟨c, Z, v, hc, hZ, rfl, rfl, rfl, HZ⟩ := hrel
        have o2 := i64_or Z (bit k) (by omega) (by omega)
        by_cases hltc : c < C.length
        · obtain ⟨bb, off, rfl, hbB, hcell⟩ := HI1.out.at (k := c) (by rw [ints_len]; exact hltc)
          have c0 : ∀ w : Later V.heap.size V, w.val.cell? ⟨bb, off + c, none⟩ = some (.int .i64 ((C.getD c 0 : Nat) : Int)) := fun w => by rw [← ints_getD]; exact hcell w c (by rw [ints_len]; exact hltc)
          have hx8 := HC8.out c hltc
          have hZ2 := or_lt Z (bit k) hZ (by omega)
          have HYes := Lib.hid (fun h1 h2 => HZ.out.yes h1 h2)
          have HNo := Lib.hid (fun h1 => HZ.out.no h1)
          clear hcell HZ
          generalize C.getD c 0 = x at *
          have KI := Lib.hid (fun w : Later V.heap.size V => c_in w x k (by omega) (by omega))
          have KW := Lib.hid (fun w : Later V.heap.size V => c_within w x (s ||| bit k) (by omega) (by omega))
          rcases btf (x.testBit k) with g1 | g1
          · rw [g1] at KI
            by_cases hw : x ||| (s ||| bit k) = s ||| bit k
            · have K1 := Lib.hid (fun w => dcall_t (KW.out w) hw)
              have HN := Lib.hid (HYes.out g1 hw)
              clear g1 hw KW HYes HNo
              generalize s ||| bit k = z at *
              go_wp2
              refine wp_region_later v (by kernel_rfl) (by kernel_rfl) (fun _ => ?_)
              repeat (first | go_big_quiet_step ((first | (go_at_call 21; exact KI.out _) | (go_at_call 22; exact K1.out _))) | (refine wpQuiet_step (fun K hK => ?_); go_simp; refine ⟨_, fun _ => rfl, ?_⟩; refine hK _ ?_; clear hK K))
              refine wpQuiet_nil ?_
              intro v
              go_wp2
              go_roundw
              case rel => exact ⟨c+1, Z ||| bit k, v, by omega, hZ2, by go_num, rfl, rfl, HN⟩
              case measure => simp [intOf]; omega
            · have K1 := Lib.hid (fun w => dcall_f (KW.out w) hw)
              have HN := Lib.hid (HNo.out (fun h => hw h.2))
              clear g1 hw KW HYes HNo
              generalize s ||| bit k = z at *
              go_wp2
              refine wp_region_later v (by kernel_rfl) (by kernel_rfl) (fun _ => ?_)
              repeat (first | go_big_quiet_step ((first | (go_at_call 21; exact KI.out _) | (go_at_call 22; exact K1.out _))) | (refine wpQuiet_step (fun K hK => ?_); go_simp; refine ⟨_, fun _ => rfl, ?_⟩; refine hK _ ?_; clear hK K))
              refine wpQuiet_nil ?_
              intro v
              go_wp2
              go_roundw
              case rel => exact ⟨c+1, Z, v, by omega, hZ, by go_num, rfl, rfl, HN⟩
              case measure => simp [intOf]; omega
          · rw [g1] at KI
            have HN := Lib.hid (HNo.out (fun h => by rw [g1] at h; cases h.1))
            clear g1 KW HYes HNo
            generalize s ||| bit k = z at *
            go_wp2
            refine wp_region_later v (by kernel_rfl) (by kernel_rfl) (fun _ => ?_)
            repeat (first | go_big_quiet_step (((go_at_call 21; exact KI.out _))) | (refine wpQuiet_step (fun K hK => ?_); go_simp; refine ⟨_, fun _ => rfl, ?_⟩; refine hK _ ?_; clear hK K))
            refine wpQuiet_nil ?_
            intro v
            go_wp2
            go_roundw
            case rel => exact ⟨c+1, Z, v, by omega, hZ, by go_num, rfl, rfl, HN⟩
            case measure => simp [intOf]; omega
        · have hce : c = C.length := by omega
          subst hce
          have HN := Lib.hid HZ.out.next
          go_wp2
          go_roundw
          case rel => exact ⟨k+1, Z, v, by omega, hZ, by go_num, rfl, rfl, HN⟩
          case measure => simp [intOf]; omega
    · have hke : k = m := by omega
      subst hke
      have HE : Hid (Y = X) := Lib.hid (eq_of_bits hY hX (fun i hi => by rw [Bool.eq_iff_iff, HY.out i hi, HXc.out i hi]))
      go_wp2
      go_ret
      exact Ret.of (HVB.out v) (by rw [HE.out]; rfl)

end Go.Proofs.Ytenbeiafdiifgaa

namespace Go.Proofs.Ytenbeiafdiifgaa
open Go.RowKit
set_option linter.unusedVariables false

end Go.Proofs.Ytenbeiafdiifgaa
