
/-
  math/bits.Len and TrailingZeros of a set below 256 (the latter by a laid table); convex.Line.
-/
import Derived.Test.YtdhkobeagfmcnaaDoorCvL
namespace Go.Proofs.YtdhkobeagfmcnaaDoor
open Go.RowKit
set_option linter.unusedVariables false

/-- one behind the greatest element; 0: there is none -/
def lenN (t : Nat) : Nat := if (elems t).length = 0 then 0 else (elems t).getD ((elems t).length - 1) 0 + 1
/-- the least element -/
def tzN (t : Nat) : Nat := (elems t).getD 0 0
/-- the table that the library lays -/
def dbr : List Int := [0, 1, 56, 2, 57, 49, 28, 3, 61, 58, 42, 50, 38, 29, 17, 4, 62, 47, 59, 36, 45, 43, 51, 22, 53, 39, 33, 30, 24, 18, 12, 5, 63, 55, 48, 27, 60, 41, 37, 16, 46, 35, 44, 21, 52, 32, 23, 11, 54, 26, 40, 15, 34, 20, 31, 10, 25, 14, 19, 9, 13, 8, 7, 6]
def Dbr (B : Nat) (W : World) : Prop := 1 < B ∧ ∀ i, i < 64 → W.cell? ⟨1, i, none⟩ = some (.int .u8 (dbr.getD i 0))
theorem Dbr.cell {B : Nat} {W : World} (h : Dbr B W) (u : Later B W) {i : Nat} (hi : i < 64) : u.val.cell? ⟨1, i, none⟩ = some (.int .u8 (dbr.getD i 0)) := by
  rw [u.cell (a := ⟨1, i, none⟩) h.1]; exact h.2 i hi

set_option maxRecDepth 100000 in
set_option maxHeartbeats 1000000 in
theorem c_len64 {B : Nat} {W : World} (u : Later B W) (t : Nat) (ht : t < 256) :
    Calls Tryd.prog 39 #[.int .u64 t] u.val (Ret B W (.int .i64 (lenN t))) := by
  have d1 : decide ((4294967296 : Int) ≤ (t : Int)) = false := decide_eq_false (by omega)
  have d2 : decide ((65536 : Int) ≤ (t : Int)) = false := decide_eq_false (by omega)
  have d3 : decide ((256 : Int) ≤ (t : Int)) = false := decide_eq_false (by omega)
  go_enter Tryd.func39, Tryd.ntmps39
  go_wp2
  go_ret
  refine Ret.mk _ (vint ?_)
  obtain ⟨x, rfl⟩ : ∃ x : Fin 256, t = x.val := ⟨⟨t, ht⟩, rfl⟩
  clear d1 d2 d3 ht u
  revert x
  decide +kernel

set_option maxHeartbeats 400000 in
theorem c_len {B : Nat} {W : World} (u : Later B W) (t : Nat) (ht : t < 256) :
    Calls Tryd.prog 28 #[.int .u64 t] u.val (Ret B W (.int .i64 (lenN t))) := by
  have H := Lib.hid (c_len64 u t ht)
  go_enter Tryd.func28, Tryd.ntmps28
  go_wp2_with (first | (go_at_call 39; (with_reducible refine (H.out).mono ?_); rintro e _ ⟨rfl, v1, rfl⟩))
  go_ret
  exact Ret.mk _ rfl

theorem tz_at (t : Nat) (ht : t < 256) (h0 : t ≠ 0) : ∃ i : Nat, i < 64 ∧ IntKind.u64.wrap (bits .and .u64 (t : Int) (IntKind.u64.wrap (-(t : Int))) * 285870213051353865) / 288230376151711744 = (i : Int) ∧ dbr.getD i 0 = (tzN t : Int) := by
  have : ∀ t : Fin 256, t.val ≠ 0 → ∃ i : Fin 64, IntKind.u64.wrap (bits .and .u64 (t.val : Int) (IntKind.u64.wrap (-(t.val : Int))) * 285870213051353865) / 288230376151711744 = (i.val : Int) ∧ dbr.getD i.val 0 = (tzN t.val : Int) := by decide +kernel
  obtain ⟨i, h⟩ := this ⟨t, ht⟩ h0
  exact ⟨i.val, i.isLt, h⟩
theorem tz_le (t : Nat) (ht : t < 256) : tzN t ≤ 8 ∧ lenN t ≤ 8 := by
  have : ∀ t : Fin 256, tzN t.val ≤ 8 ∧ lenN t.val ≤ 8 := by decide +kernel
  exact this ⟨t, ht⟩

set_option maxRecDepth 100000 in
set_option maxHeartbeats 1000000 in
theorem c_tz64 {B : Nat} {W : World} (u : Later B W) (t : Nat) (ht : t < 256) (h0 : t ≠ 0) (hD : Dbr B W) :
    Calls Tryd.prog 41 #[.int .u64 t] u.val (Ret B W (.int .i64 (tzN t))) := by
  obtain ⟨i, hi, E, hv⟩ := tz_at t ht h0
  have c0 := hD.cell u hi
  have hz := (tz_le t ht).1
  rw [hv] at c0
  clear hv hD
  generalize tzN t = z at *
  have d1 : ((t : Int) == 0) = false := by rw [beq_eq_false_iff_ne]; omega
  go_enter Tryd.func41, Tryd.ntmps41
  go_wp2
  go_ret
  exact Ret.mk _ (vint (by first | rfl | exact IntWalk.i64_in _ (by omega)))

set_option maxHeartbeats 400000 in
theorem c_tz {B : Nat} {W : World} (u : Later B W) (t : Nat) (ht : t < 256) (h0 : t ≠ 0) (hD : Dbr B W) :
    Calls Tryd.prog 29 #[.int .u64 t] u.val (Ret B W (.int .i64 (tzN t))) := by
  have H := Lib.hid (c_tz64 u t ht h0 hD)
  clear hD h0
  go_enter Tryd.func29, Tryd.ntmps29
  go_wp2_with (first | (go_at_call 41; (with_reducible refine (H.out).mono ?_); rintro e _ ⟨rfl, v1, rfl⟩))
  go_ret
  exact Ret.mk _ rfl

/-- the stretch's test -/
theorem gap_test (t : Nat) (ht : t < 256) (h0 : t ≠ 0) : ((lenN t : Int) - (tzN t : Int) == (sz t : Int)) = gapless t := by
  have : ∀ t : Fin 256, t.val ≠ 0 → ((lenN t.val : Int) - (tzN t.val : Int) == (sz t.val : Int)) = gapless t.val := by decide +kernel
  exact this ⟨t, ht⟩ h0
theorem nand_all_sub (n s : Nat) (hn : n ≤ 8) (hs : s < bit n) : nand (bit n - 1) s = bit n - 1 - s := by
  have : ∀ n : Fin 9, ∀ s : Fin 256, s.val < bit n.val → nand (bit n.val - 1) s.val = bit n.val - 1 - s.val := by decide +kernel
  have hb := bit_le n hn
  exact this ⟨n, by omega⟩ ⟨s, by omega⟩ hs

set_option maxRecDepth 100000 in
set_option maxHeartbeats 20000000 in
theorem c_convexLine {B : Nat} {W : World} (u : Later B W) (n : Nat) (hn : n ≤ 8) (hD : Dbr B W) :
    Calls Tryd.prog 13 #[.int .i64 n] u.val (RetP B W (fun v w => ∃ ad cp, v = .tuple #[.slice ad (ints (those n (lineB n))).length cp, .int .i64 0] ∧ IntsAt w.heap.size w ad (ints (those n (lineB n))))) := by
  have hb := bit_le n hn
  have bc := bit_cast n
  have HD := Lib.hid hD
  clear hD
  have w1 : IntKind.i64.wrap (bit n : Int) = (bit n : Int) := IntWalk.i64_in _ (by omega)
  have w2 : IntKind.i64.wrap ((bit n : Int) - 1) = ((bit n - 1 : Nat) : Int) := by rw [IntWalk.i64_in _ (by omega)]; omega
  have d1 : decide ((n : Int) < 0) = false := decide_eq_false (by omega)
  have d2 : decide (8 < (n : Int)) = false := decide_eq_false (by omega)
  have d3 : decide (8 < n) = false := decide_eq_false (by omega)
  have HTh : Hid (those n (lineB n) = thoseTo (lineB n) (bit n)) := Lib.hid rfl
  have HStep := Lib.hid (thoseTo_step (lineB n))
  have HLen := Lib.hid (thoseTo_len (lineB n))
  have HTz : Hid (thoseTo (lineB n) 0 = []) := Lib.hid rfl
  have HNand : Hid (∀ s, s < bit n → nand (bit n - 1) s = bit n - 1 - s) := Lib.hid (fun s hs => nand_all_sub n s hn hs)
  have HGap : Hid (∀ s, lineB n s = gapless (bit n - 1 - s)) := Lib.hid (fun s => rfl)
  generalize lineB n = lb at *
  go_enter Tryd.func13, Tryd.ntmps13
  go_wp2
  go_loopw [4, 15] (fun o i wr => ∃ (s : Nat) (ad : Option Addr) (cp : Nat) (v : Later B W), s ≤ bit n ∧ i = .int .i64 s ∧ o = .slice ad (ints (thoseTo lb s)).length cp ∧ wr = v.val ∧ Hid (Own B v.val ad cp (ints (thoseTo lb s)))) (fun _ i _ => bit n - (intOf i).toNat)
  case atStart => exact ⟨0, none, 0, u, by omega, rfl, by rw [HTz.out]; rfl, rfl, by rw [HTz.out]; exact Own.nil _ _⟩
  case round =>
    clear u
    obtain ⟨s, ad, cp, v, hs, rfl, rfl, rfl, HO⟩ := hrel
    by_cases hlt : s < bit n
    · have ia := i64_andNot (bit n - 1) s (by omega) (by omega)
      rw [HNand.out s hlt] at ia
      have HE := Lib.hid (HStep.out s)
      have HG := Lib.hid (HGap.out s)
      have HL : Hid ((ints (thoseTo lb s)).length ≤ 256) := Lib.hid (by rw [ints_len]; have := HLen.out s; omega)
      have ht : bit n - 1 - s < 256 := by omega
      have K1 : Hid (bit n - 1 - s ≠ 0 → ∀ w : Later v.val.heap.size v.val, Calls Tryd.prog 28 #[.int .u64 ((bit n - 1 - s : Nat) : Int)] w.val (Ret v.val.heap.size v.val (.int .i64 (lenN (bit n - 1 - s))))) := Lib.hid (fun _ w => c_len w _ ht)
      have K2 : Hid (bit n - 1 - s ≠ 0 → ∀ w : Later v.val.heap.size v.val, Calls Tryd.prog 29 #[.int .u64 ((bit n - 1 - s : Nat) : Int)] w.val (Ret v.val.heap.size v.val (.int .i64 (tzN (bit n - 1 - s))))) := Lib.hid (fun h w => c_tz w _ ht h ⟨Nat.lt_of_lt_of_le HD.out.1 v.size, fun i hi => HD.out.cell v hi⟩)
      have K3 : Hid (bit n - 1 - s ≠ 0 → ∀ w : Later v.val.heap.size v.val, Calls Tryd.prog 30 #[.int .u64 ((bit n - 1 - s : Nat) : Int)] w.val (Ret v.val.heap.size v.val (.int .i64 (sz (bit n - 1 - s))))) := Lib.hid (fun _ w => c_ones w _ ht)
      have hzl := tz_le _ ht
      have HGT := Lib.hid (gap_test _ ht)
      have hg0 : Hid (bit n - 1 - s = 0 → gapless (bit n - 1 - s) = true) := Lib.hid (fun h => by rw [h]; decide)
      generalize hl : thoseTo lb s = L at *
      generalize bit n - 1 - s = t at *
      clear hl
      by_cases h0 : t = 0
      · have d4 : ((t : Int) == 0) = true := by rw [beq_iff_eq]; omega
        have G1 : Hid (lb s = true) := Lib.hid (by rw [HG.out]; exact hg0.out h0)
        clear K1 K2 K3 h0
        go_wp2_with (first | (at_builtin; refine wpList_push (B := B) (W := W) (w := v.val) v.below v.size rfl _ _ rfl (ints L) ad cp (s : Int) rfl HO.out rfl (by have := HL.out; omega) ?_; intro u2 ad2 cp2 hown))
        go_roundw
        case rel =>
          refine ⟨s+1, ad2, cp2, u2, by omega, by go_num, ?_, rfl, ?_⟩
          · rw [HE.out, if_pos G1.out, ints_snoc]; simp
          · rw [HE.out, if_pos G1.out, ints_snoc]; exact hown
        case measure => simp [intOf]; omega
      · have d4 : ((t : Int) == 0) = false := by rw [beq_eq_false_iff_ne]; omega
        have HVV : Hid (∀ w : Later v.val.heap.size v.val, ∃ w' : Later B W, w'.val = w.val) := Lib.hid (fun w => ⟨v.up w, rfl⟩)
        have k1 := Lib.hid (K1.out h0 (Later.self v.val))
        dsimp only [Later.self] at k1
        have k2 := Lib.hid (K2.out h0)
        have k3 := Lib.hid (K3.out h0)
        have w3 : IntKind.i64.wrap ((lenN t : Int) - (tzN t : Int)) = (lenN t : Int) - (tzN t : Int) := IntWalk.i64_in _ (by omega)
        have e1 := HGT.out h0
        have hne : t ≠ 0 := h0
        clear K1 K2 K3 hg0 h0
        rcases btf (lb s) with g1 | g1
        · have G1 := Lib.hid g1
          rw [← HG.out, g1] at e1
          clear g1
          go_wp2_with (first | (go_at_call 28; ((with_reducible refine (k1.out).mono ?_); rintro e _ ⟨rfl, v1, rfl⟩)) | (go_at_call 29; ((with_reducible refine (k2.out _).mono ?_); rintro e _ ⟨rfl, v2, rfl⟩)) | (go_at_call 30; ((with_reducible refine (k3.out _).mono ?_); rintro e _ ⟨rfl, v3, rfl⟩)) | (at_builtin; refine wpList_push (B := B) (W := W) (w := v3.val) (v.up v3).below (v.up v3).size rfl _ _ rfl (ints L) ad cp (s : Int) rfl (HO.out.keep v3.below) rfl (by have := HL.out; omega) ?_; intro u2 ad2 cp2 hown))
          go_roundw
          case rel =>
            refine ⟨s+1, ad2, cp2, u2, by omega, by go_num, ?_, rfl, ?_⟩
            · rw [HE.out, if_pos G1.out, ints_snoc]; simp
            · rw [HE.out, if_pos G1.out, ints_snoc]; exact hown
          case measure => simp [intOf]; omega
        · have G1 := Lib.hid g1
          rw [← HG.out, g1] at e1
          clear g1
          go_wp2_with (first | (go_at_call 28; ((with_reducible refine (k1.out).mono ?_); rintro e _ ⟨rfl, v1, rfl⟩)) | (go_at_call 29; ((with_reducible refine (k2.out _).mono ?_); rintro e _ ⟨rfl, v2, rfl⟩)) | (go_at_call 30; ((with_reducible refine (k3.out _).mono ?_); rintro e _ ⟨rfl, v3, rfl⟩)))
          go_roundw
          case rel =>
            have hne : ¬ lb s = true := by rw [G1.out]; decide
            refine ⟨s+1, ad, cp, v.up v3, by omega, by go_num, ?_, rfl, ?_⟩
            · rw [HE.out, if_neg hne]
            · rw [HE.out, if_neg hne]; exact HO.out.keep v3.below
          case measure => simp [intOf]; omega
    · have hse : s = bit n := by omega
      have Hse := Lib.hid hse
      rw [← hse] at hb w1 bc ⊢
      clear hse
      go_wp2
      go_ret2
      refine RetP.of ⟨v, rfl⟩ ⟨ad, cp, by rw [HTh.out, ← Hse.out]; rfl, ?_⟩
      rw [HTh.out, ← Hse.out]
      exact HO.out.reads

end Go.Proofs.YtdhkobeagfmcnaaDoor
