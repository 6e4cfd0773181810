
/-
  rotaref.Elements, Size; math/bits.OnesCount; the small functions size of the packages: of sets below 256.
-/
import Derived.Test.YtffnpokceomncaaMem
namespace Go.Proofs.Ytffnpokceomncaa
open Go.RowKit
set_option linter.unusedVariables false

/-- the elements of a set, rising -/
def elems (s : Nat) : List Nat := (List.range 8).filter (fun i => s.testBit i)
def elemsTo (s k : Nat) : List Nat := (List.range k).filter (fun i => s.testBit i)
theorem elemsTo_step (s k : Nat) : elemsTo s (k + 1) = if s.testBit k = true then elemsTo s k ++ [k] else elemsTo s k := by
  unfold elemsTo
  rw [List.range_succ, List.filter_append]
  by_cases h : s.testBit k = true
  · simp [h]
  · simp [h]
theorem elemsTo_len (s k : Nat) : (elemsTo s k).length ≤ k := by
  have := List.length_filter_le (fun i => s.testBit i) (List.range k)
  simpa [elemsTo] using this
def ints (l : List Nat) : List Int := l.map (fun (x : Nat) => (x : Int))
theorem ints_len (l : List Nat) : (ints l).length = l.length := by simp [ints]
theorem ints_snoc (l : List Nat) (k : Nat) : ints (l ++ [k]) = ints l ++ [(k : Int)] := by simp [ints]
def sz (s : Nat) : Nat := (elems s).length
theorem sz_le (s : Nat) : sz s ≤ 8 := elemsTo_len s 8

set_option maxHeartbeats 1000000 in
theorem c_elements {B : Nat} {W : World} (u : Later B W) (s : Nat) (hs : s < 256) :
    Calls Try.prog 45 #[.int .i64 s] u.val (RetInts B W (ints (elems s))) := by
  go_enter Try.func45, Try.ntmps45
  go_wp2
  go_loopw [3, 4] (fun o i wr => ∃ (k : Nat) (ad : Option Addr) (cp : Nat) (u : Later B W), k ≤ 8 ∧ i = .int .i64 k ∧ o = .slice ad (ints (elemsTo s k)).length cp ∧ wr = u.val ∧ Hid (Own B u.val ad cp (ints (elemsTo s k)))) (fun _ i _ => 8 - (intOf i).toNat)
  case atStart => exact ⟨0, none, 0, u, by omega, rfl, rfl, rfl, Own.nil _ _⟩
  case round =>
    obtain ⟨k, ad, cp, u, hk, rfl, rfl, rfl, HO⟩ := hrel
    by_cases hlt : k < 8
    · have HIn := Lib.hid (c_in (Later.self u.val) s k (by omega) (by omega))
      have HE := Lib.hid (elemsTo_step s k)
      have HL : Hid ((ints (elemsTo s k)).length ≤ 8) := Lib.hid (by rw [ints_len]; have := elemsTo_len s k; omega)
      generalize elemsTo s k = L at *
      rcases btf (s.testBit k) with g1 | g1
      · rw [g1] at HIn
        have G1 := Lib.hid g1; clear g1
        go_wp2_with (first | (go_at_call 38; refine HIn.out.mono ?_; rintro e _ ⟨rfl, v1, rfl⟩) | (at_builtin; refine wpList_push (B := B) (W := W) (w := v1.val) (u.up v1).below (u.up v1).size rfl _ _ rfl (ints L) ad cp (k : Int) rfl (HO.out.keep v1.below) rfl (by have := HL.out; omega) ?_; intro u2 ad2 cp2 hown))
        go_roundw
        case rel =>
          refine ⟨k+1, ad2, cp2, u2, by omega, by go_num, ?_, rfl, ?_⟩
          · rw [HE.out, if_pos G1.out, ints_snoc]; simp
          · rw [HE.out, if_pos G1.out, ints_snoc]; exact hown
        case measure => simp [intOf]; omega
      · rw [g1] at HIn
        have G1 := Lib.hid g1; clear g1
        go_wp2_with (first | (go_at_call 38; refine HIn.out.mono ?_; rintro e _ ⟨rfl, v1, rfl⟩))
        go_roundw
        case rel =>
          have hne : ¬ s.testBit k = true := by rw [G1.out]; decide
          refine ⟨k+1, ad, cp, u.up v1, by omega, by go_num, ?_, rfl, ?_⟩
          · rw [HE.out, if_neg hne]
          · rw [HE.out, if_neg hne]; exact HO.out.keep v1.below
        case measure => simp [intOf]; omega
    · have hke : k = 8 := by omega
      subst hke
      go_wp2
      go_ret
      exact RetP.mk u (Reads.of_own HO.out)

set_option maxHeartbeats 400000 in
theorem c_size {B : Nat} {W : World} (u : Later B W) (s : Nat) (hs : s < 256) :
    Calls Try.prog 25 #[.int .i64 s] u.val (Ret B W (.int .i64 (sz s))) := by
  have H := Lib.hid (c_elements u s hs)
  go_enter Try.func25, Try.ntmps25
  go_wp2_with (first | (go_at_call 45; refine H.out.mono ?_; rintro e _ ⟨_, rfl, ⟨ad, cp, rfl, _, _⟩, v1, rfl⟩))
  go_ret
  exact Ret.mk _ (vint (by simp only [ints_len]; rfl))

set_option maxHeartbeats 1000000 in
theorem c_ones64 {B : Nat} {W : World} (u : Later B W) (s : Nat) (hs : s < 256) :
    Calls Try.prog 64 #[.int .u64 s] u.val (Ret B W (.int .i64 (sz s))) := by
  go_enter Try.func64, Try.ntmps64
  go_wp2
  go_ret
  refine Ret.mk _ (vint ?_)
  obtain ⟨x, rfl⟩ : ∃ x : Fin 256, s = x.val := ⟨⟨s, hs⟩, rfl⟩
  clear hs
  revert x
  decide +kernel

set_option maxHeartbeats 400000 in
theorem c_ones {B : Nat} {W : World} (u : Later B W) (s : Nat) (hs : s < 256) :
    Calls Try.prog 60 #[.int .u64 s] u.val (Ret B W (.int .i64 (sz s))) := by
  have H := Lib.hid (c_ones64 u s hs)
  go_enter Try.func60, Try.ntmps60
  go_wp2_with (first | (go_at_call 64; refine H.out.mono ?_; rintro e _ ⟨rfl, v1, rfl⟩))
  go_ret
  exact Ret.mk _ rfl



set_option maxHeartbeats 400000 in
theorem c_size_kinds {B : Nat} {W : World} (u : Later B W) (s : Nat) (hs : s < 256) :
    Calls Try.prog 55 #[.int .i64 s] u.val (Ret B W (.int .i64 (sz s))) := by
  have H := Lib.hid (c_ones u s hs)
  go_enter Try.func55, Try.ntmps55
  go_wp2_with (first | (go_at_call 60; refine H.out.mono ?_; rintro e _ ⟨rfl, v1, rfl⟩))
  go_ret
  exact Ret.mk _ rfl












end Go.Proofs.Ytffnpokceomncaa
