
/-
  rotaref.Shifted.
-/
import Derived.Test.YtjenaglgloaejaaPk13
namespace Go.Proofs.Ytjenaglgloaejaa
open Go.RowKit
set_option linter.unusedVariables false

set_option maxRecDepth 100000 in
set_option maxHeartbeats 4000000 in
theorem c_refShifted {B : Nat} {W : World} (u : Later B W) (m gone s : Nat) (hm : m ≤ 8) (hg : gone < 256) (hs : s < 256) :
    Calls Try.prog 32 #[.int .i64 m, .int .i64 gone, .int .i64 s] u.val (Ret B W (.int .i64 (prTo gone s m))) := by
  go_enter Try.func32, Try.ntmps32
  go_wp2
  go_loopw [7, 8, 9] (fun o i c wr => ∃ (k : Nat) (v : Later B W), k ≤ m ∧ o = .int .i64 (prTo gone s k) ∧ i = .int .i64 k ∧ c = .int .i64 (cnt gone k) ∧ wr = v.val) (fun _ i _ _ => m - (intOf i).toNat)
  case atStart => exact ⟨0, u, by omega, rfl, rfl, rfl, rfl⟩
  case round =>
    obtain ⟨k, v, hk, rfl, rfl, rfl, rfl⟩ := hrel
    by_cases hlt : k < m
    · have hc := cnt_le gone k
      have KI := Lib.hid (fun v : Later B W => c_in v gone k (by omega) (by omega))
      have KJ := Lib.hid (fun v : Later B W => c_in v s k (by omega) (by omega))
      have hS : prTo gone s (k + 1) = if gone.testBit k = false ∧ s.testBit k = true then prTo gone s k ||| bit (cnt gone k) else prTo gone s k := rfl
      have hz := prTo_lt gone s k
      have hbk := bit_lt (cnt gone k) (by omega)
      have bc := bit_cast (cnt gone k)
      have w1 := IntWalk.i64_in (bit (cnt gone k) : Int) (by omega)
      have o1 := i64_or (prTo gone s k) (bit (cnt gone k)) (by omega) (by omega)
      rcases btf (gone.testBit k) with g1 | g1
      · rw [g1] at KI
        have H1 : Hid (prTo gone s (k + 1) = prTo gone s k) := Lib.hid (by rw [hS, if_neg (by rw [g1]; simp)])
        have H2 := Lib.hid (cnt_yes g1)
        clear hS g1 o1 bc w1
        generalize prTo gone s k = z at *
        generalize cnt gone k = c at *
        go_wp2_with (first | (go_at_call 63; ((with_reducible refine (KI.out _).mono ?_); rintro e _ ⟨rfl, v, rfl⟩)))
        go_roundw
        case rel => exact ⟨k+1, v, by omega, by rw [H1.out], by go_num, by rw [H2.out], rfl⟩
        case measure => simp [intOf]; omega
      · rw [g1] at KI
        have H2 := Lib.hid (cnt_no g1)
        rcases btf (s.testBit k) with g2 | g2
        · rw [g2] at KJ
          have H1 : Hid (prTo gone s (k + 1) = prTo gone s k ||| bit (cnt gone k)) := Lib.hid (by rw [hS, if_pos ⟨g1, g2⟩])
          clear hS g1 g2
          generalize prTo gone s k = z at *
          generalize cnt gone k = c at *
          go_wp2_with (first | (refine (KI.out v).mono ?_; rintro e _ ⟨rfl, v1, rfl⟩) | (refine (KJ.out v1).mono ?_; rintro e _ ⟨rfl, v2, rfl⟩))
          go_roundw
          case rel => exact ⟨k+1, v2, by omega, by rw [H1.out], by go_num, by rw [H2.out]; go_num, rfl⟩
          case measure => simp [intOf]; omega
        · rw [g2] at KJ
          have H1 : Hid (prTo gone s (k + 1) = prTo gone s k) := Lib.hid (by rw [hS, if_neg (by rw [g2]; simp)])
          clear hS g1 g2 o1 bc w1
          generalize prTo gone s k = z at *
          generalize cnt gone k = c at *
          go_wp2_with (first | (refine (KI.out v).mono ?_; rintro e _ ⟨rfl, v1, rfl⟩) | (refine (KJ.out v1).mono ?_; rintro e _ ⟨rfl, v2, rfl⟩))
          go_roundw
          case rel => exact ⟨k+1, v2, by omega, by rw [H1.out], by go_num, by rw [H2.out]; go_num, rfl⟩
          case measure => simp [intOf]; omega
    · have hke : k = m := by omega
      subst hke
      go_wp2
      go_ret
      exact Ret.mk v rfl
end Go.Proofs.Ytjenaglgloaejaa
