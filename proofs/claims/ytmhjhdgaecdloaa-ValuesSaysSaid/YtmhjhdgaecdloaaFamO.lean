
/-
  A family, opened: its sets as whole numbers, rising, few.
-/
import Derived.Test.YtmhjhdgaecdloaaAxi2
namespace Go.Proofs.Ytmhjhdgaecdloaa
open Go.RowKit
set_option linter.unusedVariables false

theorem fam_pw {m : Nat} {L : List Nat} (h : isFam (m : Int) (ints L)) : L.Pairwise (· < ·) := by
  have hr := h.2.2.rising
  rw [List.pairwise_iff_getElem]
  intro i j hi hj hij
  have := hr i j hij (by rw [ints_len]; exact hj)
  rw [ints_getD, ints_getD] at this
  have e1 : L.getD i 0 = L[i] := by simp [hi]
  have e2 : L.getD j 0 = L[j] := by simp [hj]
  rw [e1, e2] at this
  omega
theorem fam_le {m : Nat} {L : List Nat} (hm : m ≤ 8) (h : isFam (m : Int) (ints L)) : L.length ≤ bit m := by
  have hb := bit_le m hm
  obtain ⟨_, _, hf⟩ := h
  have key : ∀ i, i < L.length → i ≤ L.getD i 0 := by
    intro i
    induction i with
    | zero => intro _; omega
    | succ i ih =>
      intro hi
      have h1 := ih (by omega)
      have h2 := (hf (i + 1) (by rw [ints_len]; exact hi)).2.2 (by omega)
      rw [ints_getD, ints_getD, show i + 1 - 1 = i from rfl] at h2
      omega
  by_cases hz : L.length = 0
  · omega
  · have h3 := key (L.length - 1) (by omega)
    have h4 := (hf (L.length - 1) (by rw [ints_len]; omega)).2.1
    rw [ints_getD, all_nat] at h4
    omega
theorem fam_open {n : Int} {l : List Int} (h : isFam n l) : ∃ (m : Nat) (L : List Nat), n = (m : Int) ∧ m ≤ 8 ∧ l = ints L ∧ (∀ b, b ∈ L → b < bit m) ∧ L.Pairwise (· < ·) ∧ L.length ≤ 256 ∧ isFam (m : Int) (ints L) := by
  obtain ⟨m, rfl⟩ := Int.eq_ofNat_of_zero_le h.1
  have hl := fam_ints h
  have hm : m ≤ 8 := by have := h.2.1; omega
  have hb := bit_le m hm
  have h2 : isFam (m : Int) (ints (toN l)) := by rw [hl]; exact h
  have hlt := fam_lt h
  exact ⟨m, toN l, rfl, hm, hl.symm, by simpa using hlt, fam_pw h2, by have := fam_le hm h2; omega, h2⟩

end Go.Proofs.Ytmhjhdgaecdloaa
