
/-
  Bases with numbers, plainly: which is as good as its neighbours is as good as all.
-/
import Derived.Test.YtmhjhdgaecdloaaGrPl2
import Derived.Test.YtmhjhdgaecdloaaAxi2
namespace Go.Proofs.Ytmhjhdgaecdloaa
set_option linter.unusedVariables false

theorem sub_of_nand {a b : Nat} (h : nand a b = 0) : sub a b := fun i hi => by
  have := congrArg (fun x => x.testBit i) h
  simp only [nand_testBit, hi, Nat.zero_testBit, Bool.true_and, Bool.not_eq_false'] at this
  exact this
/-- the exchange of bases with numbers -/
def exV (L : List Nat) (N : Nat → Int) (A B x : Nat) : Prop := ∃ y, B.testBit y = true ∧ A.testBit y = false ∧ (nand A (bit x) ||| bit y) ∈ L ∧ (nand B (bit y) ||| bit x) ∈ L ∧ N A + N B ≤ N (nand A (bit x) ||| bit y) + N (nand B (bit y) ||| bit x)
def exVP (L : List Nat) (N : Nat → Int) (A B : Nat) : Prop := ∀ x, A.testBit x = true → B.testBit x = false → exV L N A B x
def ExV (L : List Nat) (N : Nat → Int) : Prop := ∀ A, A ∈ L → ∀ B, B ∈ L → exVP L N A B
theorem ws_swap (w : Nat → Int) {A B x y : Nat} (hxA : A.testBit x = true) (hxB : B.testBit x = false) (hyB : B.testBit y = true) (hyA : A.testBit y = false) : ∀ k, wsT w (nand A (bit x) ||| bit y) k + wsT w (nand B (bit y) ||| bit x) k = wsT w A k + wsT w B k
  | 0 => rfl
  | k + 1 => by
    have ih := ws_swap w hxA hxB hyB hyA k
    have e : ((((nand A (bit x) ||| bit y).testBit k).toNat : Nat) : Int) + ((((nand B (bit y) ||| bit x).testBit k).toNat : Nat) : Int) = (((A.testBit k).toNat : Nat) : Int) + (((B.testBit k).toNat : Nat) : Int) := by
      rw [or_bit_testBit, or_bit_testBit, nand_testBit, nand_testBit, testBit_bit, testBit_bit]
      by_cases h1 : x = k
      · subst h1
        have h2 : ¬ y = x := fun c => by rw [c] at hyB; rw [hyB] at hxB; cases hxB
        simp [hxA, hxB, h2]
      · by_cases h2 : y = k
        · subst h2
          simp [hyA, hyB, h1]
        · simp [h1, h2]
    show wsT w (nand A (bit x) ||| bit y) k + w k * _ + (wsT w (nand B (bit y) ||| bit x) k + w k * _) = wsT w A k + w k * _ + (wsT w B k + w k * _)
    have e2 : w k * ((((nand A (bit x) ||| bit y).testBit k).toNat : Nat) : Int) + w k * ((((nand B (bit y) ||| bit x).testBit k).toNat : Nat) : Int) = w k * (((A.testBit k).toNat : Nat) : Int) + w k * (((B.testBit k).toNat : Nat) : Int) := by
      rw [← Int.mul_add, ← Int.mul_add, e]
    omega
/-- what a basis is worth -/
def wrth (N w : Nat → Int) (m s : Nat) : Int := N s + wsT w s m
theorem local_global {L : List Nat} {N w : Nat → Int} {m r : Nat} (hF : Fam8 L r) (hV : ExV L N) {A : Nat} (hA : A ∈ L) (hloc : ∀ C, C ∈ L → sz (nand C A) = 1 → wrth N w m C ≤ wrth N w m A) : ∀ d B, B ∈ L → sz (nand B A) = d → wrth N w m B ≤ wrth N w m A := by
  intro d
  induction d with
  | zero =>
    intro B hB hd
    have hs : sub B A := sub_of_nand (Classical.byContradiction fun c => by
      have hlt : nand B A < 256 := nand_lt _ _ 8 (hF.lt B hB)
      obtain ⟨i, hi, hb⟩ := exists_bit hlt c
      have := sz_less hi hb
      omega)
    have : B = A := eq_of_sub_sz (hF.lt B hB) (hF.lt A hA) hs (by rw [hF.eq A hA, hF.eq B hB]; exact Nat.le_refl _)
    rw [this]
    exact Int.le_refl _
  | succ d ih =>
    intro B hB hd
    have hd2 : sz (nand A B) = d + 1 := by
      have h1 := sz_diff A B
      have h2 := sz_diff B A
      rw [hF.eq A hA] at h1
      rw [hF.eq B hB, Nat.and_comm] at h2
      omega
    have hne : nand A B ≠ 0 := fun c => by rw [c] at hd2; rw [sz_zero] at hd2; omega
    obtain ⟨x, hx8, hx⟩ := exists_bit (show nand A B < 256 from nand_lt _ _ 8 (hF.lt A hA)) hne
    rw [nand_testBit, Bool.and_eq_true, Bool.not_eq_true'] at hx
    obtain ⟨y, hyB, hyA, hC, hD, hle⟩ := hV A hA B hB x hx.1 hx.2
    have hy8 : y < 8 := lt_of_testBit (hF.lt B hB) hyB
    have e1 : nand (nand A (bit x) ||| bit y) A = bit y := by
      apply Nat.eq_of_testBit_eq
      intro k
      rw [nand_testBit, or_bit_testBit, nand_testBit, testBit_bit, testBit_bit]
      by_cases h : y = k
      · subst h; simp [hyA]
      · simp only [h, decide_false, Bool.or_false]
        cases A.testBit k <;> simp
    have h1 := hloc _ hC (by rw [e1]; exact sz_bit hy8)
    have e2 : nand (nand B (bit y) ||| bit x) A = nand (nand B A) (bit y) := by
      apply Nat.eq_of_testBit_eq
      intro k
      rw [nand_testBit, or_bit_testBit, nand_testBit, nand_testBit, nand_testBit, testBit_bit]
      by_cases h : x = k
      · subst h; simp [hx.1]
      · simp only [h, decide_false, Bool.or_false]
        cases A.testBit k <;> cases B.testBit k <;> simp
    have h3 : (nand B A).testBit y = true := by rw [nand_testBit, hyB, hyA]; rfl
    have h2 := ih _ hD (by rw [e2]; have := sz_less hy8 h3; omega)
    have h4 := ws_swap w hx.1 hx.2 hyB hyA m
    unfold wrth at *
    omega

end Go.Proofs.Ytmhjhdgaecdloaa
