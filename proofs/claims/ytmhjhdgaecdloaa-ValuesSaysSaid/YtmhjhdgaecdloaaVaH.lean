
/-
  values.Best, plainly and walked.
-/
import Derived.Test.YtmhjhdgaecdloaaVaG
import Derived.Test.YtmhjhdgaecdloaaThread
namespace Go.Proofs.Ytmhjhdgaecdloaa
open Go.RowKit
set_option linter.unusedVariables false

/-- the first of the greatest -/
structure IsTop (f : Nat → Int) (q i : Nat) (x : Int) : Prop where
  lt : i < q
  eq : f i = x
  all : ∀ j, j < q → f j ≤ x
  first : ∀ j, j < i → f j < x
theorem IsTop.ex (f : Nat → Int) : ∀ q, 0 < q → ∃ i x, IsTop f q i x
  | 0, h => by omega
  | 1, _ => ⟨0, f 0, by omega, rfl, fun j hj => by rw [show j = 0 by omega]; exact Int.le_refl _, fun j hj => by omega⟩
  | q + 2, _ => by
    obtain ⟨i, x, h⟩ := IsTop.ex f (q + 1) (by omega)
    by_cases c : f (q + 1) ≤ x
    · refine ⟨i, x, by have := h.lt; omega, h.eq, fun j hj => ?_, h.first⟩
      by_cases e : j = q + 1
      · rw [e]; exact c
      · exact h.all j (by omega)
    · refine ⟨q + 1, f (q + 1), by omega, rfl, fun j hj => ?_, fun j hj => ?_⟩
      · by_cases e : j = q + 1
        · rw [e]; exact Int.le_refl _
        · have := h.all j (by omega); omega
      · have := h.all j (by omega); omega
/-- better: worth more, or as much and of a less number -/
def bett (F : Nat → Int) (A C : Nat) : Prop := F C < F A ∨ (F A = F C ∧ A < C)
instance (F A C) : Decidable (bett F A C) := by unfold bett; infer_instance
def cntB (F : Nat → Int) (L : List Nat) (C : Nat) : Nat := (L.filter (fun A => decide (bett F A C))).length
theorem cntB_less {F : Nat → Int} {A C : Nat} (h : bett F A C) : ∀ {L : List Nat}, A ∈ L → cntB F L A < cntB F L C
  | [], hm => by cases hm
  | B :: L, hm => by
    have hle : ∀ L : List Nat, cntB F L A ≤ cntB F L C := by
      intro L
      induction L with
      | nil => exact Nat.le_refl _
      | cons B L ih =>
        unfold cntB at *
        rw [List.filter_cons, List.filter_cons]
        by_cases h1 : bett F B A
        · have h2 : bett F B C := by unfold bett at *; omega
          rw [decide_eq_true h1, decide_eq_true h2]
          simp only [if_pos, List.length_cons]
          omega
        · rw [decide_eq_false h1]
          by_cases h3 : bett F B C
          · rw [decide_eq_true h3]
            simp only [Bool.false_eq_true, if_false, if_true, List.length_cons]
            omega
          · rw [decide_eq_false h3]
            simp only [Bool.false_eq_true, if_false]
            exact ih
    rcases List.mem_cons.1 hm with rfl | hm
    · have h1 : ¬ bett F A A := by unfold bett; omega
      have := hle L
      unfold cntB at *
      rw [List.filter_cons, List.filter_cons, decide_eq_true h, decide_eq_false h1]
      simp only [Bool.false_eq_true, if_false, if_true, List.length_cons]
      omega
    · have ih := cntB_less h hm
      unfold cntB at *
      rw [List.filter_cons, List.filter_cons]
      by_cases h1 : bett F B A
      · have h2 : bett F B C := by unfold bett at *; omega
        rw [decide_eq_true h1, decide_eq_true h2]
        simp only [if_true, List.length_cons]
        omega
      · rw [decide_eq_false h1]
        simp only [Bool.false_eq_true, if_false]
        split
        · simp only [List.length_cons]; omega
        · exact ih
/-- as good as its neighbours: as good as all -/
theorem VlOk.top {n : Int} {vl : List (Int × Int)} (h : VlOk n vl) (hV : ExV (vlL vl) (valN vl)) (w : Nat → Int) (m : Nat) {C : Nat} (hC : C ∈ vlL vl) (hloc : ∀ j, j < vl.length → sz (nand ((vlL vl).getD j 0) C) = 1 → ¬ bett (wrth (valN vl) w m) ((vlL vl).getD j 0) C) : ∀ j, j < vl.length → wrth (valN vl) w m ((vlL vl).getD j 0) ≤ wrth (valN vl) w m C := by
  have hF : Fam8 (vlL vl) (sz ((vlL vl).getD 0 0)) := h.ok.fam8
  intro j hj
  refine local_global hF hV hC (fun D hD h1 => ?_) _ _ (by simp [h.len, hj]) rfl
  obtain ⟨k, hk, e⟩ := List.getElem_of_mem hD
  have e2 : (vlL vl).getD k 0 = D := by simp [hk, e]
  have := hloc k (by rw [← h.len]; exact hk) (by rw [e2]; exact h1)
  rw [e2] at this
  unfold bett at this
  omega

end Go.Proofs.Ytmhjhdgaecdloaa
