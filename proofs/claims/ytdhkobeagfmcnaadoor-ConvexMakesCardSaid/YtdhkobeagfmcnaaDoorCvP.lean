
/-
  The sets of a kind are a family.
-/
import Derived.Test.YtdhkobeagfmcnaaDoorCvG
namespace Go.Proofs.YtdhkobeagfmcnaaDoor
set_option linter.unusedVariables false

theorem those_fam {n : Nat} (hn : n ≤ 8) (p : Nat → Bool) : isFam (n : Int) (ints (those n p)) := by
  have hb := bit_le n hn
  have hpw : (those n p).Pairwise (· < ·) := List.Pairwise.filter p List.pairwise_lt_range
  refine ⟨by omega, by omega, fun i hi => ?_⟩
  rw [ints_len] at hi
  have hm : (those n p).getD i 0 ∈ those n p := by simp [hi]
  have h1 := (mem_those.1 hm).1
  rw [ints_getD, all_nat]
  refine ⟨by omega, by omega, fun h0 => ?_⟩
  rw [ints_getD]
  have := List.pairwise_iff_getElem.1 hpw (i - 1) i (by omega) hi (by omega)
  have e1 : (those n p).getD (i - 1) 0 = (those n p)[i - 1]'(by omega) := by simp [show i - 1 < (those n p).length by omega]
  have e2 : (those n p).getD i 0 = (those n p)[i] := by simp [hi]
  rw [e1, e2]
  omega
/-- the answer to the check of the closed sets -/
theorem ord_chk {n : Nat} (hn : n ≤ 8) {es : List (Int × Int)} (hok : okPairs n es) {e : Int} (h : ChkIs (n : Int) (ints (those n (ordDown es))) e) : (e = 0 ∧ noLoop es) ↔ Grw n (ordMay es) (bit n - 1) := by
  have hf := those_fam hn (ordDown es)
  rw [← ord_iff hn hok]
  constructor
  · rintro ⟨h0, h1⟩
    refine ⟨Classical.byContradiction fun c => ?_, h1⟩
    have := h.2.1 hf c
    omega
  · rintro ⟨h0, h1⟩
    exact ⟨h.2.2 hf h0, h1⟩

end Go.Proofs.YtdhkobeagfmcnaaDoor
