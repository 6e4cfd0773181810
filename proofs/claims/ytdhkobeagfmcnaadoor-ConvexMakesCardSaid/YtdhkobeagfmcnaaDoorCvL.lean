
/-
  The line, plainly: what grows from its ends = what leaves a stretch without a gap.
-/
import Derived.Test.YtdhkobeagfmcnaaDoorCvC
namespace Go.Proofs.YtdhkobeagfmcnaaDoor
set_option linter.unusedVariables false

def gapless (t : Nat) : Bool := (elems t).length == 0 || (elems t).getD ((elems t).length - 1) 0 + 1 - (elems t).getD 0 0 == (elems t).length
def lineB (n s : Nat) : Bool := gapless (bit n - 1 - s)
theorem line_step : ∀ n : Fin 9, ∀ s : Fin 256, ∀ i : Fin 8, s.val < bit n.val → i.val < n.val → s.val.testBit i.val = false → lineB n.val s.val = true → lineMay n.val s.val i.val = true → lineB n.val (s.val ||| bit i.val) = true := by decide +kernel
theorem line_back : ∀ n : Fin 9, ∀ s : Fin 256, s.val < bit n.val → s.val ≠ 0 → lineB n.val s.val = true → ∃ i : Fin 8, i.val < n.val ∧ s.val.testBit i.val = true ∧ lineB n.val (nand s.val (bit i.val)) = true ∧ lineMay n.val (nand s.val (bit i.val)) i.val = true := by decide +kernel
theorem line_zero : ∀ n : Fin 9, lineB n.val 0 = true := by decide +kernel
theorem line_grown {n : Nat} (hn : n ≤ 8) {s : Nat} (hs : s < bit n) : Grw n (lineMay n) s ↔ lineB n s = true := by
  have hb := bit_le n hn
  constructor
  · intro h
    clear hs
    induction h with
    | zero => exact line_zero ⟨n, by omega⟩
    | @step r i hg hi hr hm ih => exact line_step ⟨n, by omega⟩ ⟨r, by have := hg.lt; omega⟩ ⟨i, by omega⟩ hg.lt hi hr ih hm
  · intro h
    induction s using Nat.strongRecOn with
    | _ s ih =>
      by_cases h0 : s = 0
      · subst h0; exact .zero
      · obtain ⟨i, h1, h2, h3, h4⟩ := line_back ⟨n, by omega⟩ ⟨s, by omega⟩ hs h0 h
        have hlt := nand_bit_lt (show s < 256 by omega) i.isLt h2
        have hg := ih (nand s (bit i.val)) hlt (by omega) h3
        have := Grw.step hg h1 (by rw [nand_testBit_bit]; simp) h4
        rwa [nand_or_bit h2] at this
theorem line_list {n : Nat} (hn : n ≤ 8) : grown n (lineMay n) = those n (lineB n) := by
  unfold grown those
  apply List.filter_congr
  intro s hs
  have hs1 : s < bit n := List.mem_range.1 hs
  rw [Bool.eq_iff_iff, decide_eq_true_eq, gS_all hs1, line_grown hn hs1]

end Go.Proofs.YtdhkobeagfmcnaaDoor
