
/-
  Hull and Extreme: convex.hull, convex.Hull, convex.Extreme, rotaref.Hull, rotaref.Ends, convex.right: of a family of sets of n elements and a set of n elements.
-/
import Derived.Test.YtenbeiafdiifgaaPk38
namespace Go.Proofs.Ytenbeiafdiifgaa
open Go.RowKit
set_option linter.unusedVariables false

/-- what the sets of a list have together that have nothing of s: the first k -/
def orTo (l : List Int) (s : Nat) : Nat → Nat
  | 0 => 0
  | k + 1 => if (l.getD k 0).toNat &&& s = 0 then orTo l s k ||| (l.getD k 0).toNat else orTo l s k
theorem orTo_lt {n : Int} {l : List Int} (h : isFam n l) (s k : Nat) (hk : k ≤ l.length) : orTo l s k < 256 := by
  induction k with
  | zero => show 0 < 256; decide
  | succ k ih =>
    obtain ⟨t, ht, h256, _⟩ := fam_nat h (i := k) (by omega)
    unfold orTo
    split
    · exact or_lt _ _ (ih (by omega)) (by rw [ht]; exact h256)
    · exact ih (by omega)
theorem orTo_step {l : List Int} {s k t : Nat} (ht : l.getD k 0 = t) : orTo l s (k + 1) = if t &&& s = 0 then orTo l s k ||| t else orTo l s k := by
  show (if (l.getD k 0).toNat &&& s = 0 then orTo l s k ||| (l.getD k 0).toNat else orTo l s k) = _
  rw [ht]; rfl
def hullOf (n : Nat) (l : List Int) (s : Nat) : Nat := nand (bit n - 1) (orTo l s l.length)
theorem hullOf_lt (n : Nat) (l : List Int) (s : Nat) (hn : n ≤ 8) : hullOf n l s < 256 := by
  have := bit_le n hn
  exact nand_lt _ _ 8 (by show bit n - 1 < 256; omega)

theorem within_all {m t s : Nat} (hm : m ≤ 8) (hs : s < bit m) (ht : t < bit m) : (s ||| (bit m - 1 - t) = bit m - 1 - t) ↔ t &&& s = 0 := by
  have hb := bit_le m hm
  have : ∀ m : Fin 9, ∀ t : Fin 256, t.val < bit m.val → bit m.val - 1 - t.val = nand (bit m.val - 1) t.val := by decide +kernel
  rw [this ⟨m, by omega⟩ ⟨t, by omega⟩ ht, or_eq_iff, and_eq_zero_iff]
  have hlt := (lt_pow_iff m s hm (by omega)).1 hs
  constructor
  · intro h i hi
    cases hsi : s.testBit i
    · rfl
    · have := h i hsi
      rw [nand_testBit, hi] at this
      simp at this
  · intro h i hi
    rw [nand_testBit, testBit_all]
    have h8 := lt_of_testBit (show s < 256 by omega) hi
    have h1 := hlt i h8 hi
    cases hti : t.testBit i
    · simp [h1]
    · rw [h i hti] at hi; cases hi
theorem all_sub {m t : Nat} (hm : m ≤ 8) (ht : t < bit m) : bit m - 1 - t = nand (bit m - 1) t := by
  have hb := bit_le m hm
  have : ∀ m : Fin 9, ∀ t : Fin 256, t.val < bit m.val → bit m.val - 1 - t.val = nand (bit m.val - 1) t.val := by decide +kernel
  exact this ⟨m, by omega⟩ ⟨t, by omega⟩ ht
theorem nand_or (a b c : Nat) : nand a (b ||| c) = nand a b &&& nand a c := by
  apply Nat.eq_of_testBit_eq
  intro i
  rw [nand_testBit, Nat.testBit_or, Nat.testBit_and, nand_testBit, nand_testBit]
  cases a.testBit i <;> cases b.testBit i <;> cases c.testBit i <;> rfl

end Go.Proofs.Ytenbeiafdiifgaa
