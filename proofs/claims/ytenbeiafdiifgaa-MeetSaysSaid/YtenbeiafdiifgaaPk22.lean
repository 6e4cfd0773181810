
/-
  rotaref.Flats, rotaref.Hyperplanes.
  Sums of whole numbers, plainly: exchange of two sums, one term picked, terms that come in pairs.
-/
import Derived.Deep.CutRange
import Derived.Deep.CutBlock
import Derived.Deep.RegionHeld3
import Derived.Test.YtenbeiafdiifgaaPk21
import Derived.Test.YtenbeiafdiifgaaPk16
import Derived.Test.YtenbeiafdiifgaaPk03
import Derived.Test.YtenbeiafdiifgaaPk04
namespace Go.Proofs.Ytenbeiafdiifgaa
open Go.RowKit
set_option linter.unusedVariables false

end Go.Proofs.Ytenbeiafdiifgaa

namespace Go.Proofs.Ytenbeiafdiifgaa
set_option linter.unusedVariables false

def isum (f : Nat → Int) : Nat → Int
  | 0 => 0
  | k + 1 => isum f k + f k
theorem isum_congr {f g : Nat → Int} {n : Nat} (h : ∀ i, i < n → f i = g i) : isum f n = isum g n := by
  induction n with
  | zero => rfl
  | succ n ih => simp only [isum]; rw [ih (fun i hi => h i (by omega)), h n (by omega)]
theorem isum_zero {f : Nat → Int} {n : Nat} (h : ∀ i, i < n → f i = 0) : isum f n = 0 := by
  induction n with
  | zero => rfl
  | succ n ih => simp only [isum]; rw [ih (fun i hi => h i (by omega)), h n (by omega)]; rfl
theorem isum_add (f g : Nat → Int) (n : Nat) : isum (fun i => f i + g i) n = isum f n + isum g n := by
  induction n with
  | zero => rfl
  | succ n ih => simp only [isum]; rw [ih]; omega
theorem isum_neg (f : Nat → Int) (n : Nat) : isum (fun i => - f i) n = - isum f n := by
  induction n with
  | zero => rfl
  | succ n ih => simp only [isum]; rw [ih]; omega
theorem isum_swap (f : Nat → Nat → Int) (n k : Nat) : isum (fun i => isum (fun j => f i j) k) n = isum (fun j => isum (fun i => f i j) n) k := by
  induction n with
  | zero =>
    simp only [isum]
    exact (isum_zero (fun _ _ => rfl)).symm
  | succ n ih =>
    simp only [isum]
    rw [isum_add, ih]
theorem isum_tail {f : Nat → Int} {n k : Nat} (h : ∀ j, n ≤ j → j < k → f j = 0) (hk : n ≤ k) : isum f k = isum f n := by
  induction k with
  | zero => have : n = 0 := by omega
            subst this; rfl
  | succ k ih =>
    by_cases e : n = k + 1
    · subst e; rfl
    · simp only [isum]
      rw [ih (fun j h1 h2 => h j h1 (by omega)) (by omega), h k (by omega) (by omega)]
      omega
theorem isum_pick {g : Nat → Int} {n x : Nat} (hx : x < n) : isum (fun i => if i = x then g i else 0) n = g x := by
  rw [isum_tail (n := x + 1) (fun j h1 _ => if_neg (by omega)) hx]
  show isum (fun i => if i = x then g i else 0) x + (if x = x then g x else 0) = g x
  rw [isum_zero (fun i hi => if_neg (by omega)), if_pos rfl]
  omega
theorem isum_le {f : Nat → Int} {b : Nat} {n : Nat} (h : ∀ i, i < n → -(b : Int) ≤ f i ∧ f i ≤ b) : -((n * b : Nat) : Int) ≤ isum f n ∧ isum f n ≤ ((n * b : Nat) : Int) := by
  induction n with
  | zero => simp [isum]
  | succ n ih =>
    have h1 := ih (fun i hi => h i (by omega))
    have h2 := h n (by omega)
    simp only [isum]
    rw [Nat.succ_mul]
    omega
/-- terms that come in pairs, each the other's negative -/
theorem isum_invol {h : Nat → Int} {σ : Nat → Nat} {n : Nat} (hσ : ∀ s, s < n → σ s < n ∧ σ (σ s) = s) (hh : ∀ s, s < n → h (σ s) = - h s) : isum h n = 0 := by
  have e1 : isum h n = isum (fun s => isum (fun t => if t = σ s then h s else 0) n) n := isum_congr (fun s hs => (isum_pick (g := fun _ => h s) (hσ s hs).1).symm)
  have e2 := isum_swap (fun s t => if t = σ s then h s else 0) n n
  have e3 : isum (fun t => isum (fun s => if t = σ s then h s else 0) n) n = isum (fun t => - h t) n := isum_congr (fun t ht => by
    have e4 : isum (fun s => if t = σ s then h s else 0) n = isum (fun s => if s = σ t then h s else 0) n := isum_congr (fun s hs => by
      by_cases c : t = σ s
      · have : s = σ t := by rw [c, (hσ s hs).2]
        rw [if_pos c, if_pos this]
      · have : ¬ s = σ t := fun e => c (by rw [e, (hσ t ht).2])
        rw [if_neg c, if_neg this])
    rw [e4, isum_pick (hσ t ht).1, hh t ht])
  rw [e2, e3, isum_neg] at e1
  omega
/-- over all sets of a kind, one behind the other -/
theorem those_sum (m : Nat) (p : Nat → Bool) (g : Nat → Int) : isum (fun j => g ((those m p).getD j 0)) (those m p).length = isum (fun x => if p x = true then g x else 0) (bit m) := by
  have key : ∀ k, isum (fun j => g ((thoseTo p k).getD j 0)) (thoseTo p k).length = isum (fun x => if p x = true then g x else 0) k := by
    intro k
    induction k with
    | zero => rfl
    | succ k ih =>
      rw [thoseTo_step]
      by_cases c : p k = true
      · rw [if_pos c]
        simp only [isum, List.length_append, List.length_cons, List.length_nil, Nat.zero_add]
        rw [if_pos c, ← ih]
        congr 1
        · exact isum_congr (fun i hi => by simp [List.getElem?_append_left hi])
        · simp
      · rw [if_neg c]
        simp only [isum]
        rw [if_neg c, ih]
        omega
  exact key (bit m)

/-! ### signs of sets -/
def sgn (s : Nat) : Int := if sz s % 2 = 1 then -1 else 1
def flip (e s : Nat) : Nat := if s.testBit e = true then nand s (bit e) else s ||| bit e
theorem flip_testBit (e s i : Nat) : (flip e s).testBit i = if i = e then !s.testBit e else s.testBit i := by
  unfold flip
  by_cases h : s.testBit e = true
  · rw [if_pos h, nand_testBit_bit]
    by_cases c : i = e
    · subst c; simp [h]
    · simp [c, Ne.symm c]
  · rw [if_neg h, or_bit_testBit]
    by_cases c : i = e
    · subst c; simp at h; simp [h]
    · simp [c, Ne.symm c]
theorem flip_flip (e s : Nat) : flip e (flip e s) = s := by
  apply Nat.eq_of_testBit_eq
  intro i
  rw [flip_testBit, flip_testBit]
  by_cases c : i = e
  · subst c; simp
  · simp [c, flip_testBit]
theorem flip_lt {m e s : Nat} (he : e < m) (hs : s < bit m) : flip e s < bit m := by
  unfold flip
  split
  · exact nand_lt _ _ m hs
  · exact or_lt_bit hs (bit_lt_bit he)
theorem sgn_flip {e s : Nat} (he : e < 8) : sgn (flip e s) = - sgn s := by
  unfold sgn flip
  by_cases h : s.testBit e = true
  · rw [if_pos h]
    have := sz_less he h
    by_cases c : sz s % 2 = 1
    · rw [if_pos c, if_neg (by omega)]; rfl
    · rw [if_neg c, if_pos (by omega)]
  · rw [if_neg h]
    have := sz_add he (by simpa using h)
    by_cases c : sz s % 2 = 1
    · rw [if_pos c, if_neg (by omega)]; rfl
    · rw [if_neg c, if_pos (by omega)]
theorem sgn_one (s : Nat) : sgn s = 1 ∨ sgn s = -1 := by
  unfold sgn
  split
  · exact .inr rfl
  · exact .inl rfl

end Go.Proofs.Ytenbeiafdiifgaa
