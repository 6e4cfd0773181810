
/-
  Shannon's game, plainly: what edges reach, who wins from where. No program in sight.
  rotaref.Slower and sub.Check, the walks.
-/
import Derived.Test.YtnhpefcjgaimeaaPk03
import Derived.Test.YtnhpefcjgaimeaaPk07
namespace Go.Proofs.Ytnhpefcjgaimeaa
set_option linter.unusedVariables false

/-- the vertices reached behind k edges of one turn -/
def reachE (es : List (Int × Int)) (x s : Nat) : Nat → Nat
  | 0 => s
  | k + 1 => if x.testBit k = true ∧ ((reachE es x s k).testBit (es.getD k (0,0)).1.toNat = true ∨ (reachE es x s k).testBit (es.getD k (0,0)).2.toNat = true) then reachE es x s k ||| (bit (es.getD k (0,0)).1.toNat ||| bit (es.getD k (0,0)).2.toNat) else reachE es x s k
def reachT (es : List (Int × Int)) (x s : Nat) : Nat → Nat
  | 0 => bit s
  | k + 1 => reachE es x (reachT es x s k) es.length
def led (n : Nat) (es : List (Int × Int)) (s t x : Nat) : Bool := (reachT es x s n).testBit t

theorem reachE_lt {n : Int} {es : List (Int × Int)} (hn : n ≤ 7) (he : ∀ i, i < es.length → 0 ≤ (es.getD i (0,0)).1 ∧ 0 ≤ (es.getD i (0,0)).2 ∧ (es.getD i (0,0)).1 < n ∧ (es.getD i (0,0)).2 < n) {x s : Nat} (hs : s < 256) {k : Nat} (hk : k ≤ es.length) : reachE es x s k < 256 := by
  induction k with
  | zero => exact hs
  | succ k ih =>
    have h1 := ih (by omega)
    have h2 := he k (by omega)
    unfold reachE
    split
    · exact or_lt _ _ h1 (or_lt _ _ (bit_lt256 _ (by omega)) (bit_lt256 _ (by omega)))
    · exact h1
theorem reachT_lt {n : Int} {es : List (Int × Int)} (hn : n ≤ 7) (he : ∀ i, i < es.length → 0 ≤ (es.getD i (0,0)).1 ∧ 0 ≤ (es.getD i (0,0)).2 ∧ (es.getD i (0,0)).1 < n ∧ (es.getD i (0,0)).2 < n) {x s : Nat} (hs : s < 8) (k : Nat) : reachT es x s k < 256 := by
  induction k with
  | zero => exact bit_lt256 s hs
  | succ k ih => exact reachE_lt hn he ih (Nat.le_refl _)

/-- does the joiner win? (fuel, joined, cut, the joiner moves) -/
def winF (H : Nat → Bool) (m : Nat) : Nat → Nat → Nat → Bool → Bool
  | 0, _, _, _ => false
  | f + 1, j, c, who => if H j = true then true else if H (nand (bit m - 1) c) = true then
      (if who = true then (List.range m).any (fun i => !(j ||| c).testBit i && winF H m f (j ||| bit i) c false) else (List.range m).all (fun i => (j ||| c).testBit i || winF H m f j (c ||| bit i) true)) else false
/-- the edges that are left -/
def left (m j c : Nat) : Nat := nand (bit m - 1) (j ||| c)
def win (H : Nat → Bool) (m j c : Nat) (who : Bool) : Bool := winF H m (sz (left m j c) + 1) j c who

theorem sz_without (x e : Nat) (hx : x < 256) (he : e < 8) (h : x.testBit e = true) : sz (nand x (bit e)) + 1 = sz x := by
  have : ∀ x : Fin 256, ∀ e : Fin 8, x.val.testBit e.val = true → sz (nand x.val (bit e.val)) + 1 = sz x.val := by decide +kernel
  exact this ⟨x, hx⟩ ⟨e, he⟩ h
theorem left_testBit (m j c i : Nat) : (left m j c).testBit i = (decide (i < m) && !(j ||| c).testBit i) := by
  unfold left; rw [nand_testBit, testBit_all]
theorem left_lt {m : Nat} (hm : m ≤ 8) (j c : Nat) : left m j c < 256 := by
  have := bit_le m hm
  exact nand_lt _ _ 8 (by show bit m - 1 < 256; omega)
theorem left_join (m j c i : Nat) : left m (j ||| bit i) c = nand (left m j c) (bit i) := by
  apply Nat.eq_of_testBit_eq
  intro k
  rw [left_testBit, nand_testBit, left_testBit]
  simp only [Nat.testBit_or]
  cases decide (k < m) <;> cases j.testBit k <;> cases c.testBit k <;> cases (bit i).testBit k <;> rfl
theorem left_cut (m j c i : Nat) : left m j (c ||| bit i) = nand (left m j c) (bit i) := by
  apply Nat.eq_of_testBit_eq
  intro k
  rw [left_testBit, nand_testBit, left_testBit]
  simp only [Nat.testBit_or]
  cases decide (k < m) <;> cases j.testBit k <;> cases c.testBit k <;> cases (bit i).testBit k <;> rfl
theorem win_eq (H : Nat → Bool) {m : Nat} (hm : m ≤ 8) (j c : Nat) (who : Bool) : win H m j c who = if H j = true then true else if H (nand (bit m - 1) c) = true then
      (if who = true then (List.range m).any (fun i => !(j ||| c).testBit i && win H m (j ||| bit i) c false) else (List.range m).all (fun i => (j ||| c).testBit i || win H m j (c ||| bit i) true)) else false := by
  have key : ∀ i, i < m → (j ||| c).testBit i = false → sz (nand (left m j c) (bit i)) + 1 = sz (left m j c) := fun i hi h => by
    refine sz_without _ i (left_lt hm j c) (by omega) ?_
    rw [left_testBit, h]; simp [hi]
  have e1 : (List.range m).any (fun i => !(j ||| c).testBit i && winF H m (sz (left m j c)) (j ||| bit i) c false) = (List.range m).any (fun i => !(j ||| c).testBit i && win H m (j ||| bit i) c false) := by
    rw [Bool.eq_iff_iff, List.any_eq_true, List.any_eq_true]
    constructor <;> rintro ⟨i, hi, h⟩ <;> refine ⟨i, hi, ?_⟩
    all_goals
      rw [Bool.and_eq_true] at h ⊢
      refine ⟨h.1, ?_⟩
      have hk := key i (by simpa using hi) (by simpa using h.1)
      have h2 := h.2
      unfold win at *
      rw [left_join, hk] at *
      exact h2
  have e2 : (List.range m).all (fun i => (j ||| c).testBit i || winF H m (sz (left m j c)) j (c ||| bit i) true) = (List.range m).all (fun i => (j ||| c).testBit i || win H m j (c ||| bit i) true) := by
    rw [Bool.eq_iff_iff, List.all_eq_true, List.all_eq_true]
    constructor <;> intro h i hi
    all_goals
      have h1 := h i hi
      rw [Bool.or_eq_true] at h1 ⊢
      by_cases hb : (j ||| c).testBit i = true
      · exact .inl hb
      · right
        have hk := key i (by simpa using hi) (by simpa using hb)
        have h2 := h1.resolve_left hb
        unfold win at *
        rw [left_cut, hk] at *
        exact h2
  rw [← e1, ← e2]
  rfl

/-- where nothing has been decided: the moves one by one -/
def Mid (H : Nat → Bool) (m j c : Nat) : Prop := H j = false ∧ H (nand (bit m - 1) c) = true
theorem win_joined {H : Nat → Bool} {m : Nat} (hm : m ≤ 8) {j c : Nat} {who : Bool} (h : H j = true) : win H m j c who = true := by rw [win_eq H hm, if_pos h]
theorem win_cut {H : Nat → Bool} {m : Nat} (hm : m ≤ 8) {j c : Nat} {who : Bool} (h : H j = false) (h2 : H (nand (bit m - 1) c) = false) : win H m j c who = false := by rw [win_eq H hm, if_neg (by simp [h]), if_neg (by simp [h2])]
theorem win_any {H : Nat → Bool} {m : Nat} (hm : m ≤ 8) {j c : Nat} (h : Mid H m j c) : win H m j c true = true ↔ ∃ i, i < m ∧ (j ||| c).testBit i = false ∧ win H m (j ||| bit i) c false = true := by
  rw [win_eq H hm, if_neg (by simp [h.1]), if_pos h.2, if_pos rfl, List.any_eq_true]
  simp
theorem win_all {H : Nat → Bool} {m : Nat} (hm : m ≤ 8) {j c : Nat} (h : Mid H m j c) : win H m j c false = true ↔ ∀ i, i < m → (j ||| c).testBit i = false → win H m j (c ||| bit i) true = true := by
  rw [win_eq H hm, if_neg (by simp [h.1]), if_pos h.2, if_neg (by simp), List.all_eq_true]
  constructor
  · intro h i hi hb
    have := h i (by simpa using hi)
    simpa [hb] using this
  · intro h i hi
    by_cases hb : (j ||| c).testBit i = true
    · simp [hb]
    · rw [h i (by simpa using hi) (by simpa using hb)]; simp
/-- without a move nobody is left undecided -/
theorem led_all (m j c : Nat) (hm : m ≤ 8) (hj : j < bit m) (hc : c < bit m) (h0 : j &&& c = 0) (h : left m j c = 0) : nand (bit m - 1) c = j := by
  apply Nat.eq_of_testBit_eq
  intro i
  have h1 := congrArg (fun x => x.testBit i) h
  simp only [Nat.zero_testBit] at h1
  rw [left_testBit] at h1
  rw [nand_testBit, testBit_all]
  have h2 := and_eq_zero_iff.1 h0 i
  by_cases hi : i < m
  · rw [Nat.testBit_or] at h1
    simp [hi] at h1 ⊢
    cases hjb : j.testBit i
    · simp [hjb] at h1; simp [h1]
    · simp [h2 hjb]
  · have : j.testBit i = false := by
      cases hjb : j.testBit i
      · rfl
      · exact absurd (lt_m_of_testBit hj hjb) hi
    simp [hi, this]
/-- how many stores a call makes at most -/
def cost : Nat → Nat
  | 0 => 1
  | k + 1 => 1 + (k + 1) * cost k
theorem cost_le : ∀ k, k ≤ 8 → cost k ≤ 200000 := by
  have : ∀ k : Fin 9, cost k.val ≤ 200000 := by decide
  exact fun k hk => this ⟨k, by omega⟩

end Go.Proofs.Ytnhpefcjgaimeaa

namespace Go.Proofs.Ytnhpefcjgaimeaa
open Go.RowKit
set_option linter.unusedVariables false

theorem isFun.bound {n : Int} {f : List Int} (h : isFun n f) (i : Nat) : -1000 ≤ f.getD i 0 ∧ f.getD i 0 ≤ 1000 := by
  by_cases hi : i < f.length
  · exact h.2.2.2.2 i hi
  · have : f.getD i 0 = 0 := by simp [Nat.le_of_not_lt hi]
    rw [this]; omega

end Go.Proofs.Ytnhpefcjgaimeaa
