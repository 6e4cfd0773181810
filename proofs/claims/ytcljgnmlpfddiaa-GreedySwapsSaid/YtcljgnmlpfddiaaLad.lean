/-
  Ladders from a basis to another one, plainly; the first of the sets of a kind.
-/
import Derived.Test.YtcljgnmlpfddiaaSwTell2
namespace Go.Proofs.Ytcljgnmlpfddiaa
open Go.RowKit
set_option linter.unusedVariables false

theorem those_first {m : Nat} {p : Nat → Bool} {y : Nat} (hy : y < bit m) (hp : p y = true) (hno : ∀ z, z < y → p z = false) : (those m p)[0]? = some y := by
  rw [← List.head?_eq_getElem?]
  unfold those
  rw [List.head?_filter, List.find?_range_eq_some]
  exact ⟨hp, by simpa using hy, fun j hj => by simp [hno j hj]⟩
theorem those_none {m : Nat} {p : Nat → Bool} (hno : ∀ z, z < bit m → p z = false) : those m p = [] := by
  unfold those
  rw [List.filter_eq_nil_iff]
  intro a ha
  rw [hno a (by simpa using ha)]; decide

/-- one step of the ladder: element o goes, element d comes -/
structure LadStep (L : List Nat) (Bb A o d : Nat) : Prop where
  lowo : low (nand A Bb) = bit o
  o8 : o < 8
  d8 : d < 8
  Ao : A.testBit o = true
  Bo : Bb.testBit o = false
  Bd : Bb.testBit d = true
  Ad : A.testBit d = false
  first : ∀ e, e < d → Bb.testBit e = true → A.testBit e = false → ¬ (nand A (bit o) ||| bit e) ∈ L
  hit : (nand A (bit o) ||| bit d) ∈ L
def LadIs (L : List Nat) (Bb : Nat) : Nat → List Nat → Prop
  | _, [] => False
  | A, x :: l => x = A ∧ ((A = Bb ∧ l = []) ∨ (A ≠ Bb ∧ ∃ o d, LadStep L Bb A o d ∧ LadIs L Bb (nand A (bit o) ||| bit d) l))
theorem LadStep.lt {L : List Nat} {Bb A o d : Nat} (h : LadStep L Bb A o d) (hA : A < 256) : nand (nand A (bit o) ||| bit d) Bb < nand A Bb := by
  have hn : nand A Bb < 256 := nand_lt _ _ 8 hA
  have h0 : nand A Bb ≠ 0 := fun e => by
    have := congrArg (fun x => x.testBit o) e
    simp only [nand_testBit, Nat.zero_testBit, h.Ao, h.Bo] at this
    cases this
  obtain ⟨e, he, h1, h2, h3, h4, h5⟩ := low_facts _ hn h0
  have heo : e = o := by
    have : bit e = bit o := by rw [← h1, h.lowo]
    have h6 := congrArg (fun x => x.testBit o) this
    simp only [testBit_bit] at h6
    simpa using h6
  subst heo
  have : nand (nand A (bit e) ||| bit d) Bb = drop1 (nand A Bb) := by
    refine eq_of_bits (nand_lt _ _ 8 (or_lt _ _ (nand_lt _ _ 8 hA) (bit_lt256 d h.d8))) (Nat.lt_trans h5 hn) (fun i hi => ?_)
    rw [h3 i hi, nand_testBit, nand_testBit, Nat.testBit_or, nand_testBit, testBit_bit, testBit_bit]
    by_cases c1 : d = i
    · subst c1; rw [h.Bd]; simp
    · by_cases c2 : e = i
      · subst c2; simp [c1]
      · have c3 : i ≠ e := fun h => c2 h.symm
        simp [c1, c2, c3]
  rw [this]; exact h5
theorem LadIs.ex {L : List Nat} {r : Nat} (hF : Fam8 L r) (hE : Exch L) {Bb : Nat} (hB : Bb ∈ L) : ∀ k A, A ∈ L → nand A Bb = k → ∃ l, LadIs L Bb A l := by
  intro k
  induction k using Nat.strongRecOn with
  | _ k ih =>
    intro A hA hk
    by_cases hab : A = Bb
    · exact ⟨[A], rfl, .inl ⟨hab, rfl⟩⟩
    · have hA8 := hF.lt A hA
      have hB8 := hF.lt Bb hB
      have hn : nand A Bb < 256 := nand_lt _ _ 8 hA8
      have h0 : nand A Bb ≠ 0 := fun e => hab (by
        have h1 := nand_zero_sub.1 e
        have h2 := sz_diff Bb A
        have h3 : A &&& Bb = A := by
          refine eq_of_bits (Nat.and_lt_two_pow (n := 8) _ hB8) hA8 (fun i hi => ?_)
          rw [Nat.testBit_and]
          cases c : A.testBit i
          · rfl
          · rw [h1 i c]; rfl
        rw [Nat.and_comm, h3, hF.eq A hA, hF.eq Bb hB] at h2
        have h4 : sz (nand Bb A) = 0 := by omega
        have hn2 : nand Bb A < 256 := nand_lt _ _ 8 hB8
        have h5 : nand Bb A = 0 := by
          apply Classical.byContradiction
          intro c
          obtain ⟨i, hi, hb⟩ := exists_bit hn2 c
          have : sz (bit i) ≤ sz (nand Bb A) := sz_mono (fun j hj => by
            rw [testBit_bit, decide_eq_true_eq] at hj
            subst hj; exact hb)
          rw [sz_bit hi] at this
          omega
        have h6 := nand_zero_sub.1 h5
        refine eq_of_bits hA8 hB8 (fun i hi => ?_)
        rw [Bool.eq_iff_iff]
        exact ⟨h1 i, h6 i⟩)
      obtain ⟨o, ho, h1, h2, h3, h4, h5⟩ := low_facts _ hn h0
      rw [nand_testBit] at h2
      simp only [Bool.and_eq_true, Bool.not_eq_true'] at h2
      obtain ⟨y, y1, y2, y3⟩ := hE A hA Bb hB o h2.1 h2.2
      -- the least such element
      have hmin : ∀ n y, y ≤ n → Bb.testBit y = true → A.testBit y = false → (nand A (bit o) ||| bit y) ∈ L → ∃ d, Bb.testBit d = true ∧ A.testBit d = false ∧ (nand A (bit o) ||| bit d) ∈ L ∧ ∀ e, e < d → Bb.testBit e = true → A.testBit e = false → ¬ (nand A (bit o) ||| bit e) ∈ L := by
        intro n
        induction n with
        | zero =>
          intro y hy a b c
          exact ⟨y, a, b, c, fun e he => by omega⟩
        | succ n ih2 =>
          intro y hy a b c
          by_cases g : ∃ e, e < y ∧ Bb.testBit e = true ∧ A.testBit e = false ∧ (nand A (bit o) ||| bit e) ∈ L
          · obtain ⟨e, g1, g2, g3, g4⟩ := g
            exact ih2 e (by omega) g2 g3 g4
          · exact ⟨y, a, b, c, fun e he p q r => g ⟨e, he, p, q, r⟩⟩
      obtain ⟨d, d1, d2, d3, d4⟩ := hmin y y (Nat.le_refl _) y1 y2 y3
      have hst : LadStep L Bb A o d := ⟨h1, ho, lt_of_testBit hB8 d1, h2.1, h2.2, d1, d2, d4, d3⟩
      have hlt := hst.lt hA8
      rw [hk] at hlt
      obtain ⟨l, hl⟩ := ih _ hlt _ d3 rfl
      exact ⟨A :: l, rfl, .inr ⟨hab, o, d, hst, hl⟩⟩

end Go.Proofs.Ytcljgnmlpfddiaa
