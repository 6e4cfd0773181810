/-
  convex.Orders: the error; or in how many orders all can be taken: counted from nothing up, set by set.
-/
import Derived.Test.YtcljgnmlpfddiaaConv5
namespace Go.Proofs.Ytcljgnmlpfddiaa
open Go.RowKit
set_option linter.unusedVariables false

/-- what the sets one element below s are worth together -/
def belowTo (l : List Int) (A : Nat → Nat) (s : Nat) : Nat → Nat := sumTo (fun i => if s.testBit i = true ∧ ((s - bit i : Nat) : Int) ∈ l then A (s - bit i) else 0)
/-- the same, over those elements that t no longer has -/
def partTo (l : List Int) (A : Nat → Nat) (s t : Nat) : Nat := sumTo (fun i => if (s.testBit i = true ∧ t.testBit i = false) ∧ ((s - bit i : Nat) : Int) ∈ l then A (s - bit i) else 0) 8
theorem partTo_start (l : List Int) (A : Nat → Nat) (s : Nat) : partTo l A s s = 0 :=
  sumTo_none (fun i _ => by rw [if_neg]; rintro ⟨⟨h1, h2⟩, _⟩; rw [h1] at h2; cases h2)
theorem partTo_end (l : List Int) (A : Nat → Nat) (s : Nat) : partTo l A s 0 = belowTo l A s 8 :=
  sumTo_congr (fun i _ => by simp)
theorem sumTo_split {f g : Nat → Nat} {n e : Nat} (he : e < n) (h : ∀ i, i < n → i ≠ e → f i = g i) (h0 : g e = 0) : sumTo f n = sumTo g n + f e := by
  induction n with
  | zero => omega
  | succ n ih =>
    simp only [sumTo]
    by_cases c : e = n
    · subst c
      rw [sumTo_congr (g := g) (fun i hi => h i (by omega) (by omega)), h0]; omega
    · rw [ih (by omega) (fun i hi hne => h i (by omega) hne), h n (by omega) (fun x => c x.symm)]; omega
theorem partTo_step {l : List Int} {A : Nat → Nat} {s t : Nat} (hs : s < 256) (ht : t < 256) (h0 : t ≠ 0) (hsub : subBits t s) : partTo l A s (drop1 t) = partTo l A s t + (if ((nand s (low t) : Nat) : Int) ∈ l then A (nand s (low t)) else 0) := by
  obtain ⟨e, he, h1, h2, h3, _⟩ := low_facts t ht h0
  have hse := hsub e he h2
  have hn := nand_bit s e hs he hse
  unfold partTo
  rw [sumTo_split (g := fun i => if (s.testBit i = true ∧ t.testBit i = false) ∧ ((s - bit i : Nat) : Int) ∈ l then A (s - bit i) else 0) he]
  · rw [h1, hn]
    simp [h3 e he, hse]
  · intro i hi hie
    simp only [h3 i hi, hie, ne_eq, not_false_eq_true, decide_true, Bool.and_true]
  · rw [if_neg]; rintro ⟨⟨_, h⟩, _⟩; rw [h2] at h; cases h
theorem belowTo_m {l : List Int} {A : Nat → Nat} {s m : Nat} (hm : m ≤ 8) (hs : s < bit m) : belowTo l A s 8 = belowTo l A s m := by
  have hb := bit_le m hm
  have hlt := (lt_pow_iff m s hm (by omega)).1 hs
  have : ∀ k, m + k ≤ 8 → belowTo l A s (m + k) = belowTo l A s m := by
    intro k
    induction k with
    | zero => intro _; rfl
    | succ k ih =>
      intro hk
      rw [← Nat.add_assoc]
      show belowTo l A s (m + k) + (if _ then _ else 0) = _
      rw [ih (by omega), if_neg, Nat.add_zero]
      rintro ⟨h, _⟩
      have := hlt (m + k) (by omega) h
      omega
  have := this (8 - m) (by omega)
  rw [show m + (8 - m) = 8 by omega] at this
  exact this

/-- the table of ways behind the first k sets -/
def waysTo (l : List Int) : Nat → Nat → Nat
  | 0 => fun j => if j = 0 then 1 else 0
  | k + 1 => fun j => if j = (l.getD k 0).toNat then waysTo l k j + belowTo l (waysTo l k) j 8 else waysTo l k j
theorem waysTo_succ {l : List Int} {k s : Nat} (hk : l.getD k 0 = s) : waysTo l (k + 1) = fun j => if j = s then waysTo l k j + belowTo l (waysTo l k) j 8 else waysTo l k j := by
  show (fun j => if j = (l.getD k 0).toNat then _ else _) = _
  rw [hk]; rfl

/-- how many elements: what m has in all less what is not in s -/
def cnt (m s : Nat) : Nat := m - rem m s
theorem cnt_step {m s i : Nat} (hm : m ≤ 8) (hs : s < bit m) (hi : s.testBit i = true) (hi8 : i < 8) : cnt m s = cnt m (s - bit i) + 1 ∧ s - bit i < bit m := by
  have hb := bit_le m hm
  have : ∀ m : Fin 9, ∀ s : Fin 256, ∀ i : Fin 8, s.val < bit m.val → s.val.testBit i.val = true → cnt m.val s.val = cnt m.val (s.val - bit i.val) + 1 ∧ s.val - bit i.val < bit m.val := by decide +kernel
  exact this ⟨m, by omega⟩ ⟨s, by omega⟩ ⟨i, hi8⟩ hs hi
theorem cnt_zero {m s : Nat} (hm : m ≤ 8) (hs : s < bit m) : cnt m s = 0 ↔ s = 0 := by
  have hb := bit_le m hm
  have : ∀ m : Fin 9, ∀ s : Fin 256, s.val < bit m.val → (cnt m.val s.val = 0 ↔ s.val = 0) := by decide +kernel
  exact this ⟨m, by omega⟩ ⟨s, by omega⟩ hs
theorem cnt_all {m : Nat} (hm : m ≤ 8) : cnt m (bit m - 1) = m := by
  have : ∀ m : Fin 9, cnt m.val (bit m.val - 1) = m.val := by decide +kernel
  exact this ⟨m, by omega⟩

/-- what the table holds: of the sets gone through, the ways from nothing up to each -/
theorem waysTo_is {n : Int} {m : Nat} {l : List Int} (hnm : n = m) (hf : isFam n l) (h0l : (0 : Int) ∈ l) (k : Nat) (hk : k ≤ l.length) : ∀ j, j < bit m → waysTo l k j = if j = 0 then 1 else if (∃ i, i < k ∧ l.getD i 0 = (j : Int)) then dnF l m (bit m) (cnt m j) 0 j else 0 := by
  have hm : m ≤ 8 := by have := hf.2.1; omega
  have hb := bit_le m hm
  have hall : all n = ((bit m - 1 : Nat) : Int) := by rw [hnm, all_nat]
  induction k with
  | zero =>
    intro j _
    show (if j = 0 then 1 else 0) = _
    by_cases e : j = 0
    · rw [if_pos e, if_pos e]
    · rw [if_neg e, if_neg e, if_neg (by rintro ⟨i, hi, _⟩; omega)]
  | succ k ih =>
    have ih := ih (by omega)
    obtain ⟨s, hs, h256, hsa, hsm⟩ := fam_nat hf (i := k) (by omega)
    have hsb : s < bit m := by rw [hall] at hsa; omega
    intro j hj
    rw [waysTo_succ hs]
    by_cases ej : j = s
    · subst ej
      show (if j = j then _ else _) = _
      rw [if_pos rfl, ih j hj]
      have hnot : ¬ ∃ i, i < k ∧ l.getD i 0 = (j : Int) := by
        rintro ⟨i, hi, e⟩
        have := hf.2.2.rising i k hi (by omega)
        omega
      by_cases e0 : j = 0
      · subst e0
        rw [if_pos rfl, if_pos rfl]
        have : belowTo l (waysTo l k) 0 8 = 0 := sumTo_none (fun i _ => by rw [if_neg]; rintro ⟨h, _⟩; simp at h)
        omega
      · rw [if_neg e0, if_neg e0, if_neg hnot, if_pos ⟨k, by omega, hs⟩, Nat.zero_add, belowTo_m hm hj]
        have hc : cnt m j ≠ 0 := fun h => e0 ((cnt_zero hm hj).1 h)
        rw [show cnt m j = (cnt m j - 1) + 1 by omega, dn_step hm hj hsm]
        refine sumTo_congr (fun i hi => ?_)
        by_cases h : j.testBit i = true ∧ ((j - bit i : Nat) : Int) ∈ l
        · rw [if_pos h, if_pos h]
          have hst := cnt_step hm hj h.1 (by omega)
          have hle := bit_le_of_mem j i (by omega) (by omega) h.1
          have hbi := bit_lt i (by omega)
          rw [ih _ hst.2, show cnt m j - 1 = cnt m (j - bit i) by omega]
          by_cases ez : j - bit i = 0
          · rw [if_pos ez, ez, (cnt_zero hm (by omega)).2 rfl]; rfl
          · rw [if_neg ez, if_pos]
            obtain ⟨p, hp, e⟩ := mem_idx h.2
            refine ⟨p, ?_, e⟩
            by_cases c : p < k
            · exact c
            · exfalso
              by_cases c2 : p = k
              · subst c2; rw [hs] at e; omega
              · have := hf.2.2.rising k p (by omega) hp
                rw [hs, e] at this; omega
        · rw [if_neg h, if_neg h]
    · show (if j = s then _ else _) = _
      rw [if_neg ej, ih j hj]
      by_cases e0 : j = 0
      · rw [if_pos e0, if_pos e0]
      · rw [if_neg e0, if_neg e0]
        by_cases c : ∃ i, i < k ∧ l.getD i 0 = (j : Int)
        · obtain ⟨i, hi, e⟩ := c
          rw [if_pos ⟨i, hi, e⟩, if_pos ⟨i, by omega, e⟩]
        · rw [if_neg c, if_neg]
          rintro ⟨i, hi, e⟩
          by_cases c2 : i = k
          · subst c2; rw [hs] at e; omega
          · exact c ⟨i, by omega, e⟩
/-- the last entry is what Takings counts -/
theorem ways_all {n : Int} {m : Nat} {l : List Int} (hnm : n = m) (hf : isFam n l) (hg : Good n l) : waysTo l l.length (bit m - 1) = (tak l m m 0).1 := by
  have hm : m ≤ 8 := by have := hf.2.1; omega
  have hb := bit_le m hm
  have hall : all n = ((bit m - 1 : Nat) : Int) := by rw [hnm, all_nat]
  rw [tak_up hm m 0 (by omega) (rem_none m) hg.1, waysTo_is hnm hf hg.1 l.length (Nat.le_refl _) _ (by omega), up_eq_dn _ _ _ _ _ _ (by omega) (by omega)]
  by_cases e : bit m - 1 = 0
  · rw [if_pos e]
    have : m = 0 := by
      have : ∀ m : Fin 9, bit m.val - 1 = 0 → m.val = 0 := by decide +kernel
      exact this ⟨m, by omega⟩ e
    subst this
    rfl
  · rw [if_neg e, if_pos (by
      obtain ⟨i, hi, e2⟩ := mem_idx hg.2.1
      exact ⟨i, hi, by rw [e2, hall]⟩), cnt_all hm]

end Go.Proofs.Ytcljgnmlpfddiaa
