
/-
  Ranks and exchanges, plainly: a row of exchanges, none of them idle for a later one, keeps a set independent. No program in sight.
  What is independent in two: a search by layers, plainly: a way found makes the set greater; none found: a set bars it. No program in sight.
  The ranks of a matroid are a rank function, plainly.
-/
import Derived.Test.YtmcffbmhkbijlaaPk03
import Derived.Test.YtmcffbmhkbijlaaPk22
namespace Go.Proofs.Ytmcffbmhkbijlaa
set_option linter.unusedVariables false

/-- a rank function -/
structure RkM (n : Nat) (ρ : Nat → Nat) : Prop where
  n8 : n ≤ 8
  zero : ρ 0 = 0
  step : ∀ s i, s < bit n → i < n → ρ s ≤ ρ (s ||| bit i) ∧ ρ (s ||| bit i) ≤ ρ s + 1
  clos : ∀ s u i, s < bit n → u < bit n → i < n → sub s u → ρ (s ||| bit i) = ρ s → ρ (u ||| bit i) = ρ u

theorem lt_bitM {s n : Nat} (h : ∀ i, n ≤ i → s.testBit i = false) : s < bit n := by
  unfold bit
  exact Nat.lt_pow_two_of_testBit s (fun i hi => h i hi)
theorem bitM_lt {s n i : Nat} (h : s < bit n) (hi : n ≤ i) : s.testBit i = false := by
  unfold bit at h
  exact Nat.testBit_lt_two_pow (Nat.lt_of_lt_of_le h (Nat.pow_le_pow_right (by decide) hi))
theorem bitM_in {s n i : Nat} (h : s < bit n) (hi : s.testBit i = true) : i < n := by
  apply Classical.byContradiction
  intro hc
  rw [bitM_lt h (by omega)] at hi
  cases hi
theorem orM_lt {s t n : Nat} (h : s < bit n) (ht : t < bit n) : s ||| t < bit n := lt_bitM (fun k hk => by
  rw [Nat.testBit_or, bitM_lt h hk, bitM_lt ht hk]; rfl)
theorem orM_bit {s n i : Nat} (h : s < bit n) (hi : i < n) : s ||| bit i < bit n := lt_bitM (fun k hk => by
  rw [Nat.testBit_or, bitM_lt h hk, testBit_bit]
  simp; omega)
theorem subM_lt {s t n : Nat} (h : sub s t) (ht : t < bit n) : s < bit n := lt_bitM (fun k hk => by
  cases e : s.testBit k
  · rfl
  · have := h k e
    rw [bitM_lt ht hk] at this
    cases this)
theorem bitM_pos (n : Nat) : 0 < bit n := by unfold bit; exact Nat.two_pow_pos n
theorem orM_in {s i : Nat} (h : s.testBit i = true) : s ||| bit i = s := Nat.eq_of_testBit_eq (fun k => by
  rw [Nat.testBit_or, testBit_bit]
  by_cases e : i = k
  · subst e; rw [h]; simp
  · simp [e])
/-- a set without an element -/
def dl (s i : Nat) : Nat := nand s (bit i)
theorem dl_testBit (s i k : Nat) : (dl s i).testBit k = (s.testBit k && !decide (i = k)) := by unfold dl; rw [nand_testBit, testBit_bit]
theorem dl_sub (s i : Nat) : sub (dl s i) s := fun k hk => by rw [dl_testBit] at hk; simp at hk; exact hk.1
theorem dl_or {s i : Nat} (h : s.testBit i = true) : dl s i ||| bit i = s := Nat.eq_of_testBit_eq (fun k => by
  rw [Nat.testBit_or, dl_testBit, testBit_bit]
  by_cases e : i = k
  · subst e; rw [h]; simp
  · simp [e])
theorem dl_lt {s i n : Nat} (h : s < bit n) : dl s i < bit n := subM_lt (dl_sub s i) h
theorem dl_comm (s a b : Nat) : dl (dl s a) b = dl (dl s b) a := Nat.eq_of_testBit_eq (fun k => by
  rw [dl_testBit, dl_testBit, dl_testBit, dl_testBit]
  cases s.testBit k <;> simp [Bool.and_comm])
theorem or_comm3 (s a b : Nat) : s ||| a ||| b = s ||| b ||| a := by rw [Nat.or_assoc, Nat.or_comm a b, ← Nat.or_assoc]
/-- the first k of s -/
def upM (s k : Nat) : Nat := s &&& (bit k - 1)
theorem upM_testBit (s k i : Nat) : (upM s k).testBit i = (s.testBit i && decide (i < k)) := by
  unfold upM; rw [Nat.testBit_and, testBit_all]
theorem upM_zero (s : Nat) : upM s 0 = 0 := Nat.eq_of_testBit_eq (fun i => by rw [upM_testBit]; simp)
theorem upM_yes {s k : Nat} (h : s.testBit k = true) : upM s (k + 1) = upM s k ||| bit k := Nat.eq_of_testBit_eq (fun i => by
  rw [upM_testBit, Nat.testBit_or, upM_testBit, testBit_bit]
  by_cases e : k = i
  · subst e; simp [h]
  · cases s.testBit i
    · simp [e]
    · simp [e]; omega)
theorem upM_no {s k : Nat} (h : s.testBit k = false) : upM s (k + 1) = upM s k := Nat.eq_of_testBit_eq (fun i => by
  rw [upM_testBit, upM_testBit]
  by_cases e : k = i
  · subst e; simp [h]
  · cases s.testBit i
    · simp
    · simp; omega)
theorem upM_all {s n : Nat} (h : s < bit n) : upM s n = s := Nat.eq_of_testBit_eq (fun i => by
  rw [upM_testBit]
  by_cases e : i < n
  · simp [e]
  · rw [bitM_lt h (by omega)]; simp)
theorem upM_lt {s n k : Nat} (h : s < bit n) : upM s k < bit n := subM_lt (fun i hi => by rw [upM_testBit] at hi; simp at hi; exact hi.1) h
theorem sub_refl (s : Nat) : sub s s := fun i hi => hi
theorem sub_orM (s t : Nat) : sub s (s ||| t) := fun i hi => by rw [Nat.testBit_or, hi]; rfl
theorem sub_orM2 (s t : Nat) : sub t (s ||| t) := fun i hi => by rw [Nat.testBit_or, hi]; simp
theorem or_sub {s t : Nat} (h : sub s t) : s ||| t = t := Nat.eq_of_testBit_eq (fun i => by
  rw [Nat.testBit_or]
  cases e : s.testBit i
  · rfl
  · rw [h i e]; rfl)

namespace RkM
variable {n : Nat} {ρ : Nat → Nat}
theorem le_sz (h : RkM n ρ) {s : Nat} (hs : s < bit n) : ρ s ≤ sz s := by
  have hn := h.n8
  have key : ∀ k, k ≤ n → ρ (upM s k) ≤ sz (upM s k) := by
    intro k
    induction k with
    | zero => intro _; rw [upM_zero, h.zero]; exact Nat.zero_le _
    | succ k ih =>
      intro hk
      have ih' := ih (by omega)
      cases hb : s.testBit k
      · rw [upM_no hb]; exact ih'
      · rw [upM_yes hb]
        have h1 := (h.step (upM s k) k (upM_lt hs) (by omega)).2
        have h2 := sz_add (a := upM s k) (i := k) (by omega) (by rw [upM_testBit]; simp)
        omega
  have := key n (Nat.le_refl _)
  rwa [upM_all hs] at this
theorem mono (h : RkM n ρ) {s t : Nat} (ht : t < bit n) (hst : sub s t) : ρ s ≤ ρ t := by
  have hs := subM_lt hst ht
  have key : ∀ k, k ≤ n → ρ s ≤ ρ (s ||| upM t k) := by
    intro k
    induction k with
    | zero => intro _; rw [upM_zero, Nat.or_zero]; exact Nat.le_refl _
    | succ k ih =>
      intro hk
      have ih' := ih (by omega)
      cases hb : t.testBit k
      · rw [upM_no hb]; exact ih'
      · rw [upM_yes hb, ← Nat.or_assoc]
        have h1 := (h.step (s ||| upM t k) k (orM_lt hs (upM_lt ht)) (by omega)).1
        omega
  have := key n (Nat.le_refl _)
  rw [upM_all ht] at this
  rwa [or_sub hst] at this
/-- what joins idly joins together idly -/
theorem joins (h : RkM n ρ) {s t : Nat} (hs : s < bit n) (ht : t < bit n) (hall : ∀ i, t.testBit i = true → ρ (s ||| bit i) = ρ s) : ρ (s ||| t) = ρ s := by
  have key : ∀ k, k ≤ n → ρ (s ||| upM t k) = ρ s := by
    intro k
    induction k with
    | zero => intro _; rw [upM_zero, Nat.or_zero]
    | succ k ih =>
      intro hk
      have ih' := ih (by omega)
      cases hb : t.testBit k
      · rw [upM_no hb]; exact ih'
      · rw [upM_yes hb, ← Nat.or_assoc, h.clos s _ k hs (orM_lt hs (upM_lt ht)) (by omega) (sub_orM _ _) (hall k hb)]
        exact ih'
  have := key n (Nat.le_refl _)
  rwa [upM_all ht] at this
/-- a part of an independent set is independent -/
theorem ind_sub (h : RkM n ρ) {s t : Nat} (ht : t < bit n) (hst : sub s t) (hi : ρ t = sz t) : ρ s = sz s := by
  have hn := h.n8
  have hs := subM_lt hst ht
  -- t is s and what is left
  have key : ∀ k, k ≤ n → ρ (s ||| upM t k) + sz s ≤ ρ s + sz (s ||| upM t k) := by
    intro k
    induction k with
    | zero => intro _; rw [upM_zero, Nat.or_zero]; omega
    | succ k ih =>
      intro hk
      have ih' := ih (by omega)
      cases hb : t.testBit k
      · rw [upM_no hb]; exact ih'
      · rw [upM_yes hb, ← Nat.or_assoc]
        cases hb2 : (s ||| upM t k).testBit k
        · have h1 := (h.step (s ||| upM t k) k (orM_lt hs (upM_lt ht)) (by omega)).2
          have h2 := sz_add (a := s ||| upM t k) (i := k) (by omega) hb2
          omega
        · rw [orM_in hb2]; exact ih'
  have := key n (Nat.le_refl _)
  rw [upM_all ht, or_sub hst] at this
  have := h.le_sz hs
  omega
/-- one comes for another -/
theorem exch (h : RkM n ρ) {s a z : Nat} (hs : s < bit n) (ha : a < n) (hz : z < n) (h1 : ρ (s ||| bit a ||| bit z) = ρ (s ||| bit a)) (h2 : ρ (s ||| bit z) ≠ ρ s) : ρ (s ||| bit z ||| bit a) = ρ (s ||| bit z) := by
  have e1 := h.step s a hs ha
  have e2 := h.step s z hs hz
  have e3 := h.step (s ||| bit z) a (orM_bit hs hz) ha
  rw [or_comm3 s (bit a) (bit z)] at h1
  omega
/-- idle with one away and with another away: idle with both away -/
theorem both (h : RkM n ρ) {s a b z : Nat} (hs : s < bit n) (hi : ρ s = sz s) (hz : z < n) (ha : s.testBit a = true) (hb : s.testBit b = true) (hne : a ≠ b)
    (h1 : ρ (dl s a ||| bit z) = ρ (dl s a)) (h2 : ρ (dl s b ||| bit z) = ρ (dl s b)) : ρ (dl (dl s a) b ||| bit z) = ρ (dl (dl s a) b) := by
  have hn := h.n8
  have han := bitM_in hs ha
  have hbn := bitM_in hs hb
  apply Classical.byContradiction
  intro hc
  have hS : dl (dl s a) b < bit n := dl_lt (dl_lt hs)
  have e1 : dl (dl s a) b ||| bit b = dl s a := dl_or (by rw [dl_testBit, hb]; simp [hne])
  have h3 := h.exch hS hbn hz (by rw [e1]; exact h1) hc
  -- b joins idly where z is
  have hsub : sub (dl (dl s a) b ||| bit z) (dl s b ||| bit z) := fun i hi => by
    rw [Nat.testBit_or, dl_testBit, dl_testBit, Bool.or_eq_true, Bool.and_eq_true, Bool.and_eq_true] at hi
    rw [Nat.testBit_or, dl_testBit, Bool.or_eq_true, Bool.and_eq_true]
    rcases hi with ⟨⟨h1, _⟩, h2⟩ | hi
    · exact .inl ⟨h1, h2⟩
    · exact .inr hi
  have h4 := h.clos _ (dl s b ||| bit z) b (orM_bit hS hz) (orM_bit (dl_lt hs) hz) hbn hsub h3
  have e2 : dl s b ||| bit z ||| bit b = s ||| bit z := by rw [or_comm3, dl_or hb]
  rw [e2, h2] at h4
  have h5 := h.mono (orM_bit hs hz) (sub_orM s (bit z))
  have h6 := h.le_sz (dl_lt (i := b) hs)
  have h7 := sz_less (a := s) (i := b) (by omega) hb
  have h8 : sz (dl s b) + 1 = sz s := h7
  omega
/-- idle with each of these away: idle with all away -/
theorem away (h : RkM n ρ) {s z T : Nat} (hs : s < bit n) (hi : ρ s = sz s) (hz : z < n) (h0 : ρ (s ||| bit z) = ρ s) (hT : sub T s) (hall : ∀ i, T.testBit i = true → ρ (dl s i ||| bit z) = ρ (dl s i)) : ρ (nand s T ||| bit z) = ρ (nand s T) := by
  have hn := h.n8
  have key : ∀ k, k ≤ n → ρ (nand s (upM T k) ||| bit z) = ρ (nand s (upM T k)) := by
    intro k
    induction k with
    | zero =>
      intro _
      rw [upM_zero, show nand s 0 = s from Nat.eq_of_testBit_eq (fun i => by rw [nand_testBit]; simp)]
      exact h0
    | succ k ih =>
      intro hk
      have ih' := ih (by omega)
      cases hb : T.testBit k
      · rw [upM_no hb]; exact ih'
      · have hsk := hT k hb
        obtain ⟨S, hS⟩ : ∃ S, S = nand s (upM T k) := ⟨_, rfl⟩
        have hSs : sub S s := fun i hi => by rw [hS, nand_testBit, Bool.and_eq_true] at hi; exact hi.1
        have hSl := subM_lt hSs hs
        have hSk : S.testBit k = true := by rw [hS, nand_testBit, hsk, upM_testBit]; simp
        have e : nand s (upM T (k + 1)) = dl S k := Nat.eq_of_testBit_eq (fun i => by
          rw [hS, upM_yes hb, nand_testBit, dl_testBit, nand_testBit, Nat.testBit_or, testBit_bit]
          cases s.testBit i <;> cases (upM T k).testBit i <;> simp)
        rw [e]
        rw [← hS] at ih'
        apply Classical.byContradiction
        intro hc
        have hkn := bitM_in hs hsk
        have h3 := h.exch (dl_lt hSl) hkn hz (by rw [dl_or hSk]; exact ih') hc
        have hsub : sub (dl S k ||| bit z) (dl s k ||| bit z) := fun i hi => by
          rw [Nat.testBit_or, Bool.or_eq_true, dl_testBit, Bool.and_eq_true] at hi ⊢
          rcases hi with hi | hi
          · exact .inl ⟨hSs i hi.1, hi.2⟩
          · exact .inr hi
        have h4 := h.clos _ (dl s k ||| bit z) k (orM_bit (dl_lt hSl) hz) (orM_bit (dl_lt hs) hz) hkn hsub h3
        rw [or_comm3, dl_or hsk, hall k hb] at h4
        have h5 := h.mono (orM_bit hs hz) (sub_orM s (bit z))
        have h6 := h.le_sz (dl_lt (i := k) hs)
        have h7 : sz (dl s k) + 1 = sz s := sz_less (a := s) (i := k) (by omega) hsk
        omega
  have := key n (Nat.le_refl _)
  rwa [upM_all (subM_lt hT hs)] at this
end RkM

/-! ### a row of exchanges -/
/-- the first k leave -/
def goT (s : Nat) (y : Nat → Nat) : Nat → Nat
  | 0 => s
  | k + 1 => dl (goT s y k) (y k)
/-- the first k are exchanged -/
def exT (s : Nat) (y z : Nat → Nat) : Nat → Nat
  | 0 => s
  | k + 1 => dl (exT s y z k) (y k) ||| bit (z k)
theorem goT_testBit (s : Nat) (y : Nat → Nat) (i : Nat) : ∀ k, (goT s y k).testBit i = true ↔ s.testBit i = true ∧ ∀ j, j < k → y j ≠ i
  | 0 => by simp [goT]
  | k + 1 => by
    show (dl (goT s y k) (y k)).testBit i = true ↔ _
    rw [dl_testBit, Bool.and_eq_true, goT_testBit s y i k]
    constructor
    · rintro ⟨⟨h1, h2⟩, h3⟩
      refine ⟨h1, fun j hj => ?_⟩
      by_cases e : j = k
      · subst e; simpa using h3
      · exact h2 j (by omega)
    · rintro ⟨h1, h2⟩
      exact ⟨⟨h1, fun j hj => h2 j (by omega)⟩, by simpa using h2 k (by omega)⟩
/-- pairs: each y in the set, each z outside, none twice -/
structure Pairs (n s : Nat) (y z : Nat → Nat) (t : Nat) : Prop where
  yin : ∀ k, k < t → s.testBit (y k) = true
  zout : ∀ k, k < t → s.testBit (z k) = false ∧ z k < n
  yinj : ∀ i k, i < k → k < t → y i ≠ y k
  zinj : ∀ i k, i < k → k < t → z i ≠ z k
theorem exT_testBit {n s t : Nat} {y z : Nat → Nat} (h : Pairs n s y z t) (i : Nat) : ∀ k, k ≤ t → ((exT s y z k).testBit i = true ↔ (s.testBit i = true ∧ ∀ j, j < k → y j ≠ i) ∨ ∃ j, j < k ∧ z j = i)
  | 0, _ => by simp [exT]
  | k + 1, hk => by
    show (dl (exT s y z k) (y k) ||| bit (z k)).testBit i = true ↔ _
    rw [Nat.testBit_or, Bool.or_eq_true, dl_testBit, Bool.and_eq_true, exT_testBit h i k (by omega), testBit_bit, decide_eq_true_eq]
    constructor
    · rintro (⟨h1 | ⟨j, hj, e⟩, h3⟩ | h4)
      · refine .inl ⟨h1.1, fun j hj => ?_⟩
        by_cases e : j = k
        · subst e; simpa using h3
        · exact h1.2 j (by omega)
      · exact .inr ⟨j, by omega, e⟩
      · exact .inr ⟨k, by omega, h4⟩
    · rintro (⟨h1, h2⟩ | ⟨j, hj, e⟩)
      · exact .inl ⟨.inl ⟨h1, fun j hj => h2 j (by omega)⟩, by simpa using h2 k (by omega)⟩
      · by_cases d : j = k
        · subst d; exact .inr e
        · refine .inl ⟨.inr ⟨j, by omega, e⟩, ?_⟩
          simp only [Bool.not_eq_true', decide_eq_false_iff_not]
          intro e2
          have h1 := h.yin k (by omega)
          have h2 := (h.zout j (by omega)).1
          rw [e2, ← e, h2] at h1
          cases h1
theorem exT_lt {n s t : Nat} {y z : Nat → Nat} (h : Pairs n s y z t) (hs : s < bit n) : ∀ k, k ≤ t → exT s y z k < bit n
  | 0, _ => hs
  | k + 1, hk => orM_bit (dl_lt (exT_lt h hs k (by omega))) (h.zout k (by omega)).2
theorem exT_sz {n s t : Nat} {y z : Nat → Nat} (h : Pairs n s y z t) (hs : s < bit n) (hn : n ≤ 8) : ∀ k, k ≤ t → sz (exT s y z k) = sz s
  | 0, _ => rfl
  | k + 1, hk => by
    have ih := exT_sz h hs hn k (by omega)
    have h1 : (exT s y z k).testBit (y k) = true := (exT_testBit h (y k) k (by omega)).2 (.inl ⟨h.yin k (by omega), fun j hj => h.yinj j k hj (by omega)⟩)
    have hyn : y k < n := bitM_in hs (h.yin k (by omega))
    have h2 := sz_less (a := exT s y z k) (i := y k) (by omega) h1
    have hz := h.zout k (by omega)
    have h3 : (dl (exT s y z k) (y k)).testBit (z k) = false := by
      cases e : (dl (exT s y z k) (y k)).testBit (z k)
      · rfl
      · rw [dl_testBit, Bool.and_eq_true] at e
        rcases (exT_testBit h (z k) k (by omega)).1 e.1 with ⟨h4, _⟩ | ⟨j, hj, e2⟩
        · rw [hz.1] at h4; cases h4
        · exact absurd e2 (h.zinj j k hj (by omega))
    have h4 := sz_add (a := dl (exT s y z k) (y k)) (i := z k) (by omega) h3
    show sz (dl (exT s y z k) (y k) ||| bit (z k)) = sz s
    have h5 : sz (dl (exT s y z k) (y k)) + 1 = sz (exT s y z k) := h2
    omega
/-- THE EXCHANGES -/
theorem RkM.exchanges {n : Nat} {ρ : Nat → Nat} (h : RkM n ρ) {s t : Nat} {y z : Nat → Nat} (hs : s < bit n) (hi : ρ s = sz s) (hP : Pairs n s y z t)
    (hcl : ∀ k, k < t → ρ (s ||| bit (z k)) = ρ s) (hin : ∀ k, k < t → ρ (dl s (y k) ||| bit (z k)) ≠ ρ (dl s (y k))) (hno : ∀ i k, i < k → k < t → ρ (dl s (y i) ||| bit (z k)) = ρ (dl s (y i))) :
    ∀ k, k ≤ t → ρ (exT s y z k) = sz (exT s y z k) ∧ ∀ i, i < n → ρ (s ||| bit i) = ρ s → ρ (exT s y z k ||| bit i) = ρ (exT s y z k) := by
  have hn := h.n8
  have hgo_lt : ∀ k, goT s y k < bit n := fun k => by
    induction k with
    | zero => exact hs
    | succ k ih => exact dl_lt ih
  have hgo_sub : ∀ k, sub (goT s y k) s := fun k i hi => ((goT_testBit s y i k).1 hi).1
  -- a later z is idle where the first k are away
  have idle : ∀ k j, k ≤ j → j < t → ρ (goT s y k ||| bit (z j)) = ρ (goT s y k) := by
    intro k
    induction k with
    | zero => intro j _ hj; exact hcl j hj
    | succ k ih =>
      intro j hkj hj
      cases k with
      | zero => exact hno 0 j (by omega) hj
      | succ k =>
        have h1 := ih j (by omega) hj
        -- away with all but the last and with the last alone
        have hA : ρ (dl (goT s y (k + 1)) (y (k + 1)) ||| bit (z j)) = ρ (dl (goT s y (k + 1)) (y (k + 1))) := by
          apply Classical.byContradiction
          intro hc
          have hy : (goT s y (k + 1)).testBit (y (k + 1)) = true := (goT_testBit _ _ _ _).2 ⟨hP.yin (k + 1) (by omega), fun i hi => hP.yinj i (k + 1) hi (by omega)⟩
          have hyn := bitM_in hs (hP.yin (k + 1) (by omega))
          have hzn := (hP.zout j hj).2
          have h3 := h.exch (dl_lt (hgo_lt (k + 1))) hyn hzn (by rw [dl_or hy]; exact h1) hc
          have hsub : sub (dl (goT s y (k + 1)) (y (k + 1)) ||| bit (z j)) (dl s (y (k + 1)) ||| bit (z j)) := fun i hi => by
            rw [Nat.testBit_or, Bool.or_eq_true, dl_testBit, Bool.and_eq_true] at hi
            rw [Nat.testBit_or, Bool.or_eq_true, dl_testBit, Bool.and_eq_true]
            rcases hi with hi | hi
            · exact .inl ⟨hgo_sub _ i hi.1, hi.2⟩
            · exact .inr hi
          have h4 := h.clos _ (dl s (y (k + 1)) ||| bit (z j)) (y (k + 1)) (orM_bit (dl_lt (hgo_lt (k + 1))) hzn) (orM_bit (dl_lt hs) hzn) hyn hsub h3
          have hys := hP.yin (k + 1) (by omega)
          rw [or_comm3, dl_or hys, hno (k + 1) j (by omega) hj] at h4
          have h5 := h.mono (orM_bit hs hzn) (sub_orM s (bit (z j)))
          have h6 := h.le_sz (dl_lt (i := y (k + 1)) hs)
          have h7 : sz (dl s (y (k + 1))) + 1 = sz s := sz_less (a := s) (i := y (k + 1)) (by omega) hys
          omega
        exact hA
  intro k
  induction k with
  | zero => intro _; exact ⟨hi, fun i _ e => e⟩
  | succ k ih =>
    intro hk
    obtain ⟨ih1, ih2⟩ := ih (by omega)
    have hkt : k < t := by omega
    have hJ := exT_lt hP hs k (by omega)
    have hys := hP.yin k hkt
    have hyn := bitM_in hs hys
    have hzn := (hP.zout k hkt).2
    have hyJ : (exT s y z k).testBit (y k) = true := (exT_testBit hP (y k) k (by omega)).2 (.inl ⟨hys, fun j hj => hP.yinj j k hj hkt⟩)
    have hyg : (goT s y k).testBit (y k) = true := (goT_testBit _ _ _ _).2 ⟨hys, fun i hi => hP.yinj i k hi hkt⟩
    -- y k joins idly what is left with z k
    have hne : ρ (dl (goT s y k) (y k) ||| bit (z k)) ≠ ρ (dl (goT s y k) (y k)) := fun hc => hin k hkt (h.clos _ _ (z k) (dl_lt (hgo_lt k)) (dl_lt hs) hzn (fun i hi => by
      rw [dl_testBit, Bool.and_eq_true] at hi ⊢
      exact ⟨hgo_sub k i hi.1, hi.2⟩) hc)
    have h3 := h.exch (dl_lt (hgo_lt k)) hyn hzn (by rw [dl_or hyg]; exact idle k k (Nat.le_refl _) hkt) hne
    have hsub : sub (dl (goT s y k) (y k) ||| bit (z k)) (exT s y z (k + 1)) := fun i hi => by
      show (dl (exT s y z k) (y k) ||| bit (z k)).testBit i = true
      rw [Nat.testBit_or, Bool.or_eq_true, dl_testBit, Bool.and_eq_true] at hi ⊢
      rcases hi with hi | hi
      · refine .inl ⟨?_, hi.2⟩
        have := (goT_testBit _ _ _ _).1 hi.1
        exact (exT_testBit hP i k (by omega)).2 (.inl this)
      · exact .inr hi
    have hA := exT_lt hP hs (k + 1) hk
    have h4 := h.clos _ (exT s y z (k + 1)) (y k) (orM_bit (dl_lt (hgo_lt k)) hzn) hA hyn hsub h3
    -- so it spans what it spanned
    have hJsub : sub (exT s y z k) (exT s y z (k + 1) ||| bit (y k)) := fun i hi => by
      show (dl (exT s y z k) (y k) ||| bit (z k) ||| bit (y k)).testBit i = true
      rw [or_comm3, dl_or hyJ, Nat.testBit_or, hi]; rfl
    have h5 := h.mono (orM_bit hA hyn) hJsub
    have hszk := exT_sz hP hs hn k (by omega)
    have hszk1 := exT_sz hP hs hn (k + 1) hk
    have h6 := h.le_sz hA
    have hind : ρ (exT s y z (k + 1)) = sz (exT s y z (k + 1)) := by omega
    refine ⟨hind, fun i hin' e => ?_⟩
    have h7 := ih2 i hin' e
    have h8 := h.clos _ (exT s y z (k + 1) ||| bit (y k)) i hJ (orM_bit hA hyn) hin' hJsub h7
    have h9 := h.mono (orM_bit (orM_bit hA hyn) hin') (show sub (exT s y z (k + 1) ||| bit i) (exT s y z (k + 1) ||| bit (y k) ||| bit i) from fun x hx => by
      rw [Nat.testBit_or, Bool.or_eq_true] at hx
      rw [Nat.testBit_or, Nat.testBit_or, Bool.or_eq_true, Bool.or_eq_true]
      rcases hx with hx | hx
      · exact .inl (.inl hx)
      · exact .inr hx)
    have h10 := (h.step (exT s y z (k + 1)) i hA hin').1
    omega

end Go.Proofs.Ytmcffbmhkbijlaa

namespace Go.Proofs.Ytmcffbmhkbijlaa
set_option linter.unusedVariables false

section
variable (n s : Nat) (x y : Nat → Nat)
def srcE (i : Nat) : Prop := s.testBit i = false ∧ x (s ||| bit i) = sz (s ||| bit i)
def snkE (i : Nat) : Prop := s.testBit i = false ∧ y (s ||| bit i) = sz (s ||| bit i)
/-- from one that is out one that is in leaves, in y; from one that is in one that is out comes, in x -/
def edE (i k : Nat) : Prop := (s.testBit i = false ∧ s.testBit k = true ∧ y (dl s k ||| bit i) = sz (dl s k ||| bit i)) ∨ (s.testBit i = true ∧ s.testBit k = false ∧ x (dl s i ||| bit k) = sz (dl s i ||| bit k))
end

/-- the queue Q, whence each came: the first q of the queue are done -/
structure Bq (n s : Nat) (x y : Nat → Nat) (c : Nat → Int) (Q : List Nat) (q : Nat) : Prop where
  lt : ∀ j, j < Q.length → Q.getD j 0 < n
  inj : ∀ i j, i < j → j < Q.length → Q.getD i 0 ≠ Q.getD j 0
  seen : ∀ i, i < n → (c i ≠ -2 ↔ ∃ j, j < Q.length ∧ Q.getD j 0 = i)
  src : ∀ i, i < n → srcE s x i → ∃ j, j < Q.length ∧ Q.getD j 0 = i
  came : ∀ j, j < Q.length → (c (Q.getD j 0) = -1 ∧ srcE s x (Q.getD j 0)) ∨ ∃ a, a < j ∧ c (Q.getD j 0) = (Q.getD a 0 : Nat) ∧ edE s x y (Q.getD a 0) (Q.getD j 0) ∧ ¬ srcE s x (Q.getD j 0) ∧ ∀ b, b < a → ¬ edE s x y (Q.getD b 0) (Q.getD j 0)
  done : ∀ a, a < q → a < Q.length → ¬ snkE s y (Q.getD a 0) ∧ ∀ k, k < n → edE s x y (Q.getD a 0) k → ∃ j, j < Q.length ∧ Q.getD j 0 = k

/-- a way back from place j of the queue -/
inductive Way (c : Nat → Int) (Q : List Nat) : Nat → List Nat → Prop
  | src (j : Nat) (h : c (Q.getD j 0) = -1) : Way c Q j [Q.getD j 0]
  | step (j a : Nat) (l : List Nat) (h : a < j) (e : c (Q.getD j 0) = (Q.getD a 0 : Nat)) (w : Way c Q a l) : Way c Q j (Q.getD j 0 :: l)
section
variable {n s : Nat} {x y : Nat → Nat} {c : Nat → Int} {Q : List Nat} {q : Nat}
theorem Bq.way (h : Bq n s x y c Q q) : ∀ k j, j ≤ k → j < Q.length → ∃ l, Way c Q j l
  | 0, j, hk, hj => by
    rcases h.came j hj with ⟨e, _⟩ | ⟨a, ha, _⟩
    · exact ⟨_, Way.src j e⟩
    · omega
  | k + 1, j, hk, hj => by
    rcases h.came j hj with ⟨e, _⟩ | ⟨a, ha, e, _⟩
    · exact ⟨_, Way.src j e⟩
    · obtain ⟨l, hl⟩ := h.way k a (by omega) (by omega)
      exact ⟨_, Way.step j a l ha e hl⟩
/-- what is known of a way: places in the queue fall; each comes by a shortest step -/
structure WayP (n s : Nat) (x y : Nat → Nat) (Q : List Nat) (j : Nat) (l : List Nat) (p : Nat → Nat) : Prop where
  ne : 0 < l.length
  at' : ∀ k, k < l.length → l.getD k 0 = Q.getD (p k) 0 ∧ p k < Q.length
  first : p 0 = j
  fall : ∀ i k, i < k → k < l.length → p k < p i
  last : srcE s x (l.getD (l.length - 1) 0)
  nsrc : ∀ k, k + 1 < l.length → ¬ srcE s x (l.getD k 0)
  ed : ∀ k, k + 1 < l.length → edE s x y (l.getD (k + 1) 0) (l.getD k 0)
  far : ∀ i k, i + 1 < k → k < l.length → ¬ edE s x y (l.getD k 0) (l.getD i 0)
theorem Bq.wayP (h : Bq n s x y c Q q) {j : Nat} {l : List Nat} (w : Way c Q j l) : j < Q.length → ∃ p, WayP n s x y Q j l p := by
  induction w with
  | src j e =>
    intro hj
    rcases h.came j hj with ⟨_, hs⟩ | ⟨a, ha, e2, _⟩
    · exact ⟨fun _ => j, ⟨by simp, fun k hk => by
        have : k = 0 := by simp at hk; exact hk
        subst this
        exact ⟨rfl, hj⟩, rfl, fun i k hik hk => by simp at hk; omega, hs, fun k hk => by simp at hk, fun k hk => by simp at hk, fun i k hik hk => by simp at hk; omega⟩⟩
    · rw [e] at e2; omega
  | step j a l ha e w ih =>
    intro hj
    obtain ⟨p, hp⟩ := ih (by omega)
    rcases h.came j hj with ⟨e2, _⟩ | ⟨a', ha', e2, hed, hns, hfar⟩
    · rw [e] at e2; omega
    · have hQ : Q.getD a 0 = Q.getD a' 0 := by rw [e] at e2; exact_mod_cast e2
      have haa : a = a' := by
        rcases Nat.lt_trichotomy a a' with d | d | d
        · exact absurd hQ (h.inj a a' d (by omega))
        · exact d
        · exact absurd hQ.symm (h.inj a' a d (by omega))
      subst haa
      have h0 : l.getD 0 0 = Q.getD a 0 := by
        have := (hp.at' 0 hp.ne).1
        rw [hp.first] at this
        exact this
      have hsuc : ∀ k, (Q.getD j 0 :: l).getD (k + 1) 0 = l.getD k 0 := fun k => rfl
      refine ⟨fun k => match k with | 0 => j | k + 1 => p k, ⟨by simp, fun k hk => ?_, rfl, fun i k hik hk => ?_, ?_, fun k hk => ?_, fun k hk => ?_, fun i k hik hk => ?_⟩⟩
      · cases k with
        | zero => exact ⟨rfl, hj⟩
        | succ k => exact hp.at' k (by simpa using hk)
      · cases k with
        | zero => omega
        | succ k =>
          have hk' : k < l.length := by simpa using hk
          cases i with
          | zero =>
            show p k < j
            by_cases d : k = 0
            · subst d; rw [hp.first]; exact ha
            · have := hp.fall 0 k (by omega) hk'
              rw [hp.first] at this
              omega
          | succ i => exact hp.fall i k (by omega) hk'
      · have : (Q.getD j 0 :: l).length - 1 = (l.length - 1) + 1 := by have := hp.ne; simp; omega
        rw [this, hsuc]
        exact hp.last
      · cases k with
        | zero => exact hns
        | succ k => exact hp.nsrc k (by simpa using hk)
      · cases k with
        | zero =>
          rw [hsuc, h0]
          exact hed
        | succ k => exact hp.ed k (by simpa using hk)
      · cases k with
        | zero => omega
        | succ k =>
          have hk' : k < l.length := by simpa using hk
          cases i with
          | zero =>
            rw [hsuc, (hp.at' k hk').1]
            refine hfar (p k) ?_
            have := hp.fall 0 k (by omega) hk'
            rw [hp.first] at this
            exact this
          | succ i => exact hp.far i k (by omega) hk'
end

/-- the bits of a list turned -/
def flipL (s : Nat) : List Nat → Nat
  | [] => s
  | a :: l => flipL (s ^^^ bit a) l
theorem flipL_testBit (i : Nat) : ∀ (l : List Nat) (s : Nat), l.Nodup → (flipL s l).testBit i = (s.testBit i != decide (i ∈ l))
  | [], s, _ => by simp [flipL]
  | a :: l, s, h => by
    rw [List.nodup_cons] at h
    show (flipL (s ^^^ bit a) l).testBit i = _
    rw [flipL_testBit i l _ h.2, Nat.testBit_xor, testBit_bit]
    by_cases e : a = i
    · subst e
      simp [h.1]
    · by_cases d : i ∈ l
      · simp [e, d, Ne.symm (show a ≠ i from e)]
      · have : i ∉ a :: l := by simp [d]; exact fun h => e h.symm
        simp [e, d, this]

section
variable {n s : Nat} {x y : Nat → Nat}
/-- a shortest way: out and in by turns -/
theorem WayP.outs {Q : List Nat} {j : Nat} {l : List Nat} {p : Nat → Nat} (h : WayP n s x y Q j l p) (h0 : s.testBit (l.getD 0 0) = false) : ∀ k, k < l.length → s.testBit (l.getD k 0) = decide (k % 2 = 1)
  | 0, _ => by rw [h0]; rfl
  | k + 1, hk => by
    have ih := h.outs h0 k (by omega)
    rcases h.ed k hk with ⟨e1, e2, _⟩ | ⟨e1, e2, _⟩
    · rw [e1]
      rw [e2] at ih
      have : k % 2 = 1 := by simpa using ih.symm
      simp; omega
    · rw [e1]
      rw [e2] at ih
      have : ¬ k % 2 = 1 := by simpa using ih.symm
      simp; omega
theorem rank_up {ρ : Nat → Nat} (h : RkM n ρ) {t i : Nat} (ht : t < bit n) (hi : i < n) (hit : ρ t = sz t) (ho : t.testBit i = false) : ρ (t ||| bit i) = sz (t ||| bit i) ↔ ρ (t ||| bit i) ≠ ρ t := by
  have hn := h.n8
  have h1 := sz_add (a := t) (i := i) (by omega) ho
  have h2 := h.step t i ht hi
  omega
/-- AUGMENTED -/
theorem WayP.more {Q : List Nat} {j : Nat} {l : List Nat} {p : Nat → Nat} (hx : RkM n x) (hy : RkM n y) (hs : s < bit n) (hxi : x s = sz s) (hyi : y s = sz s) (hQ : ∀ j, j < Q.length → Q.getD j 0 < n) (hinj : ∀ i j, i < j → j < Q.length → Q.getD i 0 ≠ Q.getD j 0)
    (h : WayP n s x y Q j l p) (h0 : snkE s y (l.getD 0 0)) (hns : ∀ k, 0 < k → k < l.length → ¬ snkE s y (l.getD k 0)) :
    flipL s l < bit n ∧ x (flipL s l) = sz (flipL s l) ∧ y (flipL s l) = sz (flipL s l) ∧ sz (flipL s l) = sz s + 1 := by
  have hn := hx.n8
  have hlt : ∀ k, k < l.length → l.getD k 0 < n := fun k hk => by rw [(h.at' k hk).1]; exact hQ _ (h.at' k hk).2
  have hli : ∀ i k, i < k → k < l.length → l.getD i 0 ≠ l.getD k 0 := fun i k hik hk => by
    rw [(h.at' i (by omega)).1, (h.at' k hk).1]
    exact fun e => hinj (p k) (p i) (h.fall i k hik hk) (h.at' i (by omega)).2 e.symm
  have hnd : l.Nodup := by
    rw [List.Nodup, List.pairwise_iff_getElem]
    intro i k hi hk hik e
    have := hli i k hik hk
    simp only [List.getD_eq_getElem?_getD, List.getElem?_eq_getElem hi, List.getElem?_eq_getElem hk, Option.getD_some] at this
    exact this e
  have hpar := h.outs h0.1
  -- how long it is
  have hodd : ∃ t, l.length = 2 * t + 1 := by
    have h1 := hpar (l.length - 1) (by have := h.ne; omega)
    rw [h.last.1] at h1
    have h2 : ¬ (l.length - 1) % 2 = 1 := by simpa using h1.symm
    have := h.ne
    exact ⟨(l.length - 1) / 2, by omega⟩
  obtain ⟨t, ht⟩ := hodd
  have hbit : ∀ i, (flipL s l).testBit i = true ↔ (s.testBit i = true ∧ ∀ k, k < t → l.getD (2 * k + 1) 0 ≠ i) ∨ ∃ k, k ≤ t ∧ l.getD (2 * k) 0 = i := fun i => by
    rw [flipL_testBit i l s hnd]
    by_cases hm : i ∈ l
    · obtain ⟨k, hk, e⟩ := List.getElem_of_mem hm
      have e2 : l.getD k 0 = i := by rw [List.getD_eq_getElem?_getD, List.getElem?_eq_getElem hk]; exact e
      have h1 := hpar k hk
      rw [e2] at h1
      by_cases c : k % 2 = 1
      · have h2 : s.testBit i = true := by rw [h1]; simpa using c
        rw [h2]
        simp only [hm, decide_true, bne_self_eq_false, Bool.false_eq_true, false_iff]
        rintro (⟨_, h3⟩ | ⟨k', hk', e3⟩)
        · exact h3 (k / 2) (by omega) (by rw [show 2 * (k / 2) + 1 = k by omega]; exact e2)
        · have h4 := hpar (2 * k') (by omega)
          rw [e3, h2] at h4
          have : 2 * k' % 2 = 1 := by simpa using h4.symm
          omega
      · have h2 : s.testBit i = false := by rw [h1]; simpa using c
        rw [h2]
        simp only [hm, decide_true, Bool.false_eq_true, false_and, false_or]
        refine ⟨fun _ => ⟨k / 2, by omega, by rw [show 2 * (k / 2) = k by omega]; exact e2⟩, fun _ => rfl⟩
    · simp only [hm, decide_false]
      have hno : ∀ k, k < l.length → l.getD k 0 ≠ i := fun k hk e => hm (by
        rw [← e, List.getD_eq_getElem?_getD, List.getElem?_eq_getElem hk]
        simp)
      cases hb : s.testBit i
      · simp only [bne_self_eq_false, Bool.false_eq_true, false_and, false_or, false_iff]
        rintro ⟨k, hk, e⟩
        exact hno (2 * k) (by omega) e
      · refine ⟨fun _ => .inl ⟨rfl, fun k hk e => hno (2 * k + 1) (by omega) e⟩, fun _ => rfl⟩
  have out : ∀ k, k ≤ t → s.testBit (l.getD (2 * k) 0) = false := fun k hk => by rw [hpar (2 * k) (by omega)]; simp
  have inn : ∀ k, k < t → s.testBit (l.getD (2 * k + 1) 0) = true := fun k hk => by rw [hpar (2 * k + 1) (by omega)]; simp
  -- in x: from the source on
  have hPx : Pairs n s (fun k => l.getD (2 * (t - 1 - k) + 1) 0) (fun k => l.getD (2 * (t - 1 - k)) 0) t := ⟨fun k hk => inn _ (by omega), fun k hk => ⟨out _ (by omega), hlt _ (by omega)⟩, fun i k hik hk e => hli (2 * (t - 1 - k) + 1) (2 * (t - 1 - i) + 1) (by omega) (by omega) e.symm, fun i k hik hk e => hli (2 * (t - 1 - k)) (2 * (t - 1 - i)) (by omega) (by omega) e.symm⟩
  have clx : ∀ k, k < t → x (s ||| bit (l.getD (2 * k) 0)) = x s := fun k hk => by
    apply Classical.byContradiction
    intro hc
    exact h.nsrc (2 * k) (by omega) ⟨out k (by omega), (rank_up hx hs (hlt _ (by omega)) hxi (out k (by omega))).2 hc⟩
  have edx : ∀ a b, a < l.length → b < l.length → s.testBit (l.getD a 0) = true → s.testBit (l.getD b 0) = false → (edE s x y (l.getD a 0) (l.getD b 0) ↔ x (dl s (l.getD a 0) ||| bit (l.getD b 0)) ≠ x (dl s (l.getD a 0))) := fun a b ha hb h1 h2 => by
    have hi := hx.ind_sub hs (dl_sub s (l.getD a 0)) hxi
    have ho : (dl s (l.getD a 0)).testBit (l.getD b 0) = false := by rw [dl_testBit, h2]; rfl
    rw [← rank_up hx (dl_lt hs) (hlt b hb) hi ho]
    unfold edE
    constructor
    · rintro (⟨e1, _⟩ | ⟨_, _, e3⟩)
      · rw [h1] at e1; cases e1
      · exact e3
    · intro e3; exact .inr ⟨h1, h2, e3⟩
  have edy : ∀ a b, a < l.length → b < l.length → s.testBit (l.getD a 0) = false → s.testBit (l.getD b 0) = true → (edE s x y (l.getD a 0) (l.getD b 0) ↔ y (dl s (l.getD b 0) ||| bit (l.getD a 0)) ≠ y (dl s (l.getD b 0))) := fun a b ha hb h1 h2 => by
    have hi := hy.ind_sub hs (dl_sub s (l.getD b 0)) hyi
    have ho : (dl s (l.getD b 0)).testBit (l.getD a 0) = false := by rw [dl_testBit, h1]; rfl
    rw [← rank_up hy (dl_lt hs) (hlt a ha) hi ho]
    unfold edE
    constructor
    · rintro (⟨_, _, e3⟩ | ⟨e1, _⟩)
      · exact e3
      · rw [h1] at e1; cases e1
    · intro e3; exact .inl ⟨h1, h2, e3⟩
  have hEx := (hx.exchanges hs hxi hPx (fun k hk => clx _ (by omega)) (fun k hk => (edx _ _ (by omega) (by omega) (inn _ (by omega)) (out _ (by omega))).1 (h.ed _ (by omega))) (fun i k hik hk => by
    apply Classical.byContradiction
    intro hc
    exact h.far (2 * (t - 1 - k)) (2 * (t - 1 - i) + 1) (by omega) (by omega) ((edx _ _ (by omega) (by omega) (inn _ (by omega)) (out _ (by omega))).2 hc)) t (Nat.le_refl _)).1
  have hPy : Pairs n s (fun k => l.getD (2 * k + 1) 0) (fun k => l.getD (2 * k + 2) 0) t := ⟨fun k hk => inn _ hk, fun k hk => ⟨out (k + 1) (by omega), hlt _ (by omega)⟩, fun i k hik hk => hli _ _ (by omega) (by omega), fun i k hik hk => hli _ _ (by omega) (by omega)⟩
  have cly : ∀ k, k < t → y (s ||| bit (l.getD (2 * k + 2) 0)) = y s := fun k hk => by
    apply Classical.byContradiction
    intro hc
    exact hns (2 * k + 2) (by omega) (by omega) ⟨out (k + 1) (by omega), (rank_up hy hs (hlt _ (by omega)) hyi (out (k + 1) (by omega))).2 hc⟩
  have hEy := (hy.exchanges hs hyi hPy (fun k hk => cly k hk) (fun k hk => (edy (2 * k + 2) (2 * k + 1) (by omega) (by omega) (out (k + 1) (by omega)) (inn k hk)).1 (h.ed _ (by omega))) (fun i k hik hk => by
    apply Classical.byContradiction
    intro hc
    exact h.far (2 * i + 1) (2 * k + 2) (by omega) (by omega) ((edy (2 * k + 2) (2 * i + 1) (by omega) (by omega) (out (k + 1) (by omega)) (inn i (by omega))).2 hc)) t (Nat.le_refl _)).1
  -- both are what is turned, but for one
  have end' : ∀ {ρ : Nat → Nat} (hr : RkM n ρ) (hri : ρ s = sz s) {a b : Nat → Nat} (hP : Pairs n s a b t) (hcl : ∀ k, k < t → ρ (s ||| bit (b k)) = ρ s) (hE : ρ (exT s a b t) = sz (exT s a b t)) {e : Nat} (hen : e < n) (heo : s.testBit e = false) (hup : ρ (s ||| bit e) ≠ ρ s) (heq : flipL s l = exT s a b t ||| bit e), flipL s l < bit n ∧ ρ (flipL s l) = sz (flipL s l) ∧ sz (flipL s l) = sz s + 1 := by
    intro ρ hr hri a b hP hcl hE e hen heo hup heq
    have hlt' := exT_lt hP hs t (Nat.le_refl _)
    have hsz := exT_sz hP hs hn t (Nat.le_refl _)
    obtain ⟨T, hT⟩ : ∃ T, T = exT s a b t := ⟨_, rfl⟩
    rw [← hT] at heq hE hlt' hsz
    -- what T spans lies in what s spans
    have hz : ∀ i, T.testBit i = true → ρ (s ||| bit i) = ρ s := fun i hi => by
      rw [hT] at hi
      rcases (exT_testBit hP i t (Nat.le_refl _)).1 hi with ⟨h1, _⟩ | ⟨k, hk, e2⟩
      · rw [orM_in h1]
      · rw [← e2]; exact hcl k hk
    have hST : ρ (s ||| T) = ρ s := hr.joins hs hlt' hz
    have hne : ρ (T ||| bit e) ≠ ρ T := fun hc => by
      have h1 := hr.clos T (s ||| T) e hlt' (orM_lt hs hlt') hen (sub_orM2 _ _) hc
      have h2 := hr.mono (orM_bit (orM_lt hs hlt') hen) (show sub (s ||| bit e) (s ||| T ||| bit e) from fun i hi => by
        rw [Nat.testBit_or, Bool.or_eq_true] at hi
        rw [Nat.testBit_or, Nat.testBit_or, Bool.or_eq_true, Bool.or_eq_true]
        rcases hi with hi | hi
        · exact .inl (.inl hi)
        · exact .inr hi)
      have h3 := hr.step s e hs hen
      omega
    have hTe : T.testBit e = false := by
      cases hb : T.testBit e
      · rfl
      · rw [orM_in hb] at hne; exact absurd rfl hne
    rw [heq]
    have h4 := sz_add (a := T) (i := e) (by omega) hTe
    exact ⟨orM_bit hlt' hen, (rank_up hr hlt' hen hE hTe).2 hne, by omega⟩
  have hl2 : l.getD (l.length - 1) 0 = l.getD (2 * t) 0 := by rw [ht]; rfl
  have hlast := h.last
  rw [hl2] at hlast
  have fx := end' hx hxi hPx (fun k hk => clx _ (by omega)) hEx (hlt (2 * t) (by omega)) hlast.1 ((rank_up hx hs (hlt _ (by omega)) hxi hlast.1).1 hlast.2) (Nat.eq_of_testBit_eq (fun i => by
    rw [Bool.eq_iff_iff, hbit i, Nat.testBit_or, Bool.or_eq_true, exT_testBit hPx i t (Nat.le_refl _), testBit_bit, decide_eq_true_eq]
    constructor
    · rintro (⟨h1, h2⟩ | ⟨k, hk, e⟩)
      · exact .inl (.inl ⟨h1, fun j hj => h2 _ (by omega)⟩)
      · by_cases d : k = t
        · subst d; exact .inr e
        · exact .inl (.inr ⟨t - 1 - k, by omega, by rw [show t - 1 - (t - 1 - k) = k by omega]; exact e⟩)
    · rintro ((⟨h1, h2⟩ | ⟨k, hk, e⟩) | e)
      · exact .inl ⟨h1, fun k hk => by
          have := h2 (t - 1 - k) (by omega)
          rwa [show t - 1 - (t - 1 - k) = k by omega] at this⟩
      · exact .inr ⟨t - 1 - k, by omega, e⟩
      · exact .inr ⟨t, Nat.le_refl _, e⟩))
  have fy := end' hy hyi hPy (fun k hk => cly k hk) hEy (hlt 0 (by omega)) h0.1 ((rank_up hy hs (hlt _ (by omega)) hyi h0.1).1 h0.2) (Nat.eq_of_testBit_eq (fun i => by
    rw [Bool.eq_iff_iff, hbit i, Nat.testBit_or, Bool.or_eq_true, exT_testBit hPy i t (Nat.le_refl _), testBit_bit, decide_eq_true_eq]
    constructor
    · rintro (⟨h1, h2⟩ | ⟨k, hk, e⟩)
      · exact .inl (.inl ⟨h1, fun j hj => h2 _ (by omega)⟩)
      · by_cases d : k = 0
        · subst d; exact .inr e
        · exact .inl (.inr ⟨k - 1, by omega, by rw [show 2 * (k - 1) + 2 = 2 * k by omega]; exact e⟩)
    · rintro ((⟨h1, h2⟩ | ⟨k, hk, e⟩) | e)
      · exact .inl ⟨h1, fun k hk => h2 k hk⟩
      · exact .inr ⟨k + 1, by omega, by rw [show 2 * (k + 1) = 2 * k + 2 by omega]; exact e⟩
      · exact .inr ⟨0, by omega, e⟩))
  exact ⟨fx.1, fx.2.1, fy.2.1, fx.2.2⟩

/-- NONE FOUND: a set bars it -/
theorem Bq.bars {c : Nat → Int} {Q : List Nat} {q : Nat} (h : Bq n s x y c Q q) (hq : Q.length ≤ q) (hx : RkM n x) (hy : RkM n y) (hs : s < bit n) (hxi : x s = sz s) (hyi : y s = sz s) :
    ∃ U, U < bit n ∧ x U + y (nand (bit n - 1) U) = sz s := by
  have hn := hx.n8
  obtain ⟨U, hU8, hUb⟩ := exists_set (fun i => i < n ∧ ¬ ∃ j, j < Q.length ∧ Q.getD j 0 = i)
  have hUlt : U < bit n := lt_bitM (fun i hi => by
    by_cases c : i < 8
    · cases e : U.testBit i
      · rfl
      · have := ((hUb i c).1 e).1; omega
    · exact Nat.testBit_lt_two_pow (Nat.lt_of_lt_of_le hU8 (by
        have : (2 : Nat) ^ 8 ≤ 2 ^ i := Nat.pow_le_pow_right (by decide) (by omega)
        omega)))
  have hU : ∀ i, i < n → (U.testBit i = true ↔ ¬ ∃ j, j < Q.length ∧ Q.getD j 0 = i) := fun i hi => by
    rw [hUb i (by omega)]
    exact ⟨fun h => h.2, fun h => ⟨hi, h⟩⟩
  have hal : bit n - 1 < bit n := by have := bitM_pos n; omega
  have hR : ∀ i, (nand (bit n - 1) U).testBit i = true ↔ i < n ∧ U.testBit i = false := fun i => by
    rw [nand_testBit, testBit_all, Bool.and_eq_true]
    simp
  have hRlt : nand (bit n - 1) U < bit n := subM_lt (fun i hi => by rw [nand_testBit, Bool.and_eq_true] at hi; exact hi.1) hal
  -- in x: what is not reached
  have eA : nand s (nand s U) = s &&& U := Nat.eq_of_testBit_eq (fun i => by
    rw [nand_testBit, nand_testBit, Nat.testBit_and]
    cases s.testBit i <;> cases U.testBit i <;> rfl)
  have hA : x U = sz (s &&& U) := by
    have hAs : sub (s &&& U) s := sub_and_left _ _
    have hAi := hx.ind_sub hs hAs hxi
    have hj := hx.joins (s := s &&& U) (t := U) (subM_lt hAs hs) hUlt (fun k hk => by
      have hkn := bitM_in hUlt hk
      cases hb : s.testBit k
      · have hns : ¬ srcE s x k := fun hc => (hU k hkn).1 hk (h.src k hkn hc)
        have h0 : x (s ||| bit k) = x s := by
          apply Classical.byContradiction
          intro hc
          exact hns ⟨hb, (rank_up hx hs hkn hxi hb).2 hc⟩
        have := hx.away (T := nand s U) hs hxi hkn h0 (fun i hi => by rw [nand_testBit, Bool.and_eq_true] at hi; exact hi.1) (fun i hi => by
          rw [nand_testBit, Bool.and_eq_true] at hi
          have hin := bitM_in hs hi.1
          have hiU : U.testBit i = false := by simpa using hi.2
          apply Classical.byContradiction
          intro hc
          have hre : ∃ j, j < Q.length ∧ Q.getD j 0 = i := Classical.byContradiction (fun hc2 => by
            rw [(hU i hin).2 hc2] at hiU; cases hiU)
          obtain ⟨j, hj, e⟩ := hre
          have hii := hx.ind_sub hs (dl_sub s i) hxi
          refine (hU k hkn).1 hk ((h.done j (by omega) hj).2 k hkn ?_)
          rw [e]
          exact .inr ⟨hi.1, hb, (rank_up hx (dl_lt hs) hkn hii (by rw [dl_testBit, hb]; rfl)).2 hc⟩)
        rwa [eA] at this
      · rw [orM_in (by rw [Nat.testBit_and, hb, hk]; rfl)])
    rw [or_sub (sub_and_right _ _)] at hj
    omega
  -- in y: what is reached
  have eB : nand s (s &&& U) = nand s U := Nat.eq_of_testBit_eq (fun i => by
    rw [nand_testBit, nand_testBit, Nat.testBit_and]
    cases s.testBit i <;> cases U.testBit i <;> rfl)
  have hB : y (nand (bit n - 1) U) = sz (nand s U) := by
    have hBs : sub (nand s U) s := fun i hi => by rw [nand_testBit, Bool.and_eq_true] at hi; exact hi.1
    have hBi := hy.ind_sub hs hBs hyi
    have hj := hy.joins (s := nand s U) (t := nand (bit n - 1) U) (subM_lt hBs hs) hRlt (fun k hk => by
      obtain ⟨hkn, hkU⟩ := (hR k).1 hk
      have hre : ∃ j, j < Q.length ∧ Q.getD j 0 = k := Classical.byContradiction (fun hc2 => by
        rw [(hU k hkn).2 hc2] at hkU; cases hkU)
      obtain ⟨j, hj, e⟩ := hre
      have hd := h.done j (by omega) hj
      rw [e] at hd
      cases hb : s.testBit k
      · have h0 : y (s ||| bit k) = y s := by
          apply Classical.byContradiction
          intro hc
          exact hd.1 ⟨hb, (rank_up hy hs hkn hyi hb).2 hc⟩
        have := hy.away (T := s &&& U) hs hyi hkn h0 (sub_and_left _ _) (fun i hi => by
          rw [Nat.testBit_and, Bool.and_eq_true] at hi
          have hin := bitM_in hs hi.1
          apply Classical.byContradiction
          intro hc
          have hii := hy.ind_sub hs (dl_sub s i) hyi
          refine (hU i hin).1 hi.2 (hd.2 i hin ?_)
          exact .inl ⟨hb, hi.1, (rank_up hy (dl_lt hs) hkn hii (by rw [dl_testBit, hb]; rfl)).2 hc⟩)
        rwa [eB] at this
      · rw [orM_in (by rw [nand_testBit, hb, hkU]; rfl)])
    rw [or_sub (fun i hi => (hR i).2 (by
      rw [nand_testBit, Bool.and_eq_true] at hi
      exact ⟨bitM_in hs hi.1, by simpa using hi.2⟩))] at hj
    omega
  refine ⟨U, hUlt, ?_⟩
  have := sz_diff s U
  omega
/-- no common one is greater than what bars it -/
theorem bar_ge {ρ1 ρ2 : Nat → Nat} (hx : RkM n ρ1) (hy : RkM n ρ2) {t U : Nat} (ht : t < bit n) (h1 : ρ1 t = sz t) (h2 : ρ2 t = sz t) (hU : U < bit n) : sz t ≤ ρ1 U + ρ2 (nand (bit n - 1) U) := by
  have hal : bit n - 1 < bit n := by have := bitM_pos n; omega
  have hR : nand (bit n - 1) U < bit n := subM_lt (fun i hi => by rw [nand_testBit, Bool.and_eq_true] at hi; exact hi.1) hal
  have e1 := hx.ind_sub ht (sub_and_left t U) h1
  have e2 := hy.ind_sub ht (show sub (nand t U) t from fun i hi => by rw [nand_testBit, Bool.and_eq_true] at hi; exact hi.1) h2
  have e3 := hx.mono hU (sub_and_right t U)
  have e4 := hy.mono hR (show sub (nand t U) (nand (bit n - 1) U) from fun i hi => by
    rw [nand_testBit, Bool.and_eq_true] at hi
    rw [nand_testBit, testBit_all, Bool.and_eq_true]
    exact ⟨by simpa using bitM_in ht hi.1, hi.2⟩)
  have := sz_diff t U
  omega
end

end Go.Proofs.Ytmcffbmhkbijlaa

namespace Go.Proofs.Ytmcffbmhkbijlaa
set_option linter.unusedVariables false

theorem rkM_of_sub {L : List Nat} {m : Nat} (hm : m ≤ 8) (hne : L ≠ []) (hS : SubM m (rk L)) : RkM m (rk L) where
  n8 := hm
  zero := by have := rk_le L 0; rw [sz_zero] at this; omega
  step := fun s i hs hi => ⟨rk_mono hne (sub_or_left _ _), rk_step hne s i (by omega)⟩
  clos := fun s u i hs hu hi hsu h => by
    have key : ∀ k, k ≤ m → rk L ((s ||| upM u k) ||| bit i) = rk L (s ||| upM u k) := by
      intro k
      induction k with
      | zero => intro _; rw [upM_zero, Nat.or_zero]; exact h
      | succ k ih =>
        intro hk
        have ih' := ih (by omega)
        cases hb : u.testBit k
        · rw [upM_no hb]; exact ih'
        · rw [upM_yes hb, ← Nat.or_assoc]
          generalize hv : s ||| upM u k = v at ih' ⊢
          have hvl : v < bit m := by rw [← hv]; exact orM_lt hs (upM_lt hu)
          have h1 := hS v hvl i hi k (by omega)
          have h2 : rk L v ≤ rk L ((v ||| bit i) &&& (v ||| bit k)) := rk_mono hne (fun q hq => by rw [Nat.testBit_and, Nat.testBit_or, Nat.testBit_or, hq]; rfl)
          have h3 : (v ||| bit i) ||| (v ||| bit k) = v ||| bit k ||| bit i := by
            apply Nat.eq_of_testBit_eq; intro q; simp only [Nat.testBit_or]; cases v.testBit q <;> cases (bit i).testBit q <;> simp
          have h4 : rk L (v ||| bit k) ≤ rk L (v ||| bit k ||| bit i) := rk_mono hne (sub_or_left _ _)
          rw [h3] at h1
          omega
    have h5 := key m (Nat.le_refl _)
    rw [upM_all hu] at h5
    have h6 : s ||| u = u := by
      apply Nat.eq_of_testBit_eq; intro q
      rw [Nat.testBit_or]
      cases c : s.testBit q
      · simp
      · rw [hsu q c]; rfl
    rwa [h6] at h5

theorem toN_ne {l : List Int} (h : l ≠ []) : toN l ≠ [] := by
  intro e
  apply h
  cases l with
  | nil => rfl
  | cons a t => cases e

theorem rkM_of_mat {m : Nat} {l : List Int} (h : okM (m : Int) l) (hE : Exch (toN l)) : RkM m (rk (toN l)) := by
  have hm : m ≤ 8 := by have := h.1.2.1; omega
  exact rkM_of_sub hm (toN_ne h.2.1) (sub_of_exch hm (toN_ne h.2.1) h.fam8 hE)
end Go.Proofs.Ytmcffbmhkbijlaa
