
/-
  Sets as numbers: what bounds them, elements struck and added, one within another.
  Matroids, plainly: bases that can be exchanged for each other have ranks that grow slower and slower, and the other way round. No program in sight.
  Contracts over lists of numbers: IsFamily, Family (a rising list of sets), Index, Contains, Has, BinarySearch, has; of the law's own small helpers: Same, list, one, bad.
-/
import Derived.Test.YtmcffbmhkbijlaaPk01
import Derived.Test.YtmcffbmhkbijlaaPk02
namespace Go.Proofs.Ytmcffbmhkbijlaa
set_option linter.unusedVariables false

theorem or_lt_bit {m a b : Nat} (ha : a < bit m) (hb : b < bit m) : a ||| b < bit m := Nat.or_lt_two_pow ha hb
theorem and_lt_bit {m a : Nat} (b : Nat) (ha : a < bit m) : a &&& b < bit m := Nat.lt_of_le_of_lt Nat.and_le_left ha
theorem bit_lt_bit {m i : Nat} (h : i < m) : bit i < bit m := by
  unfold bit; exact Nat.pow_lt_pow_right (by decide) h
theorem lt_m_of_testBit {m s i : Nat} (hs : s < bit m) (h : s.testBit i = true) : i < m := by
  apply Classical.byContradiction
  intro hc
  have : s < 2 ^ i := Nat.lt_of_lt_of_le hs (by unfold bit; exact Nat.pow_le_pow_right (by decide) (by omega))
  rw [Nat.testBit_lt_two_pow this] at h
  cases h
theorem nand_bit_lt {t k : Nat} (ht : t < 256) (hk : k < 8) (h : t.testBit k = true) : nand t (bit k) < t := by
  rw [nand_bit t k ht hk h]
  have := bit_le_of_mem t k ht hk h
  have : 0 < bit k := by unfold bit; exact Nat.two_pow_pos k
  omega
theorem nand_testBit_bit (t k i : Nat) : (nand t (bit k)).testBit i = (t.testBit i && !decide (k = i)) := by rw [nand_testBit, testBit_bit]
theorem nand_or_bit {t k : Nat} (h : t.testBit k = true) : nand t (bit k) ||| bit k = t := by
  apply Nat.eq_of_testBit_eq
  intro i
  rw [Nat.testBit_or, nand_testBit_bit, testBit_bit]
  by_cases c : k = i
  · subst c; simp [h]
  · simp [c]
/-- within -/
def sub (s t : Nat) : Prop := ∀ i, s.testBit i = true → t.testBit i = true
theorem exists_diff {s t : Nat} (h : ¬ sub t s) : ∃ k, t.testBit k = true ∧ s.testBit k = false := by
  apply Classical.byContradiction
  intro hc
  apply h
  intro i hi
  cases hs : s.testBit i
  · exact absurd ⟨i, hi, hs⟩ hc
  · rfl
theorem sub_antisymm {s t : Nat} (h1 : sub s t) (h2 : sub t s) : s = t := by
  apply Nat.eq_of_testBit_eq
  intro i
  cases hs : s.testBit i <;> cases ht : t.testBit i
  · rfl
  · have := h2 i ht; rw [hs] at this; cases this
  · have := h1 i hs; rw [ht] at this; cases this
  · rfl

end Go.Proofs.Ytmcffbmhkbijlaa

namespace Go.Proofs.Ytmcffbmhkbijlaa
set_option linter.unusedVariables false

/-! ### sizes -/
def bsum (f : Nat → Nat) : Nat → Nat
  | 0 => 0
  | k + 1 => bsum f k + f k
theorem bsum_le {f g : Nat → Nat} {k : Nat} (h : ∀ i, i < k → f i ≤ g i) : bsum f k ≤ bsum g k := by
  induction k with
  | zero => exact Nat.le_refl _
  | succ k ih => have := ih (fun i hi => h i (by omega)); have := h k (by omega); simp only [bsum]; omega
theorem bsum_add (f g : Nat → Nat) (k : Nat) : bsum (fun i => f i + g i) k = bsum f k + bsum g k := by
  induction k with
  | zero => rfl
  | succ k ih => simp only [bsum]; rw [ih]; omega
theorem bsum_congr {f g : Nat → Nat} {k : Nat} (h : ∀ i, i < k → f i = g i) : bsum f k = bsum g k := by
  induction k with
  | zero => rfl
  | succ k ih => simp only [bsum]; rw [ih (fun i hi => h i (by omega)), h k (by omega)]
theorem elemsTo_sum (s k : Nat) : (elemsTo s k).length = bsum (fun i => (s.testBit i).toNat) k := by
  induction k with
  | zero => rfl
  | succ k ih =>
    rw [elemsTo_step]
    simp only [bsum]
    cases h : s.testBit k
    · simp [ih]
    · simp [ih]
theorem sz_sum (s : Nat) : sz s = bsum (fun i => (s.testBit i).toNat) 8 := elemsTo_sum s 8
theorem sz_mono {a b : Nat} (h : sub a b) : sz a ≤ sz b := by
  rw [sz_sum, sz_sum]
  refine bsum_le (fun i _ => ?_)
  have := h i
  cases ha : a.testBit i <;> cases hb : b.testBit i <;> simp_all
theorem sz_incl (a b : Nat) : sz (a ||| b) + sz (a &&& b) = sz a + sz b := by
  rw [sz_sum, sz_sum, sz_sum, sz_sum, ← bsum_add, ← bsum_add]
  refine bsum_congr (fun i _ => ?_)
  rw [Nat.testBit_or, Nat.testBit_and]
  cases a.testBit i <;> cases b.testBit i <;> rfl
theorem sz_diff (a b : Nat) : sz (nand a b) + sz (a &&& b) = sz a := by
  rw [sz_sum, sz_sum, sz_sum, ← bsum_add]
  refine bsum_congr (fun i _ => ?_)
  rw [nand_testBit, Nat.testBit_and]
  cases a.testBit i <;> cases b.testBit i <;> rfl
theorem sz_bit {i : Nat} (h : i < 8) : sz (bit i) = 1 := by
  have : ∀ i : Fin 8, sz (bit i.val) = 1 := by decide
  exact this ⟨i, h⟩
theorem sz_zero : sz 0 = 0 := by decide
theorem sz_add {a i : Nat} (hi : i < 8) (h : a.testBit i = false) : sz (a ||| bit i) = sz a + 1 := by
  have h1 := sz_incl a (bit i)
  have h2 : a &&& bit i = 0 := by
    rw [Nat.and_comm, and_eq_zero_iff]
    intro k hk
    rw [testBit_bit] at hk
    have : i = k := by simpa using hk
    rw [← this]; exact h
  rw [h2, sz_zero, sz_bit hi] at h1
  omega
theorem sz_add_le {a i : Nat} (hi : i < 8) : sz (a ||| bit i) ≤ sz a + 1 := by
  have h1 := sz_incl a (bit i)
  rw [sz_bit hi] at h1
  omega
theorem sz_less {a i : Nat} (hi : i < 8) (h : a.testBit i = true) : sz (nand a (bit i)) + 1 = sz a := by
  have h1 := sz_diff a (bit i)
  have h2 : a &&& bit i = bit i := by
    apply Nat.eq_of_testBit_eq
    intro k
    rw [Nat.testBit_and, testBit_bit]
    by_cases c : i = k
    · subst c; simp [h]
    · simp [c]
  rw [h2, sz_bit hi] at h1
  exact h1
theorem eq_of_sub_sz {a b : Nat} (ha : a < 256) (hb : b < 256) (h : sub a b) (hs : sz b ≤ sz a) : a = b := by
  refine eq_of_bits ha hb (fun i hi => ?_)
  cases h1 : a.testBit i
  · cases h2 : b.testBit i
    · rfl
    · have h3 : sub (a ||| bit i) b := fun k hk => by
        rw [Nat.testBit_or, testBit_bit] at hk
        by_cases c : i = k
        · subst c; exact h2
        · simp [c] at hk; exact h k hk
      have := sz_mono h3
      rw [sz_add hi h1] at this
      omega
  · exact (h i h1).symm
theorem sub_or_left (a b : Nat) : sub a (a ||| b) := fun i hi => by rw [Nat.testBit_or, hi]; rfl
theorem sub_and_left (a b : Nat) : sub (a &&& b) a := fun i hi => by rw [Nat.testBit_and] at hi; simp at hi; exact hi.1
theorem sub_and_right (a b : Nat) : sub (a &&& b) b := fun i hi => by rw [Nat.testBit_and] at hi; simp at hi; exact hi.2
theorem sub_trans {a b c : Nat} (h : sub a b) (k : sub b c) : sub a c := fun i hi => k i (h i hi)
theorem or_bit_testBit (a i k : Nat) : (a ||| bit i).testBit k = (a.testBit k || decide (i = k)) := by rw [Nat.testBit_or, testBit_bit]

/-! ### bases -/
def Exch (L : List Nat) : Prop := ∀ A, A ∈ L → ∀ B, B ∈ L → ∀ x, A.testBit x = true → B.testBit x = false → ∃ y, B.testBit y = true ∧ A.testBit y = false ∧ (nand A (bit x) ||| bit y) ∈ L
def Ind (L : List Nat) (s : Nat) : Prop := ∃ b, b ∈ L ∧ sub s b
structure Fam8 (L : List Nat) (r : Nat) : Prop where
  lt : ∀ b, b ∈ L → b < 256
  eq : ∀ b, b ∈ L → sz b = r

theorem augment {L : List Nat} {r : Nat} (hF : Fam8 L r) (hE : Exch L) {I J : Nat} (hlt : sz I < sz J) : ∀ d B1 B2, B1 ∈ L → B2 ∈ L → sub I B1 → sub J B2 → sz (nand B2 (J ||| B1)) = d → ∃ y, y < 8 ∧ J.testBit y = true ∧ I.testBit y = false ∧ Ind L (I ||| bit y) := by
  intro d
  induction d using Nat.strongRecOn with
  | ind d ih =>
  intro B1 B2 h1 h2 hI hJ hd
  by_cases hx : ∃ x, (nand B2 (J ||| B1)).testBit x = true
  · obtain ⟨x, hx⟩ := hx
    rw [nand_testBit, Nat.testBit_or] at hx
    simp at hx
    obtain ⟨hx2, hxJ, hx1⟩ := hx
    have hx8 := lt_of_testBit (hF.lt _ h2) hx2
    obtain ⟨y, hy1, hy2, hnew⟩ := hE B2 h2 B1 h1 x hx2 hx1
    have hsmall : sz (nand (nand B2 (bit x) ||| bit y) (J ||| B1)) + 1 = sz (nand B2 (J ||| B1)) := by
      have e : nand (nand B2 (bit x) ||| bit y) (J ||| B1) = nand (nand B2 (J ||| B1)) (bit x) := by
        apply Nat.eq_of_testBit_eq
        intro k
        rw [nand_testBit, or_bit_testBit, nand_testBit_bit, nand_testBit_bit, nand_testBit, Nat.testBit_or]
        by_cases c : y = k
        · subst c; simp [hy1, hy2]
        · simp [c]
          cases B2.testBit k <;> cases J.testBit k <;> cases B1.testBit k <;> simp
      rw [e]
      exact sz_less hx8 (by rw [nand_testBit, Nat.testBit_or, hx2, hxJ, hx1]; rfl)
    refine ih _ (by omega) B1 _ h1 hnew hI (fun k hk => ?_) rfl
    rw [or_bit_testBit, nand_testBit_bit, hJ k hk]
    have : x ≠ k := by rintro rfl; rw [hk] at hxJ; cases hxJ
    simp [this]
  · have hB2 : ∀ k, B2.testBit k = true → J.testBit k = true ∨ B1.testBit k = true := fun k hk => by
      cases hj : J.testBit k
      · cases hb : B1.testBit k
        · exact absurd ⟨k, by rw [nand_testBit, Nat.testBit_or, hk, hj, hb]; rfl⟩ hx
        · exact .inr rfl
      · exact .inl rfl
    by_cases hz : ∃ x, B1.testBit x = true ∧ I.testBit x = false ∧ B2.testBit x = false
    · obtain ⟨x, hx1, hxI, hx2⟩ := hz
      obtain ⟨y, hy2, hy1, hnew⟩ := hE B1 h1 B2 h2 x hx1 hx2
      refine ⟨y, lt_of_testBit (hF.lt _ h2) hy2, ?_, ?_, _, hnew, fun k hk => ?_⟩
      · rcases hB2 y hy2 with h | h
        · exact h
        · rw [h] at hy1; cases hy1
      · cases h : I.testBit y
        · rfl
        · rw [hI y h] at hy1; cases hy1
      · rw [or_bit_testBit] at hk ⊢
        rw [nand_testBit_bit]
        by_cases c : y = k
        · simp [c]
        · simp [c] at hk
          have : x ≠ k := by rintro rfl; rw [hk] at hxI; cases hxI
          simp [hI k hk, this]
    · have hB1 : ∀ k, B1.testBit k = true → B2.testBit k = false → I.testBit k = true := fun k h1k h2k => by
        cases h : I.testBit k
        · exact absurd ⟨k, h1k, h, h2k⟩ hz
        · rfl
      by_cases hy : ∃ y, J.testBit y = true ∧ I.testBit y = false ∧ B1.testBit y = true
      · obtain ⟨y, hyJ, hyI, hyB⟩ := hy
        refine ⟨y, lt_of_testBit (hF.lt _ h1) hyB, hyJ, hyI, B1, h1, fun k hk => ?_⟩
        rw [or_bit_testBit] at hk
        by_cases c : y = k
        · rw [← c]; exact hyB
        · simp [c] at hk; exact hI k hk
      · exfalso
        have s1 : sub (nand J I) (nand B2 B1) := fun k hk => by
          rw [nand_testBit] at hk ⊢
          simp at hk ⊢
          refine ⟨hJ k hk.1, ?_⟩
          cases h : B1.testBit k
          · rfl
          · exact absurd ⟨k, hk.1, hk.2, h⟩ hy
        have s2 : sub (nand B1 B2) (nand I J) := fun k hk => by
          rw [nand_testBit] at hk ⊢
          simp at hk ⊢
          refine ⟨hB1 k hk.1 hk.2, ?_⟩
          cases h : J.testBit k
          · rfl
          · rw [hJ k h] at hk; simp at hk
        have e1 := sz_mono s1
        have e2 := sz_mono s2
        have e3 := sz_diff B1 B2
        have e4 := sz_diff B2 B1
        have e5 := sz_diff I J
        have e6 := sz_diff J I
        have e7 := hF.eq _ h1
        have e8 := hF.eq _ h2
        rw [Nat.and_comm B2 B1] at e4
        rw [Nat.and_comm J I] at e6
        omega

/-! ### ranks -/
def rkTo (L : List Nat) (s : Nat) : Nat → Nat
  | 0 => 0
  | k + 1 => max (rkTo L s k) (sz (s &&& L.getD k 0))
def rk (L : List Nat) (s : Nat) : Nat := rkTo L s L.length
theorem rkTo_ge (L : List Nat) (s : Nat) {k i : Nat} (h : i < k) : sz (s &&& L.getD i 0) ≤ rkTo L s k := by
  induction k with
  | zero => omega
  | succ k ih =>
    simp only [rkTo]
    by_cases e : i = k
    · subst e; omega
    · have := ih (by omega); omega
theorem rkTo_at (L : List Nat) (s : Nat) (k : Nat) : rkTo L s k = 0 ∨ ∃ i, i < k ∧ rkTo L s k = sz (s &&& L.getD i 0) := by
  induction k with
  | zero => exact .inl rfl
  | succ k ih =>
    right
    by_cases c : rkTo L s k ≤ sz (s &&& L.getD k 0)
    · exact ⟨k, by omega, by simp only [rkTo]; omega⟩
    · rcases ih with h | ⟨i, hi, h⟩
      · omega
      · exact ⟨i, by omega, by simp only [rkTo]; omega⟩
theorem rk_ge {L : List Nat} {b : Nat} (s : Nat) (h : b ∈ L) : sz (s &&& b) ≤ rk L s := by
  obtain ⟨i, hi, e⟩ := List.getElem_of_mem h
  have := rkTo_ge L s hi
  have e2 : L.getD i 0 = b := by simp [hi, e]
  rw [e2] at this
  exact this
theorem rk_at {L : List Nat} (hne : L ≠ []) (s : Nat) : ∃ b, b ∈ L ∧ rk L s = sz (s &&& b) := by
  have h0 : 0 < L.length := by
    rcases Nat.eq_zero_or_pos L.length with h | h
    · exact absurd (List.length_eq_zero_iff.1 h) hne
    · exact h
  have mem : ∀ i, i < L.length → L.getD i 0 ∈ L := fun i hi => by simp [hi]
  rcases rkTo_at L s L.length with h | ⟨i, hi, h⟩
  · exact ⟨L.getD 0 0, mem 0 h0, by have := rk_ge s (mem 0 h0); unfold rk at *; omega⟩
  · exact ⟨_, mem i hi, h⟩
theorem rk_ind {L : List Nat} {I s : Nat} (hI : Ind L I) (hs : sub I s) : sz I ≤ rk L s := by
  obtain ⟨b, hb, h⟩ := hI
  have h1 := rk_ge s hb
  have h2 : sub I (s &&& b) := fun k hk => by rw [Nat.testBit_and, hs k hk, h k hk]; rfl
  have := sz_mono h2
  omega
theorem rk_le (L : List Nat) (s : Nat) : rk L s ≤ sz s := by
  rcases rkTo_at L s L.length with h | ⟨i, hi, h⟩
  · show rkTo L s L.length ≤ _; omega
  · show rkTo L s L.length ≤ _; rw [h]; exact sz_mono (sub_and_left _ _)
theorem rk_mono {L : List Nat} (hne : L ≠ []) {s t : Nat} (h : sub s t) : rk L s ≤ rk L t := by
  obtain ⟨b, hb, e⟩ := rk_at hne s
  rw [e]
  exact rk_ind ⟨b, hb, sub_and_right _ _⟩ (sub_trans (sub_and_left _ _) h)
theorem rk_step {L : List Nat} (hne : L ≠ []) (s i : Nat) (hi : i < 8) : rk L (s ||| bit i) ≤ rk L s + 1 := by
  obtain ⟨b, hb, e⟩ := rk_at hne (s ||| bit i)
  have h1 := rk_ge s hb
  have h2 : sub ((s ||| bit i) &&& b) ((s &&& b) ||| bit i) := fun k hk => by
    rw [Nat.testBit_and, or_bit_testBit] at hk
    rw [or_bit_testBit, Nat.testBit_and]
    cases hs : s.testBit k <;> cases hbk : b.testBit k <;> simp_all
  have h3 := sz_mono h2
  have h4 := sz_add_le (a := s &&& b) hi
  omega

/-- ranks that grow slower and slower, element by element -/
def SubM (m : Nat) (r : Nat → Nat) : Prop := ∀ s, s < bit m → ∀ i, i < m → ∀ k, k < m → r ((s ||| bit i) ||| (s ||| bit k)) + r ((s ||| bit i) &&& (s ||| bit k)) ≤ r (s ||| bit i) + r (s ||| bit k)
theorem or_same {s i : Nat} (h : s.testBit i = true) : s ||| bit i = s := by
  apply Nat.eq_of_testBit_eq
  intro k
  rw [or_bit_testBit]
  by_cases c : i = k
  · subst c; simp [h]
  · simp [c]
theorem sub_of_exch {L : List Nat} {r m : Nat} (hm : m ≤ 8) (hne : L ≠ []) (hF : Fam8 L r) (hE : Exch L) : SubM m (rk L) := by
  intro s hs i hi k hk
  by_cases hsi : s.testBit i = true
  · rw [or_same hsi]
    have e1 : s ||| (s ||| bit k) = s ||| bit k := by
      apply Nat.eq_of_testBit_eq; intro q; simp only [Nat.testBit_or]; cases s.testBit q <;> simp
    have e2 : s &&& (s ||| bit k) = s := by
      apply Nat.eq_of_testBit_eq; intro q; simp only [Nat.testBit_or, Nat.testBit_and]; cases s.testBit q <;> simp
    rw [e1, e2]; omega
  by_cases hsk : s.testBit k = true
  · rw [or_same hsk]
    have e1 : (s ||| bit i) ||| s = s ||| bit i := by
      apply Nat.eq_of_testBit_eq; intro q; simp only [Nat.testBit_or]; cases s.testBit q <;> simp
    have e2 : (s ||| bit i) &&& s = s := by
      apply Nat.eq_of_testBit_eq; intro q; simp only [Nat.testBit_or, Nat.testBit_and]; cases s.testBit q <;> simp
    rw [e1, e2]; omega
  by_cases hik : i = k
  · subst hik
    rw [Nat.or_self, Nat.and_self]; omega
  have e1 : (s ||| bit i) ||| (s ||| bit k) = (s ||| bit i) ||| bit k := by
    apply Nat.eq_of_testBit_eq; intro q; simp only [Nat.testBit_or]; cases s.testBit q <;> cases (bit i).testBit q <;> simp
  have e2 : (s ||| bit i) &&& (s ||| bit k) = s := by
    apply Nat.eq_of_testBit_eq
    intro q
    rw [Nat.testBit_and, or_bit_testBit, or_bit_testBit]
    by_cases c1 : i = q
    · have : ¬ k = q := by omega
      simp [this]
      intro h; exact .inl h
    · simp [c1]
      cases s.testBit q <;> simp
  rw [e1, e2]
  have a1 := rk_step hne (s ||| bit i) k (by omega)
  have a2 := rk_step hne (s ||| bit k) i (by omega)
  have e3 : (s ||| bit k) ||| bit i = (s ||| bit i) ||| bit k := by
    apply Nat.eq_of_testBit_eq; intro q; simp only [Nat.testBit_or]; cases s.testBit q <;> cases (bit i).testBit q <;> simp
  rw [e3] at a2
  have a3 := rk_mono hne (sub_or_left s (bit i))
  have a4 := rk_mono hne (sub_or_left s (bit k))
  rcases Nat.lt_or_ge (rk L ((s ||| bit i) ||| bit k) + rk L s) (rk L (s ||| bit i) + rk L (s ||| bit k) + 1) with h | h
  · omega
  · exfalso
    have b1 : rk L (s ||| bit i) = rk L s := by omega
    have b2 : rk L (s ||| bit k) = rk L s := by omega
    obtain ⟨B1, h1, r1⟩ := rk_at hne s
    obtain ⟨B2, h2, r2⟩ := rk_at hne ((s ||| bit i) ||| bit k)
    have hsz : sz (s &&& B1) < sz (((s ||| bit i) ||| bit k) &&& B2) := by omega
    obtain ⟨y, hy8, hyJ, hyI, hind⟩ := augment hF hE hsz _ B1 B2 h1 h2 (sub_and_right _ _) (sub_and_right _ _) rfl
    have hsize := sz_add hy8 hyI
    rw [Nat.testBit_and, or_bit_testBit, or_bit_testBit] at hyJ
    by_cases c0 : s.testBit y = true
    · have := rk_ind (s := s) hind (fun q hq => by
        rw [or_bit_testBit] at hq
        by_cases c : y = q
        · rw [← c]; exact c0
        · simp [c] at hq; exact hq.1)
      omega
    · by_cases c1 : i = y
      · have := rk_ind (s := s ||| bit i) hind (fun q hq => by
          rw [or_bit_testBit] at hq ⊢
          by_cases c : y = q
          · simp [c1, c]
          · simp [c] at hq; simp [hq.1])
        omega
      · by_cases c2 : k = y
        · have := rk_ind (s := s ||| bit k) hind (fun q hq => by
            rw [or_bit_testBit] at hq ⊢
            by_cases c : y = q
            · simp [c2, c]
            · simp [c] at hq; simp [hq.1])
          omega
        · simp [c0, c1, c2] at hyJ

/-- the first k elements of a set -/
def cutTo (B k : Nat) : Nat := B &&& (bit k - 1)
theorem cutTo_testBit (B k i : Nat) : (cutTo B k).testBit i = (B.testBit i && decide (i < k)) := by unfold cutTo; rw [Nat.testBit_and, testBit_all]
theorem exch_of_sub {L : List Nat} {r m : Nat} (hm : m ≤ 8) (hF : Fam8 L r) (hlt : ∀ b, b ∈ L → b < bit m) (hS : SubM m (rk L)) : Exch L := by
  intro A hA B hB x hxA hxB
  apply Classical.byContradiction
  intro hno
  have hne : L ≠ [] := by rintro rfl; cases hA
  have hx8 := lt_of_testBit (hF.lt _ hA) hxA
  have hsA := sz_less hx8 hxA
  have hA8 := hF.lt _ hA
  have hB8 := hF.lt _ hB
  have hs0 : nand A (bit x) < 256 := nand_lt _ _ 8 hA8
  have hr0 : rk L (nand A (bit x)) + 1 = sz A := by
    have h1 := rk_ind (L := L) (I := nand A (bit x)) (s := nand A (bit x)) ⟨A, hA, fun k hk => by rw [nand_testBit] at hk; simp at hk; exact hk.1⟩ (fun _ h => h)
    have h2 := rk_le L (nand A (bit x))
    omega
  have base : ∀ y, B.testBit y = true → rk L (nand A (bit x) ||| bit y) = rk L (nand A (bit x)) := fun y hy => by
    have hy8 := lt_of_testBit hB8 hy
    cases hAy : A.testBit y
    · have hsy : (nand A (bit x)).testBit y = false := by rw [nand_testBit_bit, hAy]; rfl
      have h1 := rk_step hne (nand A (bit x)) y hy8
      have h2 := rk_mono hne (sub_or_left (nand A (bit x)) (bit y))
      rcases Nat.lt_or_ge (rk L (nand A (bit x))) (rk L (nand A (bit x) ||| bit y)) with h | h
      · exfalso
        obtain ⟨b, hb, e⟩ := rk_at hne (nand A (bit x) ||| bit y)
        have hsz := sz_add hy8 hsy
        have hsb := hF.eq _ hb
        have hsa := hF.eq _ hA
        have hlt1 : nand A (bit x) ||| bit y < 256 := or_lt _ _ hs0 (bit_lt256 y hy8)
        have e1 : (nand A (bit x) ||| bit y) &&& b = nand A (bit x) ||| bit y := eq_of_sub_sz (Nat.lt_of_le_of_lt Nat.and_le_left hlt1) hlt1 (sub_and_left _ _) (by omega)
        have e2 : (nand A (bit x) ||| bit y) &&& b = b := eq_of_sub_sz (Nat.lt_of_le_of_lt Nat.and_le_left hlt1) (hF.lt _ hb) (sub_and_right _ _) (by omega)
        rw [e1] at e2
        exact hno ⟨y, hy, hAy, by rw [e2]; exact hb⟩
      · omega
    · have : x ≠ y := by rintro rfl; rw [hy] at hxB; cases hxB
      rw [or_same (by rw [nand_testBit_bit, hAy]; simp [this])]
  have key : ∀ k, k ≤ 8 → rk L (nand A (bit x) ||| cutTo B k) = rk L (nand A (bit x)) ∧ ∀ y, B.testBit y = true → rk L ((nand A (bit x) ||| cutTo B k) ||| bit y) = rk L (nand A (bit x)) := by
    intro k
    induction k with
    | zero =>
      intro _
      have e : nand A (bit x) ||| cutTo B 0 = nand A (bit x) := by
        apply Nat.eq_of_testBit_eq; intro q; rw [Nat.testBit_or, cutTo_testBit]; simp
      rw [e]
      exact ⟨rfl, base⟩
    | succ k ih =>
      intro hk
      obtain ⟨h1, h2⟩ := ih (by omega)
      by_cases hBk : B.testBit k = true
      · have e : nand A (bit x) ||| cutTo B (k+1) = (nand A (bit x) ||| cutTo B k) ||| bit k := by
          apply Nat.eq_of_testBit_eq
          intro q
          rw [or_bit_testBit, Nat.testBit_or, Nat.testBit_or, cutTo_testBit, cutTo_testBit]
          by_cases c : k = q
          · subst c; simp [hBk]
          · have : (q < k + 1) = (q < k) := by simp; omega
            simp [c, this]
        rw [e]
        refine ⟨h2 k hBk, fun y hy => ?_⟩
        generalize ht : nand A (bit x) ||| cutTo B k = t at *
        have hkm : k < m := lt_m_of_testBit (hlt _ hB) hBk
        have hym : y < m := lt_m_of_testBit (hlt _ hB) hy
        have htl : t < bit m := by
          rw [← ht]
          refine or_lt_bit (nand_lt _ _ m (hlt _ hA)) ?_
          unfold cutTo
          exact and_lt_bit _ (hlt _ hB)
        have hsub := hS t htl k hkm y hym
        have e3 : (t ||| bit k) ||| (t ||| bit y) = (t ||| bit k) ||| bit y := by
          apply Nat.eq_of_testBit_eq; intro q; simp only [Nat.testBit_or]; cases t.testBit q <;> cases (bit k).testBit q <;> simp
        rw [e3, h2 k hBk, h2 y hy] at hsub
        have h3 : rk L t ≤ rk L ((t ||| bit k) &&& (t ||| bit y)) := rk_mono hne (fun q hq => by rw [Nat.testBit_and, Nat.testBit_or, Nat.testBit_or, hq]; rfl)
        have h4 : rk L t ≤ rk L ((t ||| bit k) ||| bit y) := rk_mono hne (sub_trans (sub_or_left _ _) (sub_or_left _ _))
        omega
      · have e : nand A (bit x) ||| cutTo B (k+1) = nand A (bit x) ||| cutTo B k := by
          apply Nat.eq_of_testBit_eq
          intro q
          rw [Nat.testBit_or, Nat.testBit_or, cutTo_testBit, cutTo_testBit]
          by_cases c : k = q
          · subst c; simp [hBk]
          · have : (q < k + 1) = (q < k) := by simp; omega
            simp [this]
        rw [e]
        exact ⟨h1, h2⟩
  obtain ⟨hend, _⟩ := key 8 (Nat.le_refl _)
  have hind := rk_ind (L := L) (I := B) (s := nand A (bit x) ||| cutTo B 8) ⟨B, hB, fun _ h => h⟩ (fun q hq => by
    rw [Nat.testBit_or, cutTo_testBit, hq]
    have := lt_of_testBit hB8 hq
    simp [this])
  have hsa := hF.eq _ hA
  have hsb := hF.eq _ hB
  omega
theorem exch_iff {L : List Nat} {r m : Nat} (hm : m ≤ 8) (hne : L ≠ []) (hF : Fam8 L r) (hlt : ∀ b, b ∈ L → b < bit m) : Exch L ↔ SubM m (rk L) := ⟨sub_of_exch hm hne hF, exch_of_sub hm hF hlt⟩

end Go.Proofs.Ytmcffbmhkbijlaa

namespace Go.Proofs.Ytmcffbmhkbijlaa
open Go.RowKit
set_option linter.unusedVariables false

def famTo (n : Int) (l : List Int) (k : Nat) : Prop := ∀ i, i < k → 0 ≤ l.getD i 0 ∧ l.getD i 0 ≤ all n ∧ (0 < i → l.getD (i-1) 0 < l.getD i 0)
instance (n l k) : Decidable (famTo n l k) := by unfold famTo; infer_instance
/-- a family: sets of n elements, rising -/
def isFam (n : Int) (l : List Int) : Prop := 0 ≤ n ∧ n ≤ 8 ∧ famTo n l l.length
instance (n l) : Decidable (isFam n l) := by unfold isFam; infer_instance
theorem famTo_step {n l k} (h : famTo n l k) (h0 : 0 ≤ l.getD k 0) (h1 : l.getD k 0 ≤ all n) (h2 : 0 < k → l.getD (k-1) 0 < l.getD k 0) : famTo n l (k+1) := by
  intro i hi
  by_cases e : i = k
  · subst e; exact ⟨h0, h1, h2⟩
  · exact h i (by omega)

set_option maxHeartbeats 1000000 in
theorem c_isFamily {B : Nat} {W : World} (u : Later B W) (n : Int) (l : List Int) (a : Option Addr) (cap : Nat) (h : IntsAt B W a l) (hlen : l.length ≤ 9223372036854775807) :
    Calls Try.prog 5 #[.int .i64 n, .slice a l.length cap] u.val (Ret B W (.bool (decide (isFam n l)))) := by
  have HI := Lib.hid h; clear h
  rcases ilt n 0 with ⟨h0, e0⟩ | ⟨h0, e0⟩
  · go_enter Try.func5, Try.ntmps5
    go_wp2
    go_ret
    exact Ret.mk u (vbool (dec_false (fun h => by have := h.1; omega)))
  rcases ilt 8 n with ⟨h8, e8⟩ | ⟨h8, e8⟩
  · go_enter Try.func5, Try.ntmps5
    go_wp2
    go_ret
    exact Ret.mk u (vbool (dec_false (fun h => by have := h.2.1; omega)))
  go_enter Try.func5, Try.ntmps5
  go_wp2
  go_loopw [5] (fun i wr => ∃ (k : Nat) (u : Later B W), k ≤ l.length ∧ i = .int .i64 k ∧ wr = u.val ∧ Hid (famTo n l k)) (fun i _ => l.length - (intOf i).toNat)
  case atStart => exact ⟨0, u, by omega, rfl, rfl, by intro i hi; omega⟩
  case round =>
    obtain ⟨k, u, hk, rfl, rfl, hf⟩ := hrel
    by_cases hlt : k < l.length
    · obtain ⟨b, off, rfl, hb, hc⟩ := HI.out.at hlt
      have c0 : ∀ u : Later B W, u.val.cell? ⟨b, off + k, none⟩ = some (.int .i64 (l.getD k 0)) := fun u => hc u k hlt
      have c1 : 0 < k → ∀ u : Later B W, u.val.cell? ⟨b, off + (k - 1), none⟩ = some (.int .i64 (l.getD (k-1) 0)) := fun _ u => hc u (k-1) (by omega)
      have hst := @famTo_step n l k hf.out
      have hno : famTo n l l.length → _ := fun h => h k hlt
      generalize l.getD k 0 = x at *
      generalize l.getD (k-1) 0 = y at *
      have H1 := Lib.hid hst; have H2 := Lib.hid hno
      clear hc hst hno hf
      have HA := Lib.hid (fun u : Later B W => c_all u n h0 h8)
      rcases ilt x 0 with ⟨g1, d1⟩ | ⟨g1, d1⟩ <;> rcases ilt (all n) x with ⟨g2, d2⟩ | ⟨g2, d2⟩ <;> rcases nlt 0 k with ⟨g3, d3⟩ | ⟨g3, d3⟩ <;> rcases ile x y with ⟨g4, d4⟩ | ⟨g4, d4⟩
      all_goals
        go_wp2
        refine wp_region_later u (by kernel_rfl) (by kernel_rfl) (fun _ => ?_)
        repeat (first | go_big_quiet_step (((go_at_call 17; exact HA.out _))) | (refine wpQuiet_step (fun K hK => ?_); go_simp; refine ⟨_, fun _ => rfl, ?_⟩; refine hK _ ?_; clear hK K))
        refine wpQuiet_nil ?_
        intro u
        go_wp2
        first
        | (go_ret
           exact Ret.mk u (vbool (dec_false (fun h => by have := H2.out h.2.2; omega))))
        | (go_roundw
           case rel => exact ⟨k+1, u, by omega, by go_num, rfl, H1.out (by omega) (by omega) (by omega)⟩
           case measure => simp [intOf]; omega)
    · go_wp2
      go_ret
      have hf' := hf.out
      rw [show k = l.length by omega] at hf'
      exact Ret.mk u (vbool (dec_true ⟨by omega, by omega, hf'⟩))

set_option maxHeartbeats 1000000 in
theorem c_family {B : Nat} {W : World} (u : Later B W) (n : Int) (l : List Int) (a : Option Addr) (cap : Nat) (h : IntsAt B W a l) (hlen : l.length ≤ 9223372036854775807) :
    Calls Try.prog 18 #[.int .i64 n, .slice a l.length cap] u.val (Ret B W (.int .i64 (errno (decide (isFam n l)) 1))) := by
  have HI := Lib.hid h; clear h
  rcases ilt n 0 with ⟨h0, e0⟩ | ⟨h0, e0⟩
  · go_enter Try.func18, Try.ntmps18
    go_wp2
    go_ret
    exact Ret.mk u (vint (errno_bad (fun h => by have := h.1; omega)))
  rcases ilt 8 n with ⟨h8, e8⟩ | ⟨h8, e8⟩
  · go_enter Try.func18, Try.ntmps18
    go_wp2
    go_ret
    exact Ret.mk u (vint (errno_bad (fun h => by have := h.2.1; omega)))
  obtain ⟨m, rfl⟩ := Int.eq_ofNat_of_zero_le h0
  have hb := bit_le m (by omega)
  have hc := bit_cast m
  have hall : all (m : Int) = (bit m : Int) - 1 := by rw [all_nat]; omega
  have HA := Lib.hid hall; clear hall
  go_enter Try.func18, Try.ntmps18
  go_wp2
  go_loopw [15] (fun i wr => ∃ (k : Nat) (u : Later B W), k ≤ l.length ∧ i = .int .i64 k ∧ wr = u.val ∧ Hid (famTo m l k)) (fun i _ => l.length - (intOf i).toNat)
  case atStart => exact ⟨0, u, by omega, rfl, rfl, by intro i hi; omega⟩
  case round =>
    obtain ⟨k, u, hk, rfl, rfl, hf⟩ := hrel
    by_cases hlt : k < l.length
    · obtain ⟨b, off, rfl, hb, hc⟩ := HI.out.at hlt
      have c0 : u.val.cell? ⟨b, off + k, none⟩ = some (.int .i64 (l.getD k 0)) := hc u k hlt
      have c1 : 0 < k → u.val.cell? ⟨b, off + (k - 1), none⟩ = some (.int .i64 (l.getD (k-1) 0)) := fun _ => hc u (k-1) (by omega)
      have hst := @famTo_step m l k hf.out
      have hno : famTo m l l.length → _ := fun h => h k hlt
      rw [HA.out] at hst hno
      generalize l.getD k 0 = x at *
      generalize l.getD (k-1) 0 = y at *
      have H1 := Lib.hid hst; have H2 := Lib.hid hno
      clear hc hst hno hf
      rcases ilt x 0 with ⟨g1, d1⟩ | ⟨g1, d1⟩ <;> rcases ile (bit m) x with ⟨g2, d2⟩ | ⟨g2, d2⟩ <;> rcases nlt 0 k with ⟨g3, d3⟩ | ⟨g3, d3⟩ <;> rcases ile x y with ⟨g4, d4⟩ | ⟨g4, d4⟩
      all_goals
        go_wp2
        first
        | (go_ret
           exact Ret.mk u (vint (errno_bad (fun h => by have := H2.out h.2.2; omega))))
        | (go_roundw
           case rel => exact ⟨k+1, u, by omega, by go_num, rfl, H1.out (by omega) (by omega) (by omega)⟩
           case measure => simp [intOf]; omega)
    · go_wp2
      go_ret
      have hf' := hf.out
      rw [show k = l.length by omega] at hf'
      exact Ret.mk u (vint (errno_ok ⟨by omega, by omega, hf'⟩))

/-- the place of a number in a list; -1: it is not there -/
def idx (l : List Int) (v : Int) : Int := if v ∈ l then (l.idxOf v : Int) else -1
theorem idx_not {l : List Int} {v : Int} (h : ∀ i, i < l.length → l.getD i 0 ≠ v) : idx l v = -1 := by
  unfold idx
  rw [if_neg]
  intro hm
  obtain ⟨i, hi, rfl⟩ := List.getElem_of_mem hm
  exact h i hi (by simp [hi])
theorem idx_at {l : List Int} {v : Int} {k : Nat} (hk : k < l.length) (he : l.getD k 0 = v) (h : ∀ i, i < k → l.getD i 0 ≠ v) : idx l v = k := by
  have hm : v ∈ l := by rw [← he]; simp [hk]
  have hlt : l.idxOf v < l.length := List.idxOf_lt_length_of_mem hm
  have hg : l[l.idxOf v] = v := List.getElem_idxOf hlt
  have hkk : l[k] = v := by simpa [hk] using he
  unfold idx
  rw [if_pos hm]
  have h1 : ¬ l.idxOf v < k := fun hh => h _ hh (by simp [hlt, hg])
  have h2 : ¬ k < l.idxOf v := fun hh => by
    have := List.not_of_lt_findIdx (p := (· == v)) (xs := l) hh
    simp [hkk] at this
  omega
theorem idx_nonneg {l : List Int} {v : Int} : 0 ≤ idx l v ↔ v ∈ l := by
  unfold idx; split <;> simp_all

set_option maxHeartbeats 1000000 in
theorem c_index {B : Nat} {W : World} (u : Later B W) (l : List Int) (v : Int) (a : Option Addr) (cap : Nat) (h : IntsAt B W a l) (hlen : l.length ≤ 9223372036854775807) :
    Calls Try.prog 68 #[.slice a l.length cap, .int .i64 v] u.val (Ret B W (.int .i64 (idx l v))) := by
  have HI := Lib.hid h; clear h
  go_enter Try.func68, Try.ntmps68
  go_wp2
  go_loopw [8] (fun i wr => ∃ (k : Nat) (u : Later B W), k ≤ l.length ∧ i = .int .i64 k ∧ wr = u.val ∧ Hid (∀ j, j < k → l.getD j 0 ≠ v)) (fun i _ => l.length - (intOf i).toNat)
  case atStart => exact ⟨0, u, by omega, rfl, rfl, by intro i hi; omega⟩
  case round =>
    obtain ⟨k, u, hk, rfl, rfl, hf⟩ := hrel
    by_cases hlt : k < l.length
    · obtain ⟨b, off, rfl, hb, hc⟩ := HI.out.at hlt
      have c0 : u.val.cell? ⟨b, off + k, none⟩ = some (.int .i64 (l.getD k 0)) := hc u k hlt
      have H1 := Lib.hid (fun he => idx_at hlt he hf.out)
      have H2 : Hid (l.getD k 0 ≠ v → ∀ j, j < k + 1 → l.getD j 0 ≠ v) := fun hne j hj => by
        by_cases e : j = k
        · rw [e]; exact hne
        · exact hf.out j (by omega)
      generalize l.getD k 0 = x at *
      clear hc hf
      rcases ieq v x with ⟨g1, d1, _⟩ | ⟨g1, d1, _⟩
      · subst g1
        go_wp2
        go_ret
        exact Ret.mk u (vint (H1.out (by trivial)).symm)
      · go_wp2
        go_roundw
        case rel => exact ⟨k+1, u, by omega, by go_num, rfl, H2.out (Ne.symm g1)⟩
        case measure => simp [intOf]; omega
    · go_wp2
      go_ret
      have hf' := hf.out
      rw [show k = l.length by omega] at hf'
      exact Ret.mk u (vint (idx_not hf').symm)

set_option maxHeartbeats 400000 in
theorem c_contains {B : Nat} {W : World} (u : Later B W) (l : List Int) (v : Int) (a : Option Addr) (cap : Nat) (h : IntsAt B W a l) (hlen : l.length ≤ 9223372036854775807) :
    Calls Try.prog 60 #[.slice a l.length cap, .int .i64 v] u.val (Ret B W (.bool (decide (v ∈ l)))) := by
  have H := Lib.hid (c_index u l v a cap h hlen); clear h
  go_enter Try.func60, Try.ntmps60
  go_wp2_with (go_at_call 68; refine H.out.mono ?_; rintro e _ ⟨rfl, v, rfl⟩)
  go_ret
  exact Ret.mk _ (vbool (by simp only [idx_nonneg]))

set_option maxHeartbeats 400000 in
theorem c_has {B : Nat} {W : World} (u : Later B W) (l : List Int) (v : Int) (a : Option Addr) (cap : Nat) (h : IntsAt B W a l) (hlen : l.length ≤ 9223372036854775807) :
    Calls Try.prog 35 #[.slice a l.length cap, .int .i64 v] u.val (Ret B W (.bool (decide (v ∈ l)))) := by
  have H := Lib.hid (c_contains u l v a cap h hlen); clear h
  go_enter Try.func35, Try.ntmps35
  go_wp2_with (go_at_call 60; refine H.out.mono ?_; rintro e _ ⟨rfl, v, rfl⟩)
  go_ret
  exact Ret.mk _ rfl

end Go.Proofs.Ytmcffbmhkbijlaa
