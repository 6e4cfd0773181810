
/-
  Sets as numbers: what bounds them, elements struck and added, one within another.
  Matroids, plainly: bases that can be exchanged for each other have ranks that grow slower and slower, and the other way round. No program in sight.
  Elements that stand for sets, the first such list, plainly. No program in sight.
-/
import Derived.Test.YtdcdhdlklppalaaPk01
import Derived.Test.YtdcdhdlklppalaaPk02
namespace Go.Proofs.Ytdcdhdlklppalaa
set_option linter.unusedVariables false

theorem or_lt_bit {m a b : Nat} (ha : a < bit m) (hb : b < bit m) : a ||| b < bit m := Nat.or_lt_two_pow ha hb
theorem and_lt_bit {m a : Nat} (b : Nat) (ha : a < bit m) : a &&& b < bit m := Nat.lt_of_le_of_lt Nat.and_le_left ha
theorem bit_lt_bit {m i : Nat} (h : i < m) : bit i < bit m := by
  unfold bit; exact Nat.pow_lt_pow_right (by decide) h
theorem lt_m_of_testBit {m s i : Nat} (hs : s < bit m) (h : s.testBit i = true) : i < m := by
  apply Classical.byContradiction
  intro hc
  have : s < 2 ^ i := Nat.lt_of_lt_of_le hs (by unfold bit; exact Nat.pow_le_pow_right (by decide) (by omega))
  rw [Nat.testBit_lt_two_pow this] at h
  cases h
theorem nand_bit_lt {t k : Nat} (ht : t < 256) (hk : k < 8) (h : t.testBit k = true) : nand t (bit k) < t := by
  rw [nand_bit t k ht hk h]
  have := bit_le_of_mem t k ht hk h
  have : 0 < bit k := by unfold bit; exact Nat.two_pow_pos k
  omega
theorem nand_testBit_bit (t k i : Nat) : (nand t (bit k)).testBit i = (t.testBit i && !decide (k = i)) := by rw [nand_testBit, testBit_bit]
theorem nand_or_bit {t k : Nat} (h : t.testBit k = true) : nand t (bit k) ||| bit k = t := by
  apply Nat.eq_of_testBit_eq
  intro i
  rw [Nat.testBit_or, nand_testBit_bit, testBit_bit]
  by_cases c : k = i
  · subst c; simp [h]
  · simp [c]
/-- within -/
def sub (s t : Nat) : Prop := ∀ i, s.testBit i = true → t.testBit i = true
theorem exists_diff {s t : Nat} (h : ¬ sub t s) : ∃ k, t.testBit k = true ∧ s.testBit k = false := by
  apply Classical.byContradiction
  intro hc
  apply h
  intro i hi
  cases hs : s.testBit i
  · exact absurd ⟨i, hi, hs⟩ hc
  · rfl
theorem sub_antisymm {s t : Nat} (h1 : sub s t) (h2 : sub t s) : s = t := by
  apply Nat.eq_of_testBit_eq
  intro i
  cases hs : s.testBit i <;> cases ht : t.testBit i
  · rfl
  · have := h2 i ht; rw [hs] at this; cases this
  · have := h1 i hs; rw [ht] at this; cases this
  · rfl

end Go.Proofs.Ytdcdhdlklppalaa

namespace Go.Proofs.Ytdcdhdlklppalaa
set_option linter.unusedVariables false

/-! ### sizes -/
def bsum (f : Nat → Nat) : Nat → Nat
  | 0 => 0
  | k + 1 => bsum f k + f k
theorem bsum_le {f g : Nat → Nat} {k : Nat} (h : ∀ i, i < k → f i ≤ g i) : bsum f k ≤ bsum g k := by
  induction k with
  | zero => exact Nat.le_refl _
  | succ k ih => have := ih (fun i hi => h i (by omega)); have := h k (by omega); simp only [bsum]; omega
theorem bsum_add (f g : Nat → Nat) (k : Nat) : bsum (fun i => f i + g i) k = bsum f k + bsum g k := by
  induction k with
  | zero => rfl
  | succ k ih => simp only [bsum]; rw [ih]; omega
theorem bsum_congr {f g : Nat → Nat} {k : Nat} (h : ∀ i, i < k → f i = g i) : bsum f k = bsum g k := by
  induction k with
  | zero => rfl
  | succ k ih => simp only [bsum]; rw [ih (fun i hi => h i (by omega)), h k (by omega)]
theorem elemsTo_sum (s k : Nat) : (elemsTo s k).length = bsum (fun i => (s.testBit i).toNat) k := by
  induction k with
  | zero => rfl
  | succ k ih =>
    rw [elemsTo_step]
    simp only [bsum]
    cases h : s.testBit k
    · simp [ih]
    · simp [ih]
theorem sz_sum (s : Nat) : sz s = bsum (fun i => (s.testBit i).toNat) 8 := elemsTo_sum s 8
theorem sz_mono {a b : Nat} (h : sub a b) : sz a ≤ sz b := by
  rw [sz_sum, sz_sum]
  refine bsum_le (fun i _ => ?_)
  have := h i
  cases ha : a.testBit i <;> cases hb : b.testBit i <;> simp_all
theorem sz_incl (a b : Nat) : sz (a ||| b) + sz (a &&& b) = sz a + sz b := by
  rw [sz_sum, sz_sum, sz_sum, sz_sum, ← bsum_add, ← bsum_add]
  refine bsum_congr (fun i _ => ?_)
  rw [Nat.testBit_or, Nat.testBit_and]
  cases a.testBit i <;> cases b.testBit i <;> rfl
theorem sz_diff (a b : Nat) : sz (nand a b) + sz (a &&& b) = sz a := by
  rw [sz_sum, sz_sum, sz_sum, ← bsum_add]
  refine bsum_congr (fun i _ => ?_)
  rw [nand_testBit, Nat.testBit_and]
  cases a.testBit i <;> cases b.testBit i <;> rfl
theorem sz_bit {i : Nat} (h : i < 8) : sz (bit i) = 1 := by
  have : ∀ i : Fin 8, sz (bit i.val) = 1 := by decide
  exact this ⟨i, h⟩
theorem sz_zero : sz 0 = 0 := by decide
theorem sz_add {a i : Nat} (hi : i < 8) (h : a.testBit i = false) : sz (a ||| bit i) = sz a + 1 := by
  have h1 := sz_incl a (bit i)
  have h2 : a &&& bit i = 0 := by
    rw [Nat.and_comm, and_eq_zero_iff]
    intro k hk
    rw [testBit_bit] at hk
    have : i = k := by simpa using hk
    rw [← this]; exact h
  rw [h2, sz_zero, sz_bit hi] at h1
  omega
theorem sz_add_le {a i : Nat} (hi : i < 8) : sz (a ||| bit i) ≤ sz a + 1 := by
  have h1 := sz_incl a (bit i)
  rw [sz_bit hi] at h1
  omega
theorem sz_less {a i : Nat} (hi : i < 8) (h : a.testBit i = true) : sz (nand a (bit i)) + 1 = sz a := by
  have h1 := sz_diff a (bit i)
  have h2 : a &&& bit i = bit i := by
    apply Nat.eq_of_testBit_eq
    intro k
    rw [Nat.testBit_and, testBit_bit]
    by_cases c : i = k
    · subst c; simp [h]
    · simp [c]
  rw [h2, sz_bit hi] at h1
  exact h1
theorem eq_of_sub_sz {a b : Nat} (ha : a < 256) (hb : b < 256) (h : sub a b) (hs : sz b ≤ sz a) : a = b := by
  refine eq_of_bits ha hb (fun i hi => ?_)
  cases h1 : a.testBit i
  · cases h2 : b.testBit i
    · rfl
    · have h3 : sub (a ||| bit i) b := fun k hk => by
        rw [Nat.testBit_or, testBit_bit] at hk
        by_cases c : i = k
        · subst c; exact h2
        · simp [c] at hk; exact h k hk
      have := sz_mono h3
      rw [sz_add hi h1] at this
      omega
  · exact (h i h1).symm
theorem sub_or_left (a b : Nat) : sub a (a ||| b) := fun i hi => by rw [Nat.testBit_or, hi]; rfl
theorem sub_and_left (a b : Nat) : sub (a &&& b) a := fun i hi => by rw [Nat.testBit_and] at hi; simp at hi; exact hi.1
theorem sub_and_right (a b : Nat) : sub (a &&& b) b := fun i hi => by rw [Nat.testBit_and] at hi; simp at hi; exact hi.2
theorem sub_trans {a b c : Nat} (h : sub a b) (k : sub b c) : sub a c := fun i hi => k i (h i hi)
theorem or_bit_testBit (a i k : Nat) : (a ||| bit i).testBit k = (a.testBit k || decide (i = k)) := by rw [Nat.testBit_or, testBit_bit]

/-! ### bases -/
def Exch (L : List Nat) : Prop := ∀ A, A ∈ L → ∀ B, B ∈ L → ∀ x, A.testBit x = true → B.testBit x = false → ∃ y, B.testBit y = true ∧ A.testBit y = false ∧ (nand A (bit x) ||| bit y) ∈ L
def Ind (L : List Nat) (s : Nat) : Prop := ∃ b, b ∈ L ∧ sub s b
structure Fam8 (L : List Nat) (r : Nat) : Prop where
  lt : ∀ b, b ∈ L → b < 256
  eq : ∀ b, b ∈ L → sz b = r

theorem augment {L : List Nat} {r : Nat} (hF : Fam8 L r) (hE : Exch L) {I J : Nat} (hlt : sz I < sz J) : ∀ d B1 B2, B1 ∈ L → B2 ∈ L → sub I B1 → sub J B2 → sz (nand B2 (J ||| B1)) = d → ∃ y, y < 8 ∧ J.testBit y = true ∧ I.testBit y = false ∧ Ind L (I ||| bit y) := by
  intro d
  induction d using Nat.strongRecOn with
  | ind d ih =>
  intro B1 B2 h1 h2 hI hJ hd
  by_cases hx : ∃ x, (nand B2 (J ||| B1)).testBit x = true
  · obtain ⟨x, hx⟩ := hx
    rw [nand_testBit, Nat.testBit_or] at hx
    simp at hx
    obtain ⟨hx2, hxJ, hx1⟩ := hx
    have hx8 := lt_of_testBit (hF.lt _ h2) hx2
    obtain ⟨y, hy1, hy2, hnew⟩ := hE B2 h2 B1 h1 x hx2 hx1
    have hsmall : sz (nand (nand B2 (bit x) ||| bit y) (J ||| B1)) + 1 = sz (nand B2 (J ||| B1)) := by
      have e : nand (nand B2 (bit x) ||| bit y) (J ||| B1) = nand (nand B2 (J ||| B1)) (bit x) := by
        apply Nat.eq_of_testBit_eq
        intro k
        rw [nand_testBit, or_bit_testBit, nand_testBit_bit, nand_testBit_bit, nand_testBit, Nat.testBit_or]
        by_cases c : y = k
        · subst c; simp [hy1, hy2]
        · simp [c]
          cases B2.testBit k <;> cases J.testBit k <;> cases B1.testBit k <;> simp
      rw [e]
      exact sz_less hx8 (by rw [nand_testBit, Nat.testBit_or, hx2, hxJ, hx1]; rfl)
    refine ih _ (by omega) B1 _ h1 hnew hI (fun k hk => ?_) rfl
    rw [or_bit_testBit, nand_testBit_bit, hJ k hk]
    have : x ≠ k := by rintro rfl; rw [hk] at hxJ; cases hxJ
    simp [this]
  · have hB2 : ∀ k, B2.testBit k = true → J.testBit k = true ∨ B1.testBit k = true := fun k hk => by
      cases hj : J.testBit k
      · cases hb : B1.testBit k
        · exact absurd ⟨k, by rw [nand_testBit, Nat.testBit_or, hk, hj, hb]; rfl⟩ hx
        · exact .inr rfl
      · exact .inl rfl
    by_cases hz : ∃ x, B1.testBit x = true ∧ I.testBit x = false ∧ B2.testBit x = false
    · obtain ⟨x, hx1, hxI, hx2⟩ := hz
      obtain ⟨y, hy2, hy1, hnew⟩ := hE B1 h1 B2 h2 x hx1 hx2
      refine ⟨y, lt_of_testBit (hF.lt _ h2) hy2, ?_, ?_, _, hnew, fun k hk => ?_⟩
      · rcases hB2 y hy2 with h | h
        · exact h
        · rw [h] at hy1; cases hy1
      · cases h : I.testBit y
        · rfl
        · rw [hI y h] at hy1; cases hy1
      · rw [or_bit_testBit] at hk ⊢
        rw [nand_testBit_bit]
        by_cases c : y = k
        · simp [c]
        · simp [c] at hk
          have : x ≠ k := by rintro rfl; rw [hk] at hxI; cases hxI
          simp [hI k hk, this]
    · have hB1 : ∀ k, B1.testBit k = true → B2.testBit k = false → I.testBit k = true := fun k h1k h2k => by
        cases h : I.testBit k
        · exact absurd ⟨k, h1k, h, h2k⟩ hz
        · rfl
      by_cases hy : ∃ y, J.testBit y = true ∧ I.testBit y = false ∧ B1.testBit y = true
      · obtain ⟨y, hyJ, hyI, hyB⟩ := hy
        refine ⟨y, lt_of_testBit (hF.lt _ h1) hyB, hyJ, hyI, B1, h1, fun k hk => ?_⟩
        rw [or_bit_testBit] at hk
        by_cases c : y = k
        · rw [← c]; exact hyB
        · simp [c] at hk; exact hI k hk
      · exfalso
        have s1 : sub (nand J I) (nand B2 B1) := fun k hk => by
          rw [nand_testBit] at hk ⊢
          simp at hk ⊢
          refine ⟨hJ k hk.1, ?_⟩
          cases h : B1.testBit k
          · rfl
          · exact absurd ⟨k, hk.1, hk.2, h⟩ hy
        have s2 : sub (nand B1 B2) (nand I J) := fun k hk => by
          rw [nand_testBit] at hk ⊢
          simp at hk ⊢
          refine ⟨hB1 k hk.1 hk.2, ?_⟩
          cases h : J.testBit k
          · rfl
          · rw [hJ k h] at hk; simp at hk
        have e1 := sz_mono s1
        have e2 := sz_mono s2
        have e3 := sz_diff B1 B2
        have e4 := sz_diff B2 B1
        have e5 := sz_diff I J
        have e6 := sz_diff J I
        have e7 := hF.eq _ h1
        have e8 := hF.eq _ h2
        rw [Nat.and_comm B2 B1] at e4
        rw [Nat.and_comm J I] at e6
        omega

/-! ### ranks -/
def rkTo (L : List Nat) (s : Nat) : Nat → Nat
  | 0 => 0
  | k + 1 => max (rkTo L s k) (sz (s &&& L.getD k 0))
def rk (L : List Nat) (s : Nat) : Nat := rkTo L s L.length
theorem rkTo_ge (L : List Nat) (s : Nat) {k i : Nat} (h : i < k) : sz (s &&& L.getD i 0) ≤ rkTo L s k := by
  induction k with
  | zero => omega
  | succ k ih =>
    simp only [rkTo]
    by_cases e : i = k
    · subst e; omega
    · have := ih (by omega); omega
theorem rkTo_at (L : List Nat) (s : Nat) (k : Nat) : rkTo L s k = 0 ∨ ∃ i, i < k ∧ rkTo L s k = sz (s &&& L.getD i 0) := by
  induction k with
  | zero => exact .inl rfl
  | succ k ih =>
    right
    by_cases c : rkTo L s k ≤ sz (s &&& L.getD k 0)
    · exact ⟨k, by omega, by simp only [rkTo]; omega⟩
    · rcases ih with h | ⟨i, hi, h⟩
      · omega
      · exact ⟨i, by omega, by simp only [rkTo]; omega⟩
theorem rk_ge {L : List Nat} {b : Nat} (s : Nat) (h : b ∈ L) : sz (s &&& b) ≤ rk L s := by
  obtain ⟨i, hi, e⟩ := List.getElem_of_mem h
  have := rkTo_ge L s hi
  have e2 : L.getD i 0 = b := by simp [hi, e]
  rw [e2] at this
  exact this
theorem rk_at {L : List Nat} (hne : L ≠ []) (s : Nat) : ∃ b, b ∈ L ∧ rk L s = sz (s &&& b) := by
  have h0 : 0 < L.length := by
    rcases Nat.eq_zero_or_pos L.length with h | h
    · exact absurd (List.length_eq_zero_iff.1 h) hne
    · exact h
  have mem : ∀ i, i < L.length → L.getD i 0 ∈ L := fun i hi => by simp [hi]
  rcases rkTo_at L s L.length with h | ⟨i, hi, h⟩
  · exact ⟨L.getD 0 0, mem 0 h0, by have := rk_ge s (mem 0 h0); unfold rk at *; omega⟩
  · exact ⟨_, mem i hi, h⟩
theorem rk_ind {L : List Nat} {I s : Nat} (hI : Ind L I) (hs : sub I s) : sz I ≤ rk L s := by
  obtain ⟨b, hb, h⟩ := hI
  have h1 := rk_ge s hb
  have h2 : sub I (s &&& b) := fun k hk => by rw [Nat.testBit_and, hs k hk, h k hk]; rfl
  have := sz_mono h2
  omega
theorem rk_le (L : List Nat) (s : Nat) : rk L s ≤ sz s := by
  rcases rkTo_at L s L.length with h | ⟨i, hi, h⟩
  · show rkTo L s L.length ≤ _; omega
  · show rkTo L s L.length ≤ _; rw [h]; exact sz_mono (sub_and_left _ _)
theorem rk_mono {L : List Nat} (hne : L ≠ []) {s t : Nat} (h : sub s t) : rk L s ≤ rk L t := by
  obtain ⟨b, hb, e⟩ := rk_at hne s
  rw [e]
  exact rk_ind ⟨b, hb, sub_and_right _ _⟩ (sub_trans (sub_and_left _ _) h)
theorem rk_step {L : List Nat} (hne : L ≠ []) (s i : Nat) (hi : i < 8) : rk L (s ||| bit i) ≤ rk L s + 1 := by
  obtain ⟨b, hb, e⟩ := rk_at hne (s ||| bit i)
  have h1 := rk_ge s hb
  have h2 : sub ((s ||| bit i) &&& b) ((s &&& b) ||| bit i) := fun k hk => by
    rw [Nat.testBit_and, or_bit_testBit] at hk
    rw [or_bit_testBit, Nat.testBit_and]
    cases hs : s.testBit k <;> cases hbk : b.testBit k <;> simp_all
  have h3 := sz_mono h2
  have h4 := sz_add_le (a := s &&& b) hi
  omega

/-- ranks that grow slower and slower, element by element -/
def SubM (m : Nat) (r : Nat → Nat) : Prop := ∀ s, s < bit m → ∀ i, i < m → ∀ k, k < m → r ((s ||| bit i) ||| (s ||| bit k)) + r ((s ||| bit i) &&& (s ||| bit k)) ≤ r (s ||| bit i) + r (s ||| bit k)
theorem or_same {s i : Nat} (h : s.testBit i = true) : s ||| bit i = s := by
  apply Nat.eq_of_testBit_eq
  intro k
  rw [or_bit_testBit]
  by_cases c : i = k
  · subst c; simp [h]
  · simp [c]
theorem sub_of_exch {L : List Nat} {r m : Nat} (hm : m ≤ 8) (hne : L ≠ []) (hF : Fam8 L r) (hE : Exch L) : SubM m (rk L) := by
  intro s hs i hi k hk
  by_cases hsi : s.testBit i = true
  · rw [or_same hsi]
    have e1 : s ||| (s ||| bit k) = s ||| bit k := by
      apply Nat.eq_of_testBit_eq; intro q; simp only [Nat.testBit_or]; cases s.testBit q <;> simp
    have e2 : s &&& (s ||| bit k) = s := by
      apply Nat.eq_of_testBit_eq; intro q; simp only [Nat.testBit_or, Nat.testBit_and]; cases s.testBit q <;> simp
    rw [e1, e2]; omega
  by_cases hsk : s.testBit k = true
  · rw [or_same hsk]
    have e1 : (s ||| bit i) ||| s = s ||| bit i := by
      apply Nat.eq_of_testBit_eq; intro q; simp only [Nat.testBit_or]; cases s.testBit q <;> simp
    have e2 : (s ||| bit i) &&& s = s := by
      apply Nat.eq_of_testBit_eq; intro q; simp only [Nat.testBit_or, Nat.testBit_and]; cases s.testBit q <;> simp
    rw [e1, e2]; omega
  by_cases hik : i = k
  · subst hik
    rw [Nat.or_self, Nat.and_self]; omega
  have e1 : (s ||| bit i) ||| (s ||| bit k) = (s ||| bit i) ||| bit k := by
    apply Nat.eq_of_testBit_eq; intro q; simp only [Nat.testBit_or]; cases s.testBit q <;> cases (bit i).testBit q <;> simp
  have e2 : (s ||| bit i) &&& (s ||| bit k) = s := by
    apply Nat.eq_of_testBit_eq
    intro q
    rw [Nat.testBit_and, or_bit_testBit, or_bit_testBit]
    by_cases c1 : i = q
    · have : ¬ k = q := by omega
      simp [this]
      intro h; exact .inl h
    · simp [c1]
      cases s.testBit q <;> simp
  rw [e1, e2]
  have a1 := rk_step hne (s ||| bit i) k (by omega)
  have a2 := rk_step hne (s ||| bit k) i (by omega)
  have e3 : (s ||| bit k) ||| bit i = (s ||| bit i) ||| bit k := by
    apply Nat.eq_of_testBit_eq; intro q; simp only [Nat.testBit_or]; cases s.testBit q <;> cases (bit i).testBit q <;> simp
  rw [e3] at a2
  have a3 := rk_mono hne (sub_or_left s (bit i))
  have a4 := rk_mono hne (sub_or_left s (bit k))
  rcases Nat.lt_or_ge (rk L ((s ||| bit i) ||| bit k) + rk L s) (rk L (s ||| bit i) + rk L (s ||| bit k) + 1) with h | h
  · omega
  · exfalso
    have b1 : rk L (s ||| bit i) = rk L s := by omega
    have b2 : rk L (s ||| bit k) = rk L s := by omega
    obtain ⟨B1, h1, r1⟩ := rk_at hne s
    obtain ⟨B2, h2, r2⟩ := rk_at hne ((s ||| bit i) ||| bit k)
    have hsz : sz (s &&& B1) < sz (((s ||| bit i) ||| bit k) &&& B2) := by omega
    obtain ⟨y, hy8, hyJ, hyI, hind⟩ := augment hF hE hsz _ B1 B2 h1 h2 (sub_and_right _ _) (sub_and_right _ _) rfl
    have hsize := sz_add hy8 hyI
    rw [Nat.testBit_and, or_bit_testBit, or_bit_testBit] at hyJ
    by_cases c0 : s.testBit y = true
    · have := rk_ind (s := s) hind (fun q hq => by
        rw [or_bit_testBit] at hq
        by_cases c : y = q
        · rw [← c]; exact c0
        · simp [c] at hq; exact hq.1)
      omega
    · by_cases c1 : i = y
      · have := rk_ind (s := s ||| bit i) hind (fun q hq => by
          rw [or_bit_testBit] at hq ⊢
          by_cases c : y = q
          · simp [c1, c]
          · simp [c] at hq; simp [hq.1])
        omega
      · by_cases c2 : k = y
        · have := rk_ind (s := s ||| bit k) hind (fun q hq => by
            rw [or_bit_testBit] at hq ⊢
            by_cases c : y = q
            · simp [c2, c]
            · simp [c] at hq; simp [hq.1])
          omega
        · simp [c0, c1, c2] at hyJ

/-- the first k elements of a set -/
def cutTo (B k : Nat) : Nat := B &&& (bit k - 1)
theorem cutTo_testBit (B k i : Nat) : (cutTo B k).testBit i = (B.testBit i && decide (i < k)) := by unfold cutTo; rw [Nat.testBit_and, testBit_all]
theorem exch_of_sub {L : List Nat} {r m : Nat} (hm : m ≤ 8) (hF : Fam8 L r) (hlt : ∀ b, b ∈ L → b < bit m) (hS : SubM m (rk L)) : Exch L := by
  intro A hA B hB x hxA hxB
  apply Classical.byContradiction
  intro hno
  have hne : L ≠ [] := by rintro rfl; cases hA
  have hx8 := lt_of_testBit (hF.lt _ hA) hxA
  have hsA := sz_less hx8 hxA
  have hA8 := hF.lt _ hA
  have hB8 := hF.lt _ hB
  have hs0 : nand A (bit x) < 256 := nand_lt _ _ 8 hA8
  have hr0 : rk L (nand A (bit x)) + 1 = sz A := by
    have h1 := rk_ind (L := L) (I := nand A (bit x)) (s := nand A (bit x)) ⟨A, hA, fun k hk => by rw [nand_testBit] at hk; simp at hk; exact hk.1⟩ (fun _ h => h)
    have h2 := rk_le L (nand A (bit x))
    omega
  have base : ∀ y, B.testBit y = true → rk L (nand A (bit x) ||| bit y) = rk L (nand A (bit x)) := fun y hy => by
    have hy8 := lt_of_testBit hB8 hy
    cases hAy : A.testBit y
    · have hsy : (nand A (bit x)).testBit y = false := by rw [nand_testBit_bit, hAy]; rfl
      have h1 := rk_step hne (nand A (bit x)) y hy8
      have h2 := rk_mono hne (sub_or_left (nand A (bit x)) (bit y))
      rcases Nat.lt_or_ge (rk L (nand A (bit x))) (rk L (nand A (bit x) ||| bit y)) with h | h
      · exfalso
        obtain ⟨b, hb, e⟩ := rk_at hne (nand A (bit x) ||| bit y)
        have hsz := sz_add hy8 hsy
        have hsb := hF.eq _ hb
        have hsa := hF.eq _ hA
        have hlt1 : nand A (bit x) ||| bit y < 256 := or_lt _ _ hs0 (bit_lt256 y hy8)
        have e1 : (nand A (bit x) ||| bit y) &&& b = nand A (bit x) ||| bit y := eq_of_sub_sz (Nat.lt_of_le_of_lt Nat.and_le_left hlt1) hlt1 (sub_and_left _ _) (by omega)
        have e2 : (nand A (bit x) ||| bit y) &&& b = b := eq_of_sub_sz (Nat.lt_of_le_of_lt Nat.and_le_left hlt1) (hF.lt _ hb) (sub_and_right _ _) (by omega)
        rw [e1] at e2
        exact hno ⟨y, hy, hAy, by rw [e2]; exact hb⟩
      · omega
    · have : x ≠ y := by rintro rfl; rw [hy] at hxB; cases hxB
      rw [or_same (by rw [nand_testBit_bit, hAy]; simp [this])]
  have key : ∀ k, k ≤ 8 → rk L (nand A (bit x) ||| cutTo B k) = rk L (nand A (bit x)) ∧ ∀ y, B.testBit y = true → rk L ((nand A (bit x) ||| cutTo B k) ||| bit y) = rk L (nand A (bit x)) := by
    intro k
    induction k with
    | zero =>
      intro _
      have e : nand A (bit x) ||| cutTo B 0 = nand A (bit x) := by
        apply Nat.eq_of_testBit_eq; intro q; rw [Nat.testBit_or, cutTo_testBit]; simp
      rw [e]
      exact ⟨rfl, base⟩
    | succ k ih =>
      intro hk
      obtain ⟨h1, h2⟩ := ih (by omega)
      by_cases hBk : B.testBit k = true
      · have e : nand A (bit x) ||| cutTo B (k+1) = (nand A (bit x) ||| cutTo B k) ||| bit k := by
          apply Nat.eq_of_testBit_eq
          intro q
          rw [or_bit_testBit, Nat.testBit_or, Nat.testBit_or, cutTo_testBit, cutTo_testBit]
          by_cases c : k = q
          · subst c; simp [hBk]
          · have : (q < k + 1) = (q < k) := by simp; omega
            simp [c, this]
        rw [e]
        refine ⟨h2 k hBk, fun y hy => ?_⟩
        generalize ht : nand A (bit x) ||| cutTo B k = t at *
        have hkm : k < m := lt_m_of_testBit (hlt _ hB) hBk
        have hym : y < m := lt_m_of_testBit (hlt _ hB) hy
        have htl : t < bit m := by
          rw [← ht]
          refine or_lt_bit (nand_lt _ _ m (hlt _ hA)) ?_
          unfold cutTo
          exact and_lt_bit _ (hlt _ hB)
        have hsub := hS t htl k hkm y hym
        have e3 : (t ||| bit k) ||| (t ||| bit y) = (t ||| bit k) ||| bit y := by
          apply Nat.eq_of_testBit_eq; intro q; simp only [Nat.testBit_or]; cases t.testBit q <;> cases (bit k).testBit q <;> simp
        rw [e3, h2 k hBk, h2 y hy] at hsub
        have h3 : rk L t ≤ rk L ((t ||| bit k) &&& (t ||| bit y)) := rk_mono hne (fun q hq => by rw [Nat.testBit_and, Nat.testBit_or, Nat.testBit_or, hq]; rfl)
        have h4 : rk L t ≤ rk L ((t ||| bit k) ||| bit y) := rk_mono hne (sub_trans (sub_or_left _ _) (sub_or_left _ _))
        omega
      · have e : nand A (bit x) ||| cutTo B (k+1) = nand A (bit x) ||| cutTo B k := by
          apply Nat.eq_of_testBit_eq
          intro q
          rw [Nat.testBit_or, Nat.testBit_or, cutTo_testBit, cutTo_testBit]
          by_cases c : k = q
          · subst c; simp [hBk]
          · have : (q < k + 1) = (q < k) := by simp; omega
            simp [this]
        rw [e]
        exact ⟨h1, h2⟩
  obtain ⟨hend, _⟩ := key 8 (Nat.le_refl _)
  have hind := rk_ind (L := L) (I := B) (s := nand A (bit x) ||| cutTo B 8) ⟨B, hB, fun _ h => h⟩ (fun q hq => by
    rw [Nat.testBit_or, cutTo_testBit, hq]
    have := lt_of_testBit hB8 hq
    simp [this])
  have hsa := hF.eq _ hA
  have hsb := hF.eq _ hB
  omega
theorem exch_iff {L : List Nat} {r m : Nat} (hm : m ≤ 8) (hne : L ≠ []) (hF : Fam8 L r) (hlt : ∀ b, b ∈ L → b < bit m) : Exch L ↔ SubM m (rk L) := ⟨sub_of_exch hm hne hF, exch_of_sub hm hF hlt⟩

end Go.Proofs.Ytdcdhdlklppalaa

namespace Go.Proofs.Ytdcdhdlklppalaa
set_option linter.unusedVariables false

/-- the first list of elements, one for each set; g tells whether one more may come to those used -/
def rado (m : Nat) (g : Nat → Nat → Bool) : List Nat → Nat → Option (List Nat)
  | [], _ => some []
  | s :: rest, used => (List.range m).findSome? (fun i => if s.testBit i && g used i then (rado m g rest (used ||| bit i)).map (fun l => i :: l) else none)
def radoStep (m : Nat) (g : Nat → Nat → Bool) (s : Nat) (rest : List Nat) (used i : Nat) : Option (List Nat) := if s.testBit i && g used i then (rado m g rest (used ||| bit i)).map (fun l => i :: l) else none
theorem rado_some {m : Nat} {g : Nat → Nat → Bool} {s : Nat} {rest : List Nat} {used i : Nat} {l : List Nat} (hi : i < m) (h : radoStep m g s rest used i = some l) (hno : ∀ j, j < i → radoStep m g s rest used j = none) : rado m g (s :: rest) used = some l := by
  show (List.range m).findSome? (radoStep m g s rest used) = some l
  rw [List.findSome?_eq_some_iff]
  refine ⟨List.range i, i, List.range' (i+1) (m - i - 1), ?_, h, fun j hj => hno j (by simpa using hj)⟩
  rw [List.range_eq_range', List.range_eq_range']
  have h1 : List.range' 0 m = List.range' 0 i ++ List.range' (0 + i) (m - i) := by
    rw [List.range'_append_1]; congr 1; omega
  rw [h1, Nat.zero_add, show m - i = (m - i - 1) + 1 by omega, List.range'_succ]
  simp
theorem rado_none {m : Nat} {g : Nat → Nat → Bool} {s : Nat} {rest : List Nat} {used : Nat} (hno : ∀ j, j < m → radoStep m g s rest used j = none) : rado m g (s :: rest) used = none := by
  show (List.range m).findSome? (radoStep m g s rest used) = none
  rw [List.findSome?_eq_none_iff]
  intro j hj
  exact hno j (by simpa using hj)
theorem rado_len {m : Nat} {g : Nat → Nat → Bool} : ∀ (ls : List Nat) (used : Nat) (l : List Nat), rado m g ls used = some l → l.length = ls.length := by
  intro ls
  induction ls with
  | nil => intro used l h; cases h; rfl
  | cons s rest ih =>
    intro used l h
    have h' : (List.range m).findSome? (radoStep m g s rest used) = some l := h
    obtain ⟨i, hi, h2⟩ := List.exists_of_findSome?_eq_some h'
    unfold radoStep at h2
    split at h2
    · cases h3 : rado m g rest (used ||| bit i) with
      | none => rw [h3] at h2; cases h2
      | some l' =>
        rw [h3] at h2
        simp only [Option.map_some, Option.some.injEq] at h2
        rw [← h2]
        simp [ih _ _ h3]
    · cases h2
theorem findSome_congr {α β : Type} {f g : α → Option β} : ∀ l : List α, (∀ x, x ∈ l → f x = g x) → l.findSome? f = l.findSome? g := by
  intro l
  induction l with
  | nil => intro _; rfl
  | cons x l ih =>
    intro h
    rw [List.findSome?_cons, List.findSome?_cons, h x (by simp), ih (fun y hy => h y (by simp [hy]))]
/-- two ways to tell which elements may come agree where the sets that come up are alike -/
theorem rado_congr {m : Nat} {g g' : Nat → Nat → Bool} {I : Nat → Prop} (hg : ∀ used i, i < m → I used → g used i = g' used i) (hI : ∀ used i, i < m → I used → g used i = true → I (used ||| bit i)) : ∀ (ls : List Nat) (used : Nat), I used → rado m g ls used = rado m g' ls used := by
  intro ls
  induction ls with
  | nil => intro used _; rfl
  | cons s rest ih =>
    intro used hu
    have : ∀ i, i < m → radoStep m g s rest used i = radoStep m g' s rest used i := fun i hi => by
      unfold radoStep
      rw [← hg used i hi hu]
      by_cases c : (s.testBit i && g used i) = true
      · rw [if_pos c, if_pos c, ih _ (hI used i hi hu (by simp at c; exact c.2))]
      · rw [if_neg c, if_neg c]
    cases h : rado m g (s :: rest) used with
    | none =>
      refine (rado_none (fun j hj => ?_)).symm
      rw [← this j hj]
      have h' : (List.range m).findSome? (radoStep m g s rest used) = none := h
      rw [List.findSome?_eq_none_iff] at h'
      exact h' j (by simpa using hj)
    | some l =>
      have h' : (List.range m).findSome? (radoStep m g s rest used) = some l := h
      have h2 : (List.range m).findSome? (radoStep m g' s rest used) = some l := by
        rw [← h']
        exact (findSome_congr _ (fun j hj => (this j (by simpa using hj)))).symm
      exact h2.symm

/-- an element makes more of an independent set just if the two together are independent -/
def gProg (L : List Nat) (used i : Nat) : Bool := decide (rk L used < rk L (used ||| bit i))
def gRef (L : List Nat) (used i : Nat) : Bool := !used.testBit i && decide (rk L (used ||| bit i) = sz (used ||| bit i))
theorem rk_le_sz (L : List Nat) (s : Nat) : rk L s ≤ sz s := by
  rcases rkTo_at L s L.length with h | ⟨i, _, h⟩
  · unfold rk; omega
  · unfold rk; rw [h]
    exact sz_mono (fun k hk => by rw [Nat.testBit_and] at hk; simp at hk; exact hk.1)
theorem g_same {L : List Nat} {used i : Nat} (hu : used < 256) (hi : i < 8) (h : rk L used = sz used) : gProg L used i = gRef L used i := by
  unfold gProg gRef
  cases c : used.testBit i
  · have h1 := sz_add hi c
    have h2 := rk_le_sz L (used ||| bit i)
    rw [Bool.eq_iff_iff]
    simp only [Bool.not_false, Bool.true_and, decide_eq_true_eq]
    omega
  · have : used ||| bit i = used := eq_of_bits (or_lt _ _ hu (bit_lt256 i hi)) hu (fun k hk => by
      rw [Nat.testBit_or, testBit_bit]
      by_cases e : i = k
      · subst e; simp [c]
      · simp [e])
    rw [this]
    simp
theorem rado_same {L : List Nat} {m : Nat} (hm : m ≤ 8) (ls : List Nat) : rado m (gProg L) ls 0 = rado m (gRef L) ls 0 := by
  refine rado_congr (I := fun u => u < 256 ∧ rk L u = sz u) (fun used i hi h => g_same h.1 (by omega) h.2) (fun used i hi h hg => ⟨or_lt _ _ h.1 (bit_lt256 i (by omega)), ?_⟩) ls 0 ⟨by decide, ?_⟩
  · rw [g_same h.1 (by omega) h.2] at hg
    unfold gRef at hg
    simp only [Bool.and_eq_true, decide_eq_true_eq] at hg
    exact hg.2
  · have := rk_le_sz L 0
    rw [sz_zero] at this ⊢
    omega

end Go.Proofs.Ytdcdhdlklppalaa
