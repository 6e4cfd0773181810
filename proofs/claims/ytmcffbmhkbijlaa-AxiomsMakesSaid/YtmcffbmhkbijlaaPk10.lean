
/-
  The circuit that an element makes with a basis, plainly: it is the only one within both.
  The families of a matroid, plainly: as axioms tells them and as rotaref tells them.
  Matroids made of one, plainly: Dual, Delete, Contract and Truncate as minors makes them and as rotaref makes them, by ranks.
-/
import Derived.Test.YtmcffbmhkbijlaaPk09
import Derived.Test.YtmcffbmhkbijlaaPk07
namespace Go.Proofs.Ytmcffbmhkbijlaa
set_option linter.unusedVariables false

theorem extend_basis {L : List Nat} {r : Nat} (hF : Fam8 L r) (hE : Exch L) {b : Nat} (hb : b ∈ L) : ∀ d I, I < 256 → Ind L I → r - sz I = d → ∃ B, B ∈ L ∧ sub I B ∧ sub B (I ||| b) := by
  intro d
  induction d with
  | zero =>
    intro I hI8 hI hd
    obtain ⟨B, hB, hs⟩ := hI
    have h1 := hF.eq _ hB
    have e : I = B := eq_of_sub_sz hI8 (hF.lt _ hB) hs (by omega)
    exact ⟨B, hB, hs, by rw [← e]; exact sub_or_left _ _⟩
  | succ d ih =>
    intro I hI8 hI hd
    obtain ⟨B0, hB0, hs0⟩ := hI
    have h1 := hF.eq _ hb
    obtain ⟨y, hy8, hyb, hyI, hind⟩ := augment hF hE (I := I) (J := b) (by omega) _ B0 b hB0 hb hs0 (fun _ h => h) rfl
    have hsz := sz_add hy8 hyI
    obtain ⟨B, hB, h2, h3⟩ := ih (I ||| bit y) (or_lt _ _ hI8 (bit_lt256 y hy8)) hind (by omega)
    refine ⟨B, hB, sub_trans (sub_or_left _ _) h2, fun q hq => ?_⟩
    have := h3 q hq
    rw [Nat.testBit_or, or_bit_testBit] at this
    rw [Nat.testBit_or]
    by_cases c : y = q
    · subst c; rw [hyb]; simp
    · simp [c] at this; simpa using this
/-- the circuit that i makes with b -/
def FundIs (L : List Nat) (b i F : Nat) : Prop := F < 256 ∧ ∀ x, x < 8 → (F.testBit x = true ↔ x = i ∨ (b.testBit x = true ∧ (nand b (bit x) ||| bit i) ∈ L))
theorem FundIs.ex (L : List Nat) (b i : Nat) : ∃ F, FundIs L b i F := by
  obtain ⟨X, h1, h2⟩ := exists_set (fun x => x = i ∨ (b.testBit x = true ∧ (nand b (bit x) ||| bit i) ∈ L))
  exact ⟨X, h1, h2⟩
theorem fund_within {L : List Nat} {b i F : Nat} (hF : FundIs L b i F) : sub F (b ||| bit i) := fun x hx => by
  rw [or_bit_testBit]
  rcases (hF.2 x (lt_of_testBit hF.1 hx)).1 hx with h | h
  · simp [h]
  · simp [h.1]
theorem fund_least {L : List Nat} {b i F C : Nat} (hb : b ∈ L) (hF : FundIs L b i F) (hC : sub C (b ||| bit i)) (hd : ¬ Ind L C) : sub F C := fun x hx => by
  rcases (hF.2 x (lt_of_testBit hF.1 hx)).1 hx with h | h
  · cases hc : C.testBit x
    · exact absurd ⟨b, hb, fun q hq => by
        have := hC q hq
        rw [or_bit_testBit] at this
        have hne : i ≠ q := by rintro rfl; rw [h, hq] at hc; cases hc
        simpa [hne] using this⟩ hd
    · rfl
  · cases hc : C.testBit x
    · exact absurd ⟨_, h.2, fun q hq => by
        have := hC q hq
        have hne : x ≠ q := by rintro rfl; rw [hq] at hc; cases hc
        rw [or_bit_testBit] at this ⊢
        rw [nand_testBit_bit]
        simpa [hne] using this⟩ hd
    · rfl
theorem fund_dep {L : List Nat} {r b i F : Nat} (hf : Fam8 L r) (hE : Exch L) (hb : b ∈ L) (hi : i < 8) (hbi : b.testBit i = false) (hF : FundIs L b i F) : ¬ Ind L F := by
  intro hI
  obtain ⟨B, hB, h1, h2⟩ := extend_basis hf hE hb _ F hF.1 hI rfl
  have hsB := hf.eq _ hB
  have hsb := hf.eq _ hb
  have hsi := sz_add hi hbi
  have hBw : sub B (b ||| bit i) := fun q hq => by
    have := h2 q hq
    rw [Nat.testBit_or] at this
    cases hq2 : F.testBit q
    · rw [hq2] at this
      rw [or_bit_testBit]; simp at this; simp [this]
    · exact fund_within hF q hq2
  have hnot : ¬ sub (b ||| bit i) B := fun h => by have := sz_mono h; omega
  obtain ⟨x, hx1, hx2⟩ := exists_diff hnot
  have hiF : F.testBit i = true := (hF.2 i hi).2 (.inl rfl)
  have hxi : x ≠ i := by rintro rfl; rw [h1 _ hiF] at hx2; cases hx2
  have hbx : b.testBit x = true := by rw [or_bit_testBit] at hx1; simpa [Ne.symm hxi] using hx1
  have hx8 := lt_of_testBit (hf.lt _ hb) hbx
  have e : B = nand b (bit x) ||| bit i := by
    refine eq_of_sub_sz (hf.lt _ hB) (or_lt _ _ (nand_lt _ _ 8 (hf.lt _ hb)) (bit_lt256 i hi)) (fun q hq => ?_) ?_
    · have := hBw q hq
      have hne : x ≠ q := by rintro rfl; rw [hq] at hx2; cases hx2
      rw [or_bit_testBit] at this ⊢
      rw [nand_testBit_bit]
      simpa [hne] using this
    · have h3 := sz_less hx8 hbx
      have h4 := sz_add_le (a := nand b (bit x)) hi
      omega
  have hxF : F.testBit x = true := (hF.2 x hx8).2 (.inr ⟨hbx, by rw [← e]; exact hB⟩)
  rw [h1 x hxF] at hx2
  cases hx2
theorem mem_circ {m : Nat} {L : List Nat} {s : Nat} : s ∈ those m (circB m L) ↔ s < bit m ∧ ¬ Ind L s ∧ ∀ x, x < bit m → ¬ Ind L x → x = s ∨ ¬ x ||| s = s := by
  rw [mem_those]
  unfold circB leastB
  rw [Bool.and_eq_true, decide_eq_true_eq, mem_those, List.all_eq_true]
  have hfr : ∀ x, (!freeB L x) = true ↔ ¬ Ind L x := fun x => by rw [← freeB_iff]; simp
  constructor
  · rintro ⟨h1, ⟨_, h2⟩, h3⟩
    refine ⟨h1, (hfr s).1 h2, fun x hx hd => ?_⟩
    have := h3 x (mem_those.2 ⟨hx, (hfr x).2 hd⟩)
    simpa using this
  · rintro ⟨h1, h2, h3⟩
    refine ⟨h1, ⟨h1, (hfr s).2 h2⟩, fun x hx => ?_⟩
    have hx' := mem_those.1 hx
    have := h3 x hx'.1 ((hfr x).1 hx'.2)
    simpa using this
theorem ring_is {L : List Nat} {r m b i F : Nat} (hm : m ≤ 8) (hf : Fam8 L r) (hlt : ∀ b, b ∈ L → b < bit m) (hE : Exch L) (hb : b ∈ L) (hi : i < m) (hbi : b.testBit i = false) (hF : FundIs L b i F) : RingIs (those m (circB m L)) (b ||| bit i) F := by
  have hdep := fund_dep hf hE hb (by omega) hbi hF
  have hFw := fund_within hF
  have hFm : F < bit m := (lt_pow_iff m F hm hF.1).2 (fun q hq8 hq => by
    have h1 := hFw q hq
    rw [or_bit_testBit] at h1
    by_cases c : i = q
    · omega
    · simp [c] at h1; exact lt_m_of_testBit (hlt _ hb) h1)
  have hcirc : F ∈ those m (circB m L) := mem_circ.2 ⟨hFm, hdep, fun x hx hd => by
    by_cases hxF : x ||| F = F
    · left
      have h1 : sub x F := or_eq_iff.1 hxF
      exact sub_antisymm h1 (fund_least hb hF (sub_trans h1 hFw) hd)
    · exact .inr hxF⟩
  have huniq : ∀ C, C ∈ those m (circB m L) → C ||| (b ||| bit i) = (b ||| bit i) → C = F := fun C hC hw => by
    obtain ⟨h1, h2, h3⟩ := mem_circ.1 hC
    have h4 := fund_least hb hF (or_eq_iff.1 hw) h2
    rcases h3 F hFm hdep with h | h
    · exact h.symm
    · exact absurd (or_eq_iff.2 h4) h
  obtain ⟨k0, hk0, ek0⟩ := List.getElem_of_mem hcirc
  have first : ∀ n, (∃ k, k < n ∧ k < (those m (circB m L)).length ∧ (those m (circB m L)).getD k 0 ||| (b ||| bit i) = (b ||| bit i) ∧ ∀ l, l < k → ¬ (those m (circB m L)).getD l 0 ||| (b ||| bit i) = (b ||| bit i)) ∨ ∀ k, k < n → k < (those m (circB m L)).length → ¬ (those m (circB m L)).getD k 0 ||| (b ||| bit i) = (b ||| bit i) := by
    intro n
    induction n with
    | zero => exact .inr (fun k hk => by omega)
    | succ n ih =>
      rcases ih with ⟨k, h1, h2⟩ | h
      · exact .inl ⟨k, by omega, h2⟩
      · by_cases hn : n < (those m (circB m L)).length ∧ (those m (circB m L)).getD n 0 ||| (b ||| bit i) = (b ||| bit i)
        · exact .inl ⟨n, by omega, hn.1, hn.2, fun l hl => h l hl (by omega)⟩
        · exact .inr (fun k hk hkl hw => by
            by_cases c : k = n
            · subst c; exact hn ⟨hkl, hw⟩
            · exact h k (by omega) hkl hw)
  rcases first (those m (circB m L)).length with ⟨k, h1, h2, h3, h4⟩ | h
  · exact .inl ⟨k, h2, h3, h4, (huniq _ (by simp [h2]) h3).symm⟩
  · exact absurd (by rw [show (those m (circB m L)).getD k0 0 = F by simp [hk0, ek0]]; exact or_eq_iff.2 hFw) (h k0 hk0 hk0)

end Go.Proofs.Ytmcffbmhkbijlaa

namespace Go.Proofs.Ytmcffbmhkbijlaa
set_option linter.unusedVariables false

theorem those_congr {m : Nat} {p q : Nat → Bool} (h : ∀ s, s < bit m → p s = q s) : those m p = those m q := by
  unfold those
  exact List.filter_congr (fun s hs => h s (by simpa using hs))
theorem bool_iff {a b : Bool} (h : a = true ↔ b = true) : a = b := Bool.eq_iff_iff.2 h

/-! as axioms tells them -/
def indP (L : List Nat) (s : Nat) : Bool := decide (rk L s = sz s)
def circP (L : List Nat) (s : Nat) : Bool := decide (rk L s + 1 = sz s) && (List.range 8).all (fun i => !s.testBit i || decide (rk L (nand s (bit i)) = sz (nand s (bit i))))
def flatP (m : Nat) (L : List Nat) (s : Nat) : Bool := (List.range m).all (fun i => s.testBit i || !decide (rk L (s ||| bit i) = rk L s))
def hypP (m : Nat) (L : List Nat) (s : Nat) : Bool := decide (rk L s + 1 = rk L (bit m - 1)) && flatP m L s
theorem circP_iff {L : List Nat} {s : Nat} : circP L s = true ↔ (rk L s + 1 = sz s ∧ ∀ i, i < 8 → s.testBit i = true → rk L (nand s (bit i)) = sz (nand s (bit i))) := by
  unfold circP
  rw [Bool.and_eq_true, decide_eq_true_eq, List.all_eq_true]
  constructor
  · rintro ⟨h1, h2⟩
    refine ⟨h1, fun i hi hb => ?_⟩
    have := h2 i (by simpa using hi)
    rw [hb] at this
    simpa using this
  · rintro ⟨h1, h2⟩
    refine ⟨h1, fun i hi => ?_⟩
    cases c : s.testBit i
    · rfl
    · have := h2 i (by simpa using hi) c
      simp [this]
theorem flatP_iff {m : Nat} {L : List Nat} {s : Nat} : flatP m L s = true ↔ Flat m L s := by
  unfold flatP Flat
  rw [List.all_eq_true]
  constructor
  · intro h i hi hb
    have := h i (by simpa using hi)
    rw [hb] at this
    simpa using this
  · intro h i hi
    cases c : s.testBit i
    · have := h i (by simpa using hi) c
      simp [this]
    · rfl
theorem hypP_iff {m : Nat} {L : List Nat} {s : Nat} : hypP m L s = true ↔ (rk L s + 1 = rk L (bit m - 1) ∧ Flat m L s) := by
  unfold hypP
  rw [Bool.and_eq_true, decide_eq_true_eq, flatP_iff]

/-! as rotaref tells them -/
/-- of a family's sets: one that lies within no other one -/
def mostB (M : List Nat) (s : Nat) : Bool := decide (s ∈ M) && M.all (fun x => decide (x = s) || !decide (s ||| x = x))
def flatR (C : List Nat) (s : Nat) : Bool := C.all (fun c => !decide (sz (nand c s) = 1))
def spanR (L : List Nat) (s : Nat) : Bool := L.all (fun b => !decide (b ||| s = s))
theorem mem_circ2 {m : Nat} (hm : m ≤ 8) {L : List Nat} {s : Nat} : s ∈ those m (circB m L) ↔ s < bit m ∧ Circ L s := by
  have hb := bit_le m hm
  rw [mem_circ]
  constructor
  · rintro ⟨h1, h2, h3⟩
    refine ⟨h1, h2, fun t ht hts hne => Classical.byContradiction fun hd => ?_⟩
    rcases h3 t (lt_bit_of_sub hm h1 hts) hd with h | h
    · exact hne h
    · exact h (or_eq_iff.2 hts)
  · rintro ⟨h1, h2, h3⟩
    refine ⟨h1, h2, fun x hx hd => ?_⟩
    by_cases e : x = s
    · exact .inl e
    · exact .inr (fun h => hd (h3 x (by omega) (or_eq_iff.1 h) e))
theorem spanR_iff {L : List Nat} {s : Nat} : spanR L s = true ↔ NoSpan L s := by
  unfold spanR NoSpan
  rw [List.all_eq_true]
  constructor
  · intro h b hb hs
    have := h b hb
    simp [or_eq_iff.2 hs] at this
  · intro h b hb
    have := h b hb
    simp only [Bool.not_eq_true', decide_eq_false_iff_not]
    exact fun e => this (or_eq_iff.1 e)
theorem mostB_iff {M : List Nat} {s : Nat} : mostB M s = true ↔ s ∈ M ∧ ∀ x, x ∈ M → sub s x → x = s := by
  unfold mostB
  rw [Bool.and_eq_true, decide_eq_true_eq, List.all_eq_true]
  constructor
  · rintro ⟨h1, h2⟩
    refine ⟨h1, fun x hx hs => ?_⟩
    have := h2 x hx
    simp [or_eq_iff.2 hs] at this
    exact this
  · rintro ⟨h1, h2⟩
    refine ⟨h1, fun x hx => ?_⟩
    by_cases e : x = s
    · simp [e]
    · have : ¬ s ||| x = x := fun h => e (h2 x hx (or_eq_iff.1 h))
      simp [e, this]

/-! they are the same -/
theorem ind_same {m : Nat} (hm : m ≤ 8) {L : List Nat} (hne : L ≠ []) : those m (indP L) = those m (freeB L) := those_congr (fun s hs => bool_iff (by
  have hb := bit_le m hm
  rw [freeB_iff, ind_rk hne (show s < 256 by omega)]
  unfold indP
  rw [decide_eq_true_eq]))
theorem those_mem_eq {m : Nat} {p q : Nat → Bool} (h : ∀ s, s < bit m → (p s = true ↔ q s = true)) : those m p = those m q := those_congr (fun s hs => bool_iff (h s hs))
theorem circ_same {m : Nat} (hm : m ≤ 8) {L : List Nat} (hne : L ≠ []) : those m (circP L) = those m (circB m L) := those_mem_eq (fun s hs => by
  have hb := bit_le m hm
  rw [circP_iff, ← circ_rk hne (show s < 256 by omega)]
  have := mem_circ2 hm (L := L) (s := s)
  rw [mem_those] at this
  constructor
  · intro h; exact (this.2 ⟨hs, h⟩).2
  · intro h; exact (this.1 ⟨hs, h⟩).2)
theorem flat_same {m r : Nat} (hm : m ≤ 8) {L : List Nat} (hne : L ≠ []) (hF : Fam8 L r) (hE : Exch L) : those m (flatP m L) = those m (flatR (those m (circB m L))) := those_mem_eq (fun s hs => by
  rw [flatP_iff, flat_iff hm hne hF hE hs]
  unfold flatR
  rw [List.all_eq_true]
  constructor
  · intro h c hc
    obtain ⟨h1, h2⟩ := (mem_circ2 hm).1 hc
    have := h c h1 h2
    simp [this]
  · intro h c hc hcc e
    have := h c ((mem_circ2 hm).2 ⟨hc, hcc⟩)
    simp [e] at this)
theorem hyp_same {m r : Nat} (hm : m ≤ 8) {L : List Nat} (hne : L ≠ []) (hF : Fam8 L r) (hlt : ∀ b, b ∈ L → b < bit m) : those m (hypP m L) = those m (mostB (those m (spanR L))) := those_mem_eq (fun s hs => by
  rw [hypP_iff, hyper_iff hm hne hF hlt hs, mostB_iff, mem_those, spanR_iff]
  constructor
  · rintro ⟨h1, h2⟩
    exact ⟨⟨hs, h1⟩, fun x hx hsub => h2 x (mem_those.1 hx).1 (spanR_iff.1 (mem_those.1 hx).2) hsub⟩
  · rintro ⟨⟨_, h1⟩, h2⟩
    exact ⟨h1, fun t ht hn hsub => h2 t (mem_those.2 ⟨ht, spanR_iff.2 hn⟩) hsub⟩)

/-- the closure of a set -/
def CloIs (m : Nat) (L : List Nat) (s X : Nat) : Prop := X < 256 ∧ ∀ i, i < 8 → (X.testBit i = true ↔ s.testBit i = true ∨ (i < m ∧ rk L (s ||| bit i) = rk L s))
theorem CloIs.ex (m : Nat) (L : List Nat) (s : Nat) : ∃ X, CloIs m L s X := by
  obtain ⟨X, h1, h2⟩ := exists_set (fun i => s.testBit i = true ∨ (i < m ∧ rk L (s ||| bit i) = rk L s))
  exact ⟨X, h1, h2⟩
/-- an element is in the closure just if it is in the set or a circuit adds it -/
theorem clo_circ {m r : Nat} (hm : m ≤ 8) {L : List Nat} (hne : L ≠ []) (hF : Fam8 L r) (hE : Exch L) {s i : Nat} (hs : s < bit m) (hi : i < m) : (s.testBit i = true ∨ rk L (s ||| bit i) = rk L s) ↔ (s.testBit i = true ∨ ∃ c, c ∈ those m (circB m L) ∧ c.testBit i = true ∧ c ||| (s ||| bit i) = (s ||| bit i)) := by
  have hb := bit_le m hm
  cases hsi : s.testBit i
  · have h := flat_circ hne hF hE (show s < 256 by omega) (show i < 8 by omega) hsi
    simp only [Bool.false_eq_true, false_or]
    rw [h]
    constructor
    · rintro ⟨c, c1, c2, c3, c4⟩
      exact ⟨c, (mem_circ2 hm).2 ⟨lt_bit_of_sub hm (or_lt_bit hs (bit_lt_bit hi)) c3, c2⟩, c4, or_eq_iff.2 c3⟩
    · rintro ⟨c, c1, c2, c3⟩
      obtain ⟨h1, h2⟩ := (mem_circ2 hm).1 c1
      exact ⟨c, by omega, h2, or_eq_iff.1 c3, c2⟩
  · simp

end Go.Proofs.Ytmcffbmhkbijlaa

namespace Go.Proofs.Ytmcffbmhkbijlaa
set_option linter.unusedVariables false

/-! ### what is left of n elements, numbered anew -/
/-- how many of the first i elements are not gone -/
def cnt (gone : Nat) : Nat → Nat
  | 0 => 0
  | i + 1 => if gone.testBit i = true then cnt gone i else cnt gone i + 1
theorem cnt_yes {gone i : Nat} (h : gone.testBit i = true) : cnt gone (i + 1) = cnt gone i := by simp only [cnt]; rw [if_pos h]
theorem cnt_no {gone i : Nat} (h : gone.testBit i = false) : cnt gone (i + 1) = cnt gone i + 1 := by simp only [cnt]; rw [if_neg (by rw [h]; decide)]
theorem cnt_step (gone i : Nat) : cnt gone i ≤ cnt gone (i + 1) ∧ cnt gone (i + 1) ≤ cnt gone i + 1 := by
  cases h : gone.testBit i
  · rw [cnt_no h]; omega
  · rw [cnt_yes h]; omega
theorem cnt_le (gone i : Nat) : cnt gone i ≤ i := by
  induction i with
  | zero => exact Nat.le_refl _
  | succ i ih => have := cnt_step gone i; omega
theorem cnt_mono (gone : Nat) {i j : Nat} (h : i ≤ j) : cnt gone i ≤ cnt gone j := by
  induction j with
  | zero => have : i = 0 := by omega
            subst this; exact Nat.le_refl _
  | succ j ih =>
    by_cases e : i = j + 1
    · subst e; exact Nat.le_refl _
    · have := cnt_step gone j
      have := ih (by omega)
      omega
theorem cnt_lt {gone i j : Nat} (h : i < j) (hg : gone.testBit i = false) : cnt gone i < cnt gone j := by
  have h1 := cnt_no hg
  have h2 := cnt_mono gone (show i + 1 ≤ j by omega)
  omega
theorem cnt_inj {gone i j : Nat} (hi : gone.testBit i = false) (hj : gone.testBit j = false) (h : cnt gone i = cnt gone j) : i = j := by
  rcases Nat.lt_trichotomy i j with g | g | g
  · have := cnt_lt g hi; omega
  · exact g
  · have := cnt_lt g hj; omega
theorem cnt_onto {gone n q : Nat} (h : q < cnt gone n) : ∃ j, j < n ∧ gone.testBit j = false ∧ cnt gone j = q := by
  induction n with
  | zero => simp only [cnt] at h; omega
  | succ n ih =>
    by_cases c : q < cnt gone n
    · obtain ⟨j, h1, h2, h3⟩ := ih c
      exact ⟨j, by omega, h2, h3⟩
    · cases g : gone.testBit n
      · have := cnt_no g
        exact ⟨n, by omega, g, by omega⟩
      · have := cnt_yes g
        omega
theorem cnt_sum (gone i : Nat) : cnt gone i + bsum (fun j => (gone.testBit j).toNat) i = i := by
  induction i with
  | zero => rfl
  | succ i ih =>
    simp only [bsum]
    cases g : gone.testBit i
    · rw [cnt_no g]; simp; omega
    · rw [cnt_yes g]; simp; omega
theorem bsum_tail {f : Nat → Nat} {n k : Nat} (h : ∀ j, n ≤ j → f j = 0) (hk : n ≤ k) : bsum f k = bsum f n := by
  induction k with
  | zero => have : n = 0 := by omega
            subst this; rfl
  | succ k ih =>
    by_cases e : n = k + 1
    · subst e; rfl
    · simp only [bsum]
      rw [ih (by omega), h k (by omega)]
      omega
theorem bit_hi {n s j : Nat} (hs : s < bit n) (hj : n ≤ j) : s.testBit j = false := by
  cases h : s.testBit j
  · rfl
  · have := lt_m_of_testBit hs h; omega
theorem cnt_sz {gone n : Nat} (hn : n ≤ 8) (h : gone < bit n) : cnt gone n + sz gone = n := by
  have h1 := cnt_sum gone n
  have h2 : bsum (fun j => (gone.testBit j).toNat) 8 = bsum (fun j => (gone.testBit j).toNat) n := bsum_tail (fun j hj => by rw [bit_hi h hj]; rfl) hn
  rw [sz_sum, h2]
  exact h1
theorem sz_le_m {n s : Nat} (hn : n ≤ 8) (h : s < bit n) : sz s ≤ n := by
  have := cnt_sz hn h
  omega

/-- a set of few elements, as one of those that are left -/
def spTo (gone s : Nat) : Nat → Nat
  | 0 => 0
  | i + 1 => if gone.testBit i = false ∧ s.testBit (cnt gone i) = true then spTo gone s i ||| bit i else spTo gone s i
theorem spTo_testBit (gone s i j : Nat) : (spTo gone s i).testBit j = true ↔ j < i ∧ gone.testBit j = false ∧ s.testBit (cnt gone j) = true := by
  induction i with
  | zero => simp [spTo]
  | succ i ih =>
    simp only [spTo]
    by_cases c : gone.testBit i = false ∧ s.testBit (cnt gone i) = true
    · rw [if_pos c, or_bit_testBit, Bool.or_eq_true, ih, decide_eq_true_eq]
      constructor
      · rintro (⟨h1, h2⟩ | h)
        · exact ⟨by omega, h2⟩
        · subst h; exact ⟨by omega, c⟩
      · rintro ⟨h1, h2⟩
        by_cases e : i = j
        · exact .inr e
        · exact .inl ⟨by omega, h2⟩
    · rw [if_neg c, ih]
      constructor
      · rintro ⟨h1, h2⟩; exact ⟨by omega, h2⟩
      · rintro ⟨h1, h2⟩
        by_cases e : i = j
        · subst e; exact absurd h2 c
        · exact ⟨by omega, h2⟩
theorem spTo_lt (gone s i : Nat) : spTo gone s i < bit i := by
  induction i with
  | zero => exact Nat.zero_lt_one
  | succ i ih =>
    simp only [spTo]
    have h2 : bit i < bit (i + 1) := bit_lt_bit (Nat.lt_succ_self i)
    split
    · exact or_lt_bit (by omega) h2
    · omega
/-- what is left of a set, numbered anew -/
def prTo (gone s : Nat) : Nat → Nat
  | 0 => 0
  | i + 1 => if gone.testBit i = false ∧ s.testBit i = true then prTo gone s i ||| bit (cnt gone i) else prTo gone s i
theorem prTo_testBit (gone s i q : Nat) : (prTo gone s i).testBit q = true ↔ ∃ j, j < i ∧ gone.testBit j = false ∧ cnt gone j = q ∧ s.testBit j = true := by
  induction i with
  | zero => simp [prTo]
  | succ i ih =>
    simp only [prTo]
    by_cases c : gone.testBit i = false ∧ s.testBit i = true
    · rw [if_pos c, or_bit_testBit, Bool.or_eq_true, ih, decide_eq_true_eq]
      constructor
      · rintro (⟨j, h1, h2⟩ | h)
        · exact ⟨j, by omega, h2⟩
        · exact ⟨i, by omega, c.1, h, c.2⟩
      · rintro ⟨j, h1, h2, h3, h4⟩
        by_cases e : j = i
        · subst e; exact .inr h3
        · exact .inl ⟨j, by omega, h2, h3, h4⟩
    · rw [if_neg c, ih]
      constructor
      · rintro ⟨j, h1, h2⟩; exact ⟨j, by omega, h2⟩
      · rintro ⟨j, h1, h2, h3, h4⟩
        by_cases e : j = i
        · subst e; exact absurd ⟨h2, h4⟩ c
        · exact ⟨j, by omega, h2, h3, h4⟩
theorem bit_mono {i j : Nat} (h : i ≤ j) : bit i ≤ bit j := Nat.pow_le_pow_right (by decide) h
theorem prTo_lt (gone s i : Nat) : prTo gone s i < bit (cnt gone i) := by
  induction i with
  | zero => exact Nat.zero_lt_one
  | succ i ih =>
    simp only [prTo]
    have h1 := bit_mono (cnt_step gone i).1
    split
    · rename_i c
      refine or_lt_bit (by omega) ?_
      rw [cnt_no c.1]
      exact bit_lt_bit (Nat.lt_succ_self _)
    · omega
theorem pr_sp {gone n t : Nat} (h : t < bit (cnt gone n)) : prTo gone (spTo gone t n) n = t := by
  apply Nat.eq_of_testBit_eq
  intro q
  rw [Bool.eq_iff_iff, prTo_testBit]
  constructor
  · rintro ⟨j, h1, h2, h3, h4⟩
    have := ((spTo_testBit _ _ _ _).1 h4).2.2
    rwa [h3] at this
  · intro hq
    obtain ⟨j, h1, h2, h3⟩ := cnt_onto (lt_m_of_testBit h hq)
    exact ⟨j, h1, h2, h3, (spTo_testBit _ _ _ _).2 ⟨h1, h2, by rw [h3]; exact hq⟩⟩
theorem sp_pr {gone n s : Nat} (h : s < bit n) : spTo gone (prTo gone s n) n = nand s gone := by
  apply Nat.eq_of_testBit_eq
  intro j
  rw [Bool.eq_iff_iff, spTo_testBit, nand_testBit, prTo_testBit, Bool.and_eq_true, Bool.not_eq_true']
  constructor
  · rintro ⟨h1, h2, k, h3, h4, h5, h6⟩
    have := cnt_inj h4 h2 h5
    subst this
    exact ⟨h6, h2⟩
  · rintro ⟨h1, h2⟩
    have h3 := lt_m_of_testBit h h1
    exact ⟨h3, h2, j, h3, h2, rfl, h1⟩
theorem pr_nand (gone s n : Nat) : prTo gone (nand s gone) n = prTo gone s n := by
  apply Nat.eq_of_testBit_eq
  intro q
  rw [Bool.eq_iff_iff, prTo_testBit, prTo_testBit]
  constructor
  · rintro ⟨j, h1, h2, h3, h4⟩
    rw [nand_testBit] at h4
    simp at h4
    exact ⟨j, h1, h2, h3, h4.1⟩
  · rintro ⟨j, h1, h2, h3, h4⟩
    exact ⟨j, h1, h2, h3, by rw [nand_testBit, h4, h2]; rfl⟩
theorem sz_sp {gone n t : Nat} (hn : n ≤ 8) (h : t < bit (cnt gone n)) : sz (spTo gone t n) = sz t := by
  have key : ∀ i, i ≤ n → bsum (fun j => ((spTo gone t n).testBit j).toNat) i = bsum (fun q => (t.testBit q).toNat) (cnt gone i) := by
    intro i
    induction i with
    | zero => intro _; rfl
    | succ i ih =>
      intro hi
      simp only [bsum]
      rw [ih (by omega)]
      cases g : gone.testBit i
      · rw [cnt_no g]
        simp only [bsum]
        have : (spTo gone t n).testBit i = t.testBit (cnt gone i) := by
          rw [Bool.eq_iff_iff, spTo_testBit]
          exact ⟨fun x => x.2.2, fun x => ⟨by omega, g, x⟩⟩
        rw [this]
      · rw [cnt_yes g]
        have : (spTo gone t n).testBit i = false := by
          cases c : (spTo gone t n).testBit i
          · rfl
          · have := ((spTo_testBit _ _ _ _).1 c).2.1
            rw [g] at this; cases this
        rw [this]; simp
  have h1 := key n (Nat.le_refl _)
  have h2 : bsum (fun j => ((spTo gone t n).testBit j).toNat) 8 = bsum (fun j => ((spTo gone t n).testBit j).toNat) n := bsum_tail (fun j hj => by rw [bit_hi (spTo_lt gone t n) hj]; rfl) hn
  have h3 : bsum (fun q => (t.testBit q).toNat) 8 = bsum (fun q => (t.testBit q).toNat) (cnt gone n) := bsum_tail (fun j hj => by rw [bit_hi h hj]; rfl) (by have := cnt_le gone n; omega)
  rw [sz_sum, sz_sum, h2, h3, h1]
theorem sp_sub {gone t n : Nat} : sub (spTo gone t n) (nand (bit n - 1) gone) := fun j hj => by
  obtain ⟨h1, h2, _⟩ := (spTo_testBit _ _ _ _).1 hj
  rw [nand_testBit, testBit_all, h2]
  simpa using h1
theorem sp_all (gone n : Nat) : spTo gone (bit (cnt gone n) - 1) n = nand (bit n - 1) gone := by
  apply Nat.eq_of_testBit_eq
  intro j
  rw [Bool.eq_iff_iff, spTo_testBit, nand_testBit, testBit_all, testBit_all, Bool.and_eq_true, Bool.not_eq_true', decide_eq_true_eq, decide_eq_true_eq]
  constructor
  · rintro ⟨h1, h2, _⟩; exact ⟨h1, h2⟩
  · rintro ⟨h1, h2⟩; exact ⟨h1, h2, cnt_lt h1 h2⟩

/-! ### those of a list with the greatest key -/
def growL (key : Nat → Int) (L : List Nat) : Nat → List Nat × Int
  | 0 => ([], -1)
  | k + 1 => if (growL key L k).2 < key (L.getD k 0) then ([L.getD k 0], key (L.getD k 0)) else if key (L.getD k 0) = (growL key L k).2 then ((growL key L k).1 ++ [L.getD k 0], (growL key L k).2) else growL key L k
theorem growL_len (key : Nat → Int) (L : List Nat) (k : Nat) : (growL key L k).1.length ≤ k := by
  induction k with
  | zero => exact Nat.le_refl _
  | succ k ih =>
    simp only [growL]
    split
    · simp
    · split
      · simp; exact ih
      · omega
theorem growL_is (key : Nat → Int) (L : List Nat) (k : Nat) (hpos : ∀ i, i < k → 0 ≤ key (L.getD i 0)) : (∀ i, i < k → key (L.getD i 0) ≤ (growL key L k).2) ∧ (∀ b, b ∈ (growL key L k).1 ↔ (∃ i, i < k ∧ L.getD i 0 = b) ∧ key b = (growL key L k).2) := by
  induction k with
  | zero => exact ⟨fun i hi => by omega, fun b => by simp [growL]⟩
  | succ k ih =>
    obtain ⟨h1, h2⟩ := ih (fun i hi => hpos i (by omega))
    simp only [growL]
    by_cases c1 : (growL key L k).2 < key (L.getD k 0)
    · rw [if_pos c1]
      refine ⟨fun i hi => ?_, fun b => ?_⟩
      · by_cases e : i = k
        · subst e; exact Int.le_refl _
        · have := h1 i (by omega)
          show _ ≤ key (L.getD k 0)
          omega
      · show b ∈ [L.getD k 0] ↔ _ ∧ key b = key (L.getD k 0)
        rw [List.mem_singleton]
        constructor
        · rintro rfl; exact ⟨⟨k, by omega, rfl⟩, rfl⟩
        · rintro ⟨⟨i, hi, rfl⟩, he⟩
          by_cases e : i = k
          · subst e; rfl
          · have := h1 i (by omega); omega
    · rw [if_neg c1]
      by_cases c2 : key (L.getD k 0) = (growL key L k).2
      · rw [if_pos c2]
        refine ⟨fun i hi => ?_, fun b => ?_⟩
        · show _ ≤ (growL key L k).2
          by_cases e : i = k
          · subst e; omega
          · exact h1 i (by omega)
        · show b ∈ (growL key L k).1 ++ [L.getD k 0] ↔ _ ∧ key b = (growL key L k).2
          rw [List.mem_append, List.mem_singleton, h2]
          constructor
          · rintro (⟨⟨i, hi, rfl⟩, he⟩ | rfl)
            · exact ⟨⟨i, by omega, rfl⟩, he⟩
            · exact ⟨⟨k, by omega, rfl⟩, c2⟩
          · rintro ⟨⟨i, hi, rfl⟩, he⟩
            by_cases e : i = k
            · subst e; exact .inr rfl
            · exact .inl ⟨⟨i, by omega, rfl⟩, he⟩
      · rw [if_neg c2]
        refine ⟨fun i hi => ?_, fun b => ?_⟩
        · by_cases e : i = k
          · subst e; omega
          · exact h1 i (by omega)
        · rw [h2]
          constructor
          · rintro ⟨⟨i, hi, rfl⟩, he⟩; exact ⟨⟨i, by omega, rfl⟩, he⟩
          · rintro ⟨⟨i, hi, rfl⟩, he⟩
            by_cases e : i = k
            · subst e; exact absurd he c2
            · exact ⟨⟨i, by omega, rfl⟩, he⟩
theorem mem_growL {key : Nat → Int} {L : List Nat} (hpos : ∀ b, b ∈ L → 0 ≤ key b) {b : Nat} : b ∈ (growL key L L.length).1 ↔ b ∈ L ∧ ∀ x, x ∈ L → key x ≤ key b := by
  have hget : ∀ i, i < L.length → L.getD i 0 ∈ L := fun i hi => by simp [hi]
  obtain ⟨h1, h2⟩ := growL_is key L L.length (fun i hi => hpos _ (hget i hi))
  have hex : ∀ x, x ∈ L → ∃ i, i < L.length ∧ L.getD i 0 = x := fun x hx => by
    obtain ⟨i, hi, e⟩ := List.getElem_of_mem hx
    exact ⟨i, hi, by simp [hi, e]⟩
  rw [h2]
  constructor
  · rintro ⟨⟨i, hi, rfl⟩, he⟩
    refine ⟨hget i hi, fun x hx => ?_⟩
    obtain ⟨j, hj, rfl⟩ := hex x hx
    have := h1 j hj
    omega
  · rintro ⟨hb, hm⟩
    refine ⟨hex b hb, ?_⟩
    obtain ⟨i, hi, e⟩ := hex b hb
    have h3 := h1 i hi
    rw [e] at h3
    -- the greatest key is met
    have hat : ∀ k, k ≤ L.length → (growL key L k).2 = -1 ∨ ∃ j, j < k ∧ key (L.getD j 0) = (growL key L k).2 := by
      intro k
      induction k with
      | zero => intro _; exact .inl rfl
      | succ k ih =>
        intro hk
        simp only [growL]
        split
        · exact .inr ⟨k, by omega, rfl⟩
        · split
          · rename_i c2
            exact .inr ⟨k, by omega, c2⟩
          · rcases ih (by omega) with h | ⟨j, hj, h⟩
            · exact .inl h
            · exact .inr ⟨j, by omega, h⟩
    rcases hat L.length (Nat.le_refl _) with h | ⟨j, hj, h⟩
    · have := hpos b hb; omega
    · have := hm _ (hget j hj)
      omega

/-! ### the same matroids -/
/-- whether a set is a basis of the matroid of a rank function -/
def ofRank (n : Nat) (r : Nat → Int) (s : Nat) : Bool := decide (r s = sz s ∧ r s = r (bit n - 1))
def memB (l : List Nat) (s : Nat) : Bool := decide (s ∈ l)
theorem sz_full {m : Nat} (hm : m ≤ 8) : sz (bit m - 1) = m := by
  have : ∀ m : Fin 9, sz (bit m.val - 1) = m.val := by decide
  exact this ⟨m, by omega⟩
theorem all_and {m b : Nat} (h : b < bit m) : (bit m - 1) &&& b = b := by
  apply Nat.eq_of_testBit_eq
  intro i
  rw [Nat.testBit_and, testBit_all]
  cases c : b.testBit i
  · simp
  · have := lt_m_of_testBit h c
    simp [this]
theorem nand_all_all (x : Nat) : nand x x = 0 := by
  apply Nat.eq_of_testBit_eq
  intro i
  rw [nand_testBit]
  cases x.testBit i <;> simp
theorem nand_nand {m s : Nat} (h : s < bit m) : nand (bit m - 1) (nand (bit m - 1) s) = s := by
  apply Nat.eq_of_testBit_eq
  intro i
  rw [nand_testBit, nand_testBit, testBit_all]
  cases c : s.testBit i
  · cases decide (i < m) <;> rfl
  · have := lt_m_of_testBit h c
    simp [this]
theorem all_lt (m : Nat) : bit m - 1 < bit m := by
  have : 1 ≤ bit m := Nat.one_le_two_pow
  omega
theorem nand_all_lt (m s : Nat) : nand (bit m - 1) s < bit m := by
  have h1 := nand_le (bit m - 1) s
  have h2 := all_lt m
  omega
theorem sz_nand_all {m s : Nat} (hm : m ≤ 8) (h : s < bit m) : sz (nand (bit m - 1) s) + sz s = m := by
  have h1 := sz_diff (bit m - 1) s
  rw [all_and h, sz_full hm] at h1
  exact h1
theorem mem_of_ind_sz {L : List Nat} {r s : Nat} (hF : Fam8 L r) (hs : s < 256) (h : Ind L s) (hz : sz s = r) : s ∈ L := by
  obtain ⟨b, hb, hsub⟩ := h
  have := eq_of_sub_sz hs (hF.lt b hb) hsub (by rw [hF.eq b hb]; omega)
  rw [this]; exact hb
theorem rk_zero (L : List Nat) : rk L 0 = 0 := by
  have := rk_le L 0
  rw [sz_zero] at this
  omega

def dualR (m : Nat) (L : List Nat) (s : Nat) : Int := (sz s : Int) - rk L (bit m - 1) + rk L (nand (bit m - 1) s)
theorem dual_same {m r : Nat} (hm : m ≤ 8) {L : List Nat} (hne : L ≠ []) (hF : Fam8 L r) (hlt : ∀ b, b ∈ L → b < bit m) : those m (memB (L.map (fun b => nand (bit m - 1) b))) = those m (ofRank m (dualR m L)) := those_mem_eq (fun s hs => by
  have hbm := bit_le m hm
  have hra := rk_all hne hF hlt
  unfold memB ofRank dualR
  rw [decide_eq_true_eq, decide_eq_true_eq, nand_all_all, rk_zero, sz_full hm, hra, List.mem_map]
  have hsz := sz_nand_all hm hs
  have hc : nand (bit m - 1) s < 256 := by have := nand_all_lt m s; omega
  constructor
  · rintro ⟨b, hb, rfl⟩
    rw [nand_nand (hlt b hb)]
    have h1 := rk_ind (L := L) (I := b) (s := b) ⟨b, hb, fun _ h => h⟩ (fun _ h => h)
    have h2 := rk_le L b
    have h3 := hF.eq b hb
    have h4 := sz_nand_all hm (hlt b hb)
    omega
  · rintro ⟨h1, h2⟩
    refine ⟨nand (bit m - 1) s, mem_of_ind_sz hF hc ((ind_rk hne hc).2 ?_) ?_, nand_nand hs⟩
    · omega
    · omega)

def delR (m : Nat) (L : List Nat) (s t : Nat) : Int := (rk L (spTo s t m) : Int)
def delKey (m s b : Nat) : Int := (m : Int) - sz (b &&& s)
def delL (m : Nat) (L : List Nat) (s : Nat) : List Nat := ((growL (delKey m s) L L.length).1).map (fun b => prTo s b m)
theorem and_nand_all {m s b : Nat} (h : b < bit m) : nand (bit m - 1) s &&& b = nand b s := by
  apply Nat.eq_of_testBit_eq
  intro i
  rw [Nat.testBit_and, nand_testBit, nand_testBit, testBit_all]
  cases c : b.testBit i
  · simp
  · have := lt_m_of_testBit h c
    simp [this]
theorem and_eq_left {a b : Nat} (h : sub a b) : a &&& b = a := by
  apply Nat.eq_of_testBit_eq
  intro i
  rw [Nat.testBit_and]
  cases c : a.testBit i
  · rfl
  · rw [h i c]; rfl
theorem rk_self {L : List Nat} {I : Nat} (h : Ind L I) : rk L I = sz I := by
  have h1 := rk_ind h (fun _ x => x)
  have h2 := rk_le L I
  omega
theorem del_same {m r s : Nat} (hm : m ≤ 8) {L : List Nat} (hne : L ≠ []) (hF : Fam8 L r) (hlt : ∀ b, b ∈ L → b < bit m) (hs : s < bit m) : those (cnt s m) (memB (delL m L s)) = those (cnt s m) (ofRank (cnt s m) (delR m L s)) := those_mem_eq (fun t ht => by
  have hbm := bit_le m hm
  unfold memB ofRank delR delL
  rw [decide_eq_true_eq, decide_eq_true_eq, sp_all, List.mem_map]
  have hpos : ∀ b, b ∈ L → 0 ≤ delKey m s b := fun b hb => by
    have h1 := sz_le_m hm (hlt b hb)
    have h2 := sz_mono (sub_and_left b s)
    unfold delKey; omega
  have hsz := sz_sp hm ht
  have hS : spTo s t m < 256 := by have := spTo_lt s t m; omega
  have hE : ∀ b, b ∈ L → sz (nand b s) ≤ rk L (nand (bit m - 1) s) := fun b hb => by
    have := rk_ge (nand (bit m - 1) s) hb
    rwa [and_nand_all (hlt b hb)] at this
  have hkey : ∀ b, b ∈ L → delKey m s b = (m : Int) - r + sz (nand b s) := fun b hb => by
    have h1 := sz_diff b s
    have h2 := hF.eq b hb
    unfold delKey; omega
  obtain ⟨b0, hb0, e0⟩ := rk_at hne (nand (bit m - 1) s)
  rw [and_nand_all (hlt b0 hb0)] at e0
  constructor
  · rintro ⟨b, hb, hp⟩
    rw [mem_growL hpos] at hb
    obtain ⟨hb, hmax⟩ := hb
    have hSb : spTo s t m = nand b s := by rw [← hp, sp_pr (hlt b hb)]
    have h1 := hmax b0 hb0
    rw [hkey b0 hb0, hkey b hb] at h1
    have h2 := hE b hb
    have h3 := rk_self (L := L) (I := nand b s) ⟨b, hb, fun k hk => by rw [nand_testBit] at hk; simp at hk; exact hk.1⟩
    rw [hSb] at hsz ⊢
    omega
  · rintro ⟨h1, h2⟩
    obtain ⟨b, hb, e⟩ := rk_at hne (spTo s t m)
    have h3 : spTo s t m &&& b = spTo s t m := eq_of_sub_sz (and_lt256 hS) hS (sub_and_left _ _) (by omega)
    have h4 : sub (spTo s t m) b := fun k hk => by rw [← h3, Nat.testBit_and] at hk; simp at hk; exact hk.2
    have h5 : sub (spTo s t m) (nand b s) := fun k hk => by
      have := sp_sub k hk
      rw [nand_testBit] at this ⊢
      simp at this
      rw [h4 k hk, this.2]; rfl
    have h6 := hE b hb
    have h7 : spTo s t m = nand b s := eq_of_sub_sz hS (nand_lt _ _ 8 (hF.lt b hb)) h5 (by omega)
    refine ⟨b, (mem_growL hpos).2 ⟨hb, fun x hx => ?_⟩, ?_⟩
    · rw [hkey x hx, hkey b hb]
      have := hE x hx
      rw [← h7]
      omega
    · rw [← pr_nand, ← h7, pr_sp ht])

def conR (m : Nat) (L : List Nat) (s t : Nat) : Int := (rk L (spTo s t m ||| s) : Int) - rk L s
def conKey (s b : Nat) : Int := (sz (b &&& s) : Int)
def conL (m : Nat) (L : List Nat) (s : Nat) : List Nat := ((growL (conKey s) L L.length).1).map (fun b => prTo s b m)
theorem nand_all_or {m s : Nat} (hs : s < bit m) : nand (bit m - 1) s ||| s = bit m - 1 := by
  apply Nat.eq_of_testBit_eq
  intro i
  rw [Nat.testBit_or, nand_testBit, testBit_all]
  cases c : s.testBit i
  · simp
  · have := lt_m_of_testBit hs c
    simp [this]
theorem con_same {m r s : Nat} (hm : m ≤ 8) {L : List Nat} (hne : L ≠ []) (hF : Fam8 L r) (hlt : ∀ b, b ∈ L → b < bit m) (hs : s < bit m) : those (cnt s m) (memB (conL m L s)) = those (cnt s m) (ofRank (cnt s m) (conR m L s)) := those_mem_eq (fun t ht => by
  have hbm := bit_le m hm
  have hra := rk_all hne hF hlt
  unfold memB ofRank conR conL
  rw [decide_eq_true_eq, decide_eq_true_eq, sp_all, nand_all_or hs, hra, List.mem_map]
  have hpos : ∀ b, b ∈ L → 0 ≤ conKey s b := fun b hb => by unfold conKey; omega
  have hsz := sz_sp hm ht
  have hSl := spTo_lt s t m
  have hS : spTo s t m < 256 := by omega
  have hE : ∀ b, b ∈ L → sz (b &&& s) ≤ rk L s := fun b hb => by
    have := rk_ge s hb
    rwa [Nat.and_comm] at this
  obtain ⟨b0, hb0, e0⟩ := rk_at hne s
  rw [Nat.and_comm] at e0
  constructor
  · rintro ⟨b, hb, hp⟩
    rw [mem_growL hpos] at hb
    obtain ⟨hb, hmax⟩ := hb
    have hSb : spTo s t m = nand b s := by rw [← hp, sp_pr (hlt b hb)]
    have h1 := hmax b0 hb0
    unfold conKey at h1
    have h2 := hE b hb
    have h3 := sz_diff b s
    have h4 := hF.eq b hb
    have h5 : sz b ≤ rk L (spTo s t m ||| s) := rk_ind ⟨b, hb, fun _ h => h⟩ (fun k hk => by
      rw [Nat.testBit_or, hSb, nand_testBit, hk]
      cases s.testBit k <;> rfl)
    have h6 := rk_mono hne (show sub (spTo s t m ||| s) (bit m - 1) from fun k hk => by
      rw [testBit_all]
      have := lt_m_of_testBit (or_lt_bit hSl hs) hk
      simpa using this)
    rw [hra] at h6
    rw [hSb] at hsz
    omega
  · rintro ⟨h1, h2⟩
    obtain ⟨b, hb, e⟩ := rk_at hne (spTo s t m ||| s)
    have h4 := hF.eq b hb
    -- the basis lies within S and s
    have hX : spTo s t m ||| s < 256 := or_lt _ _ hS (by omega)
    have h5 : (spTo s t m ||| s) &&& b = b := eq_of_sub_sz (and_lt256 hX) (hF.lt b hb) (sub_and_right _ _) (by omega)
    have h6 : ∀ k, b.testBit k = true → (spTo s t m).testBit k = true ∨ s.testBit k = true := fun k hk => by
      rw [← h5, Nat.testBit_and, Nat.testBit_or] at hk
      simp at hk
      exact hk.1
    have h7 : sub (nand b s) (spTo s t m) := fun k hk => by
      rw [nand_testBit] at hk
      simp at hk
      rcases h6 k hk.1 with h | h
      · exact h
      · rw [h] at hk; simp at hk
    have h8 := sz_diff b s
    have h9 := hE b hb
    have h10 : nand b s = spTo s t m := eq_of_sub_sz (nand_lt _ _ 8 (hF.lt b hb)) hS h7 (by omega)
    refine ⟨b, (mem_growL hpos).2 ⟨hb, fun x hx => ?_⟩, ?_⟩
    · have := hE x hx
      unfold conKey
      rw [h10] at h8
      omega
    · rw [← pr_nand, h10, pr_sp ht])

def cutR (L : List Nat) (k : Int) (s : Nat) : Int := min (rk L s : Int) k
theorem cut_same {m r : Nat} (hm : m ≤ 8) {L : List Nat} (hne : L ≠ []) (hF : Fam8 L r) (hlt : ∀ b, b ∈ L → b < bit m) {k : Int} (h0 : 0 ≤ k) (hk : k ≤ r) : those m (memB ((those m (indP L)).filter (fun s => decide ((sz s : Int) = k)))) = those m (ofRank m (cutR L k)) := those_mem_eq (fun s hs => by
  have hra := rk_all hne hF hlt
  unfold memB ofRank cutR
  rw [decide_eq_true_eq, decide_eq_true_eq, hra, List.mem_filter, mem_those, decide_eq_true_eq]
  unfold indP
  rw [decide_eq_true_eq]
  have := rk_le L s
  constructor
  · rintro ⟨⟨_, h1⟩, h2⟩; omega
  · rintro ⟨h1, h2⟩; exact ⟨⟨hs, by omega⟩, by omega⟩)

end Go.Proofs.Ytmcffbmhkbijlaa
