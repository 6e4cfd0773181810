
/-
  rotaref.Ring.
  The circuit that an element makes with a basis, plainly: it is the only one within both.
  The families of a matroid, plainly: as axioms tells them and as rotaref tells them.
-/
import Derived.Test.YtdcdhdlklppalaaPk10
import Derived.Test.YtdcdhdlklppalaaPk08
namespace Go.Proofs.Ytdcdhdlklppalaa
open Go.RowKit
set_option linter.unusedVariables false

/-- the first of the circuits that lies in a set; 0: none -/
def RingIs (C : List Nat) (t r : Nat) : Prop := (∃ k, k < C.length ∧ C.getD k 0 ||| t = t ∧ (∀ i, i < k → ¬ C.getD i 0 ||| t = t) ∧ r = C.getD k 0) ∨ ((∀ i, i < C.length → ¬ C.getD i 0 ||| t = t) ∧ r = 0)

end Go.Proofs.Ytdcdhdlklppalaa

namespace Go.Proofs.Ytdcdhdlklppalaa
set_option linter.unusedVariables false

theorem extend_basis {L : List Nat} {r : Nat} (hF : Fam8 L r) (hE : Exch L) {b : Nat} (hb : b ∈ L) : ∀ d I, I < 256 → Ind L I → r - sz I = d → ∃ B, B ∈ L ∧ sub I B ∧ sub B (I ||| b) := by
  intro d
  induction d with
  | zero =>
    intro I hI8 hI hd
    obtain ⟨B, hB, hs⟩ := hI
    have h1 := hF.eq _ hB
    have e : I = B := eq_of_sub_sz hI8 (hF.lt _ hB) hs (by omega)
    exact ⟨B, hB, hs, by rw [← e]; exact sub_or_left _ _⟩
  | succ d ih =>
    intro I hI8 hI hd
    obtain ⟨B0, hB0, hs0⟩ := hI
    have h1 := hF.eq _ hb
    obtain ⟨y, hy8, hyb, hyI, hind⟩ := augment hF hE (I := I) (J := b) (by omega) _ B0 b hB0 hb hs0 (fun _ h => h) rfl
    have hsz := sz_add hy8 hyI
    obtain ⟨B, hB, h2, h3⟩ := ih (I ||| bit y) (or_lt _ _ hI8 (bit_lt256 y hy8)) hind (by omega)
    refine ⟨B, hB, sub_trans (sub_or_left _ _) h2, fun q hq => ?_⟩
    have := h3 q hq
    rw [Nat.testBit_or, or_bit_testBit] at this
    rw [Nat.testBit_or]
    by_cases c : y = q
    · subst c; rw [hyb]; simp
    · simp [c] at this; simpa using this
/-- the circuit that i makes with b -/
def FundIs (L : List Nat) (b i F : Nat) : Prop := F < 256 ∧ ∀ x, x < 8 → (F.testBit x = true ↔ x = i ∨ (b.testBit x = true ∧ (nand b (bit x) ||| bit i) ∈ L))
theorem FundIs.ex (L : List Nat) (b i : Nat) : ∃ F, FundIs L b i F := by
  obtain ⟨X, h1, h2⟩ := exists_set (fun x => x = i ∨ (b.testBit x = true ∧ (nand b (bit x) ||| bit i) ∈ L))
  exact ⟨X, h1, h2⟩
theorem fund_within {L : List Nat} {b i F : Nat} (hF : FundIs L b i F) : sub F (b ||| bit i) := fun x hx => by
  rw [or_bit_testBit]
  rcases (hF.2 x (lt_of_testBit hF.1 hx)).1 hx with h | h
  · simp [h]
  · simp [h.1]
theorem fund_least {L : List Nat} {b i F C : Nat} (hb : b ∈ L) (hF : FundIs L b i F) (hC : sub C (b ||| bit i)) (hd : ¬ Ind L C) : sub F C := fun x hx => by
  rcases (hF.2 x (lt_of_testBit hF.1 hx)).1 hx with h | h
  · cases hc : C.testBit x
    · exact absurd ⟨b, hb, fun q hq => by
        have := hC q hq
        rw [or_bit_testBit] at this
        have hne : i ≠ q := by rintro rfl; rw [h, hq] at hc; cases hc
        simpa [hne] using this⟩ hd
    · rfl
  · cases hc : C.testBit x
    · exact absurd ⟨_, h.2, fun q hq => by
        have := hC q hq
        have hne : x ≠ q := by rintro rfl; rw [hq] at hc; cases hc
        rw [or_bit_testBit] at this ⊢
        rw [nand_testBit_bit]
        simpa [hne] using this⟩ hd
    · rfl
theorem fund_dep {L : List Nat} {r b i F : Nat} (hf : Fam8 L r) (hE : Exch L) (hb : b ∈ L) (hi : i < 8) (hbi : b.testBit i = false) (hF : FundIs L b i F) : ¬ Ind L F := by
  intro hI
  obtain ⟨B, hB, h1, h2⟩ := extend_basis hf hE hb _ F hF.1 hI rfl
  have hsB := hf.eq _ hB
  have hsb := hf.eq _ hb
  have hsi := sz_add hi hbi
  have hBw : sub B (b ||| bit i) := fun q hq => by
    have := h2 q hq
    rw [Nat.testBit_or] at this
    cases hq2 : F.testBit q
    · rw [hq2] at this
      rw [or_bit_testBit]; simp at this; simp [this]
    · exact fund_within hF q hq2
  have hnot : ¬ sub (b ||| bit i) B := fun h => by have := sz_mono h; omega
  obtain ⟨x, hx1, hx2⟩ := exists_diff hnot
  have hiF : F.testBit i = true := (hF.2 i hi).2 (.inl rfl)
  have hxi : x ≠ i := by rintro rfl; rw [h1 _ hiF] at hx2; cases hx2
  have hbx : b.testBit x = true := by rw [or_bit_testBit] at hx1; simpa [Ne.symm hxi] using hx1
  have hx8 := lt_of_testBit (hf.lt _ hb) hbx
  have e : B = nand b (bit x) ||| bit i := by
    refine eq_of_sub_sz (hf.lt _ hB) (or_lt _ _ (nand_lt _ _ 8 (hf.lt _ hb)) (bit_lt256 i hi)) (fun q hq => ?_) ?_
    · have := hBw q hq
      have hne : x ≠ q := by rintro rfl; rw [hq] at hx2; cases hx2
      rw [or_bit_testBit] at this ⊢
      rw [nand_testBit_bit]
      simpa [hne] using this
    · have h3 := sz_less hx8 hbx
      have h4 := sz_add_le (a := nand b (bit x)) hi
      omega
  have hxF : F.testBit x = true := (hF.2 x hx8).2 (.inr ⟨hbx, by rw [← e]; exact hB⟩)
  rw [h1 x hxF] at hx2
  cases hx2
theorem mem_circ {m : Nat} {L : List Nat} {s : Nat} : s ∈ those m (circB m L) ↔ s < bit m ∧ ¬ Ind L s ∧ ∀ x, x < bit m → ¬ Ind L x → x = s ∨ ¬ x ||| s = s := by
  rw [mem_those]
  unfold circB leastB
  rw [Bool.and_eq_true, decide_eq_true_eq, mem_those, List.all_eq_true]
  have hfr : ∀ x, (!freeB L x) = true ↔ ¬ Ind L x := fun x => by rw [← freeB_iff]; simp
  constructor
  · rintro ⟨h1, ⟨_, h2⟩, h3⟩
    refine ⟨h1, (hfr s).1 h2, fun x hx hd => ?_⟩
    have := h3 x (mem_those.2 ⟨hx, (hfr x).2 hd⟩)
    simpa using this
  · rintro ⟨h1, h2, h3⟩
    refine ⟨h1, ⟨h1, (hfr s).2 h2⟩, fun x hx => ?_⟩
    have hx' := mem_those.1 hx
    have := h3 x hx'.1 ((hfr x).1 hx'.2)
    simpa using this
theorem ring_is {L : List Nat} {r m b i F : Nat} (hm : m ≤ 8) (hf : Fam8 L r) (hlt : ∀ b, b ∈ L → b < bit m) (hE : Exch L) (hb : b ∈ L) (hi : i < m) (hbi : b.testBit i = false) (hF : FundIs L b i F) : RingIs (those m (circB m L)) (b ||| bit i) F := by
  have hdep := fund_dep hf hE hb (by omega) hbi hF
  have hFw := fund_within hF
  have hFm : F < bit m := (lt_pow_iff m F hm hF.1).2 (fun q hq8 hq => by
    have h1 := hFw q hq
    rw [or_bit_testBit] at h1
    by_cases c : i = q
    · omega
    · simp [c] at h1; exact lt_m_of_testBit (hlt _ hb) h1)
  have hcirc : F ∈ those m (circB m L) := mem_circ.2 ⟨hFm, hdep, fun x hx hd => by
    by_cases hxF : x ||| F = F
    · left
      have h1 : sub x F := or_eq_iff.1 hxF
      exact sub_antisymm h1 (fund_least hb hF (sub_trans h1 hFw) hd)
    · exact .inr hxF⟩
  have huniq : ∀ C, C ∈ those m (circB m L) → C ||| (b ||| bit i) = (b ||| bit i) → C = F := fun C hC hw => by
    obtain ⟨h1, h2, h3⟩ := mem_circ.1 hC
    have h4 := fund_least hb hF (or_eq_iff.1 hw) h2
    rcases h3 F hFm hdep with h | h
    · exact h.symm
    · exact absurd (or_eq_iff.2 h4) h
  obtain ⟨k0, hk0, ek0⟩ := List.getElem_of_mem hcirc
  have first : ∀ n, (∃ k, k < n ∧ k < (those m (circB m L)).length ∧ (those m (circB m L)).getD k 0 ||| (b ||| bit i) = (b ||| bit i) ∧ ∀ l, l < k → ¬ (those m (circB m L)).getD l 0 ||| (b ||| bit i) = (b ||| bit i)) ∨ ∀ k, k < n → k < (those m (circB m L)).length → ¬ (those m (circB m L)).getD k 0 ||| (b ||| bit i) = (b ||| bit i) := by
    intro n
    induction n with
    | zero => exact .inr (fun k hk => by omega)
    | succ n ih =>
      rcases ih with ⟨k, h1, h2⟩ | h
      · exact .inl ⟨k, by omega, h2⟩
      · by_cases hn : n < (those m (circB m L)).length ∧ (those m (circB m L)).getD n 0 ||| (b ||| bit i) = (b ||| bit i)
        · exact .inl ⟨n, by omega, hn.1, hn.2, fun l hl => h l hl (by omega)⟩
        · exact .inr (fun k hk hkl hw => by
            by_cases c : k = n
            · subst c; exact hn ⟨hkl, hw⟩
            · exact h k (by omega) hkl hw)
  rcases first (those m (circB m L)).length with ⟨k, h1, h2, h3, h4⟩ | h
  · exact .inl ⟨k, h2, h3, h4, (huniq _ (by simp [h2]) h3).symm⟩
  · exact absurd (by rw [show (those m (circB m L)).getD k0 0 = F by simp [hk0, ek0]]; exact or_eq_iff.2 hFw) (h k0 hk0 hk0)

end Go.Proofs.Ytdcdhdlklppalaa

namespace Go.Proofs.Ytdcdhdlklppalaa
set_option linter.unusedVariables false

theorem those_congr {m : Nat} {p q : Nat → Bool} (h : ∀ s, s < bit m → p s = q s) : those m p = those m q := by
  unfold those
  exact List.filter_congr (fun s hs => h s (by simpa using hs))
theorem bool_iff {a b : Bool} (h : a = true ↔ b = true) : a = b := Bool.eq_iff_iff.2 h

/-! as axioms tells them -/
def indP (L : List Nat) (s : Nat) : Bool := decide (rk L s = sz s)
def circP (L : List Nat) (s : Nat) : Bool := decide (rk L s + 1 = sz s) && (List.range 8).all (fun i => !s.testBit i || decide (rk L (nand s (bit i)) = sz (nand s (bit i))))
def flatP (m : Nat) (L : List Nat) (s : Nat) : Bool := (List.range m).all (fun i => s.testBit i || !decide (rk L (s ||| bit i) = rk L s))
def hypP (m : Nat) (L : List Nat) (s : Nat) : Bool := decide (rk L s + 1 = rk L (bit m - 1)) && flatP m L s
theorem circP_iff {L : List Nat} {s : Nat} : circP L s = true ↔ (rk L s + 1 = sz s ∧ ∀ i, i < 8 → s.testBit i = true → rk L (nand s (bit i)) = sz (nand s (bit i))) := by
  unfold circP
  rw [Bool.and_eq_true, decide_eq_true_eq, List.all_eq_true]
  constructor
  · rintro ⟨h1, h2⟩
    refine ⟨h1, fun i hi hb => ?_⟩
    have := h2 i (by simpa using hi)
    rw [hb] at this
    simpa using this
  · rintro ⟨h1, h2⟩
    refine ⟨h1, fun i hi => ?_⟩
    cases c : s.testBit i
    · rfl
    · have := h2 i (by simpa using hi) c
      simp [this]
theorem flatP_iff {m : Nat} {L : List Nat} {s : Nat} : flatP m L s = true ↔ Flat m L s := by
  unfold flatP Flat
  rw [List.all_eq_true]
  constructor
  · intro h i hi hb
    have := h i (by simpa using hi)
    rw [hb] at this
    simpa using this
  · intro h i hi
    cases c : s.testBit i
    · have := h i (by simpa using hi) c
      simp [this]
    · rfl
theorem hypP_iff {m : Nat} {L : List Nat} {s : Nat} : hypP m L s = true ↔ (rk L s + 1 = rk L (bit m - 1) ∧ Flat m L s) := by
  unfold hypP
  rw [Bool.and_eq_true, decide_eq_true_eq, flatP_iff]

/-! as rotaref tells them -/
/-- of a family's sets: one that lies within no other one -/
def mostB (M : List Nat) (s : Nat) : Bool := decide (s ∈ M) && M.all (fun x => decide (x = s) || !decide (s ||| x = x))
def flatR (C : List Nat) (s : Nat) : Bool := C.all (fun c => !decide (sz (nand c s) = 1))
def spanR (L : List Nat) (s : Nat) : Bool := L.all (fun b => !decide (b ||| s = s))
theorem mem_circ2 {m : Nat} (hm : m ≤ 8) {L : List Nat} {s : Nat} : s ∈ those m (circB m L) ↔ s < bit m ∧ Circ L s := by
  have hb := bit_le m hm
  rw [mem_circ]
  constructor
  · rintro ⟨h1, h2, h3⟩
    refine ⟨h1, h2, fun t ht hts hne => Classical.byContradiction fun hd => ?_⟩
    rcases h3 t (lt_bit_of_sub hm h1 hts) hd with h | h
    · exact hne h
    · exact h (or_eq_iff.2 hts)
  · rintro ⟨h1, h2, h3⟩
    refine ⟨h1, h2, fun x hx hd => ?_⟩
    by_cases e : x = s
    · exact .inl e
    · exact .inr (fun h => hd (h3 x (by omega) (or_eq_iff.1 h) e))
theorem spanR_iff {L : List Nat} {s : Nat} : spanR L s = true ↔ NoSpan L s := by
  unfold spanR NoSpan
  rw [List.all_eq_true]
  constructor
  · intro h b hb hs
    have := h b hb
    simp [or_eq_iff.2 hs] at this
  · intro h b hb
    have := h b hb
    simp only [Bool.not_eq_true', decide_eq_false_iff_not]
    exact fun e => this (or_eq_iff.1 e)
theorem mostB_iff {M : List Nat} {s : Nat} : mostB M s = true ↔ s ∈ M ∧ ∀ x, x ∈ M → sub s x → x = s := by
  unfold mostB
  rw [Bool.and_eq_true, decide_eq_true_eq, List.all_eq_true]
  constructor
  · rintro ⟨h1, h2⟩
    refine ⟨h1, fun x hx hs => ?_⟩
    have := h2 x hx
    simp [or_eq_iff.2 hs] at this
    exact this
  · rintro ⟨h1, h2⟩
    refine ⟨h1, fun x hx => ?_⟩
    by_cases e : x = s
    · simp [e]
    · have : ¬ s ||| x = x := fun h => e (h2 x hx (or_eq_iff.1 h))
      simp [e, this]

/-! they are the same -/
theorem ind_same {m : Nat} (hm : m ≤ 8) {L : List Nat} (hne : L ≠ []) : those m (indP L) = those m (freeB L) := those_congr (fun s hs => bool_iff (by
  have hb := bit_le m hm
  rw [freeB_iff, ind_rk hne (show s < 256 by omega)]
  unfold indP
  rw [decide_eq_true_eq]))
theorem those_mem_eq {m : Nat} {p q : Nat → Bool} (h : ∀ s, s < bit m → (p s = true ↔ q s = true)) : those m p = those m q := those_congr (fun s hs => bool_iff (h s hs))
theorem circ_same {m : Nat} (hm : m ≤ 8) {L : List Nat} (hne : L ≠ []) : those m (circP L) = those m (circB m L) := those_mem_eq (fun s hs => by
  have hb := bit_le m hm
  rw [circP_iff, ← circ_rk hne (show s < 256 by omega)]
  have := mem_circ2 hm (L := L) (s := s)
  rw [mem_those] at this
  constructor
  · intro h; exact (this.2 ⟨hs, h⟩).2
  · intro h; exact (this.1 ⟨hs, h⟩).2)
theorem flat_same {m r : Nat} (hm : m ≤ 8) {L : List Nat} (hne : L ≠ []) (hF : Fam8 L r) (hE : Exch L) : those m (flatP m L) = those m (flatR (those m (circB m L))) := those_mem_eq (fun s hs => by
  rw [flatP_iff, flat_iff hm hne hF hE hs]
  unfold flatR
  rw [List.all_eq_true]
  constructor
  · intro h c hc
    obtain ⟨h1, h2⟩ := (mem_circ2 hm).1 hc
    have := h c h1 h2
    simp [this]
  · intro h c hc hcc e
    have := h c ((mem_circ2 hm).2 ⟨hc, hcc⟩)
    simp [e] at this)
theorem hyp_same {m r : Nat} (hm : m ≤ 8) {L : List Nat} (hne : L ≠ []) (hF : Fam8 L r) (hlt : ∀ b, b ∈ L → b < bit m) : those m (hypP m L) = those m (mostB (those m (spanR L))) := those_mem_eq (fun s hs => by
  rw [hypP_iff, hyper_iff hm hne hF hlt hs, mostB_iff, mem_those, spanR_iff]
  constructor
  · rintro ⟨h1, h2⟩
    exact ⟨⟨hs, h1⟩, fun x hx hsub => h2 x (mem_those.1 hx).1 (spanR_iff.1 (mem_those.1 hx).2) hsub⟩
  · rintro ⟨⟨_, h1⟩, h2⟩
    exact ⟨h1, fun t ht hn hsub => h2 t (mem_those.2 ⟨ht, spanR_iff.2 hn⟩) hsub⟩)

/-- the closure of a set -/
def CloIs (m : Nat) (L : List Nat) (s X : Nat) : Prop := X < 256 ∧ ∀ i, i < 8 → (X.testBit i = true ↔ s.testBit i = true ∨ (i < m ∧ rk L (s ||| bit i) = rk L s))
theorem CloIs.ex (m : Nat) (L : List Nat) (s : Nat) : ∃ X, CloIs m L s X := by
  obtain ⟨X, h1, h2⟩ := exists_set (fun i => s.testBit i = true ∨ (i < m ∧ rk L (s ||| bit i) = rk L s))
  exact ⟨X, h1, h2⟩
/-- an element is in the closure just if it is in the set or a circuit adds it -/
theorem clo_circ {m r : Nat} (hm : m ≤ 8) {L : List Nat} (hne : L ≠ []) (hF : Fam8 L r) (hE : Exch L) {s i : Nat} (hs : s < bit m) (hi : i < m) : (s.testBit i = true ∨ rk L (s ||| bit i) = rk L s) ↔ (s.testBit i = true ∨ ∃ c, c ∈ those m (circB m L) ∧ c.testBit i = true ∧ c ||| (s ||| bit i) = (s ||| bit i)) := by
  have hb := bit_le m hm
  cases hsi : s.testBit i
  · have h := flat_circ hne hF hE (show s < 256 by omega) (show i < 8 by omega) hsi
    simp only [Bool.false_eq_true, false_or]
    rw [h]
    constructor
    · rintro ⟨c, c1, c2, c3, c4⟩
      exact ⟨c, (mem_circ2 hm).2 ⟨lt_bit_of_sub hm (or_lt_bit hs (bit_lt_bit hi)) c3, c2⟩, c4, or_eq_iff.2 c3⟩
    · rintro ⟨c, c1, c2, c3⟩
      obtain ⟨h1, h2⟩ := (mem_circ2 hm).1 c1
      exact ⟨c, by omega, h2, or_eq_iff.1 c3, c2⟩
  · simp

end Go.Proofs.Ytdcdhdlklppalaa
