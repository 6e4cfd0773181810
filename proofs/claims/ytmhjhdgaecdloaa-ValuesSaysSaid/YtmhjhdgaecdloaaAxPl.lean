
/-
  The families of a matroid, plainly: as axioms tells them and as rotaref tells them.
-/
import Derived.Test.YtmhjhdgaecdloaaMat2
import Derived.Test.YtmhjhdgaecdloaaFund
namespace Go.Proofs.Ytmhjhdgaecdloaa
set_option linter.unusedVariables false

theorem those_congr {m : Nat} {p q : Nat → Bool} (h : ∀ s, s < bit m → p s = q s) : those m p = those m q := by
  unfold those
  exact List.filter_congr (fun s hs => h s (by simpa using hs))
theorem bool_iff {a b : Bool} (h : a = true ↔ b = true) : a = b := Bool.eq_iff_iff.2 h

/-! as axioms tells them -/
def indP (L : List Nat) (s : Nat) : Bool := decide (rk L s = sz s)
def circP (L : List Nat) (s : Nat) : Bool := decide (rk L s + 1 = sz s) && (List.range 8).all (fun i => !s.testBit i || decide (rk L (nand s (bit i)) = sz (nand s (bit i))))
def flatP (m : Nat) (L : List Nat) (s : Nat) : Bool := (List.range m).all (fun i => s.testBit i || !decide (rk L (s ||| bit i) = rk L s))
def hypP (m : Nat) (L : List Nat) (s : Nat) : Bool := decide (rk L s + 1 = rk L (bit m - 1)) && flatP m L s
theorem circP_iff {L : List Nat} {s : Nat} : circP L s = true ↔ (rk L s + 1 = sz s ∧ ∀ i, i < 8 → s.testBit i = true → rk L (nand s (bit i)) = sz (nand s (bit i))) := by
  unfold circP
  rw [Bool.and_eq_true, decide_eq_true_eq, List.all_eq_true]
  constructor
  · rintro ⟨h1, h2⟩
    refine ⟨h1, fun i hi hb => ?_⟩
    have := h2 i (by simpa using hi)
    rw [hb] at this
    simpa using this
  · rintro ⟨h1, h2⟩
    refine ⟨h1, fun i hi => ?_⟩
    cases c : s.testBit i
    · rfl
    · have := h2 i (by simpa using hi) c
      simp [this]
theorem flatP_iff {m : Nat} {L : List Nat} {s : Nat} : flatP m L s = true ↔ Flat m L s := by
  unfold flatP Flat
  rw [List.all_eq_true]
  constructor
  · intro h i hi hb
    have := h i (by simpa using hi)
    rw [hb] at this
    simpa using this
  · intro h i hi
    cases c : s.testBit i
    · have := h i (by simpa using hi) c
      simp [this]
    · rfl
theorem hypP_iff {m : Nat} {L : List Nat} {s : Nat} : hypP m L s = true ↔ (rk L s + 1 = rk L (bit m - 1) ∧ Flat m L s) := by
  unfold hypP
  rw [Bool.and_eq_true, decide_eq_true_eq, flatP_iff]

/-! as rotaref tells them -/
/-- of a family's sets: one that lies within no other one -/
def mostB (M : List Nat) (s : Nat) : Bool := decide (s ∈ M) && M.all (fun x => decide (x = s) || !decide (s ||| x = x))
def flatR (C : List Nat) (s : Nat) : Bool := C.all (fun c => !decide (sz (nand c s) = 1))
def spanR (L : List Nat) (s : Nat) : Bool := L.all (fun b => !decide (b ||| s = s))
theorem mem_circ2 {m : Nat} (hm : m ≤ 8) {L : List Nat} {s : Nat} : s ∈ those m (circB m L) ↔ s < bit m ∧ Circ L s := by
  have hb := bit_le m hm
  rw [mem_circ]
  constructor
  · rintro ⟨h1, h2, h3⟩
    refine ⟨h1, h2, fun t ht hts hne => Classical.byContradiction fun hd => ?_⟩
    rcases h3 t (lt_bit_of_sub hm h1 hts) hd with h | h
    · exact hne h
    · exact h (or_eq_iff.2 hts)
  · rintro ⟨h1, h2, h3⟩
    refine ⟨h1, h2, fun x hx hd => ?_⟩
    by_cases e : x = s
    · exact .inl e
    · exact .inr (fun h => hd (h3 x (by omega) (or_eq_iff.1 h) e))
theorem spanR_iff {L : List Nat} {s : Nat} : spanR L s = true ↔ NoSpan L s := by
  unfold spanR NoSpan
  rw [List.all_eq_true]
  constructor
  · intro h b hb hs
    have := h b hb
    simp [or_eq_iff.2 hs] at this
  · intro h b hb
    have := h b hb
    simp only [Bool.not_eq_true', decide_eq_false_iff_not]
    exact fun e => this (or_eq_iff.1 e)
theorem mostB_iff {M : List Nat} {s : Nat} : mostB M s = true ↔ s ∈ M ∧ ∀ x, x ∈ M → sub s x → x = s := by
  unfold mostB
  rw [Bool.and_eq_true, decide_eq_true_eq, List.all_eq_true]
  constructor
  · rintro ⟨h1, h2⟩
    refine ⟨h1, fun x hx hs => ?_⟩
    have := h2 x hx
    simp [or_eq_iff.2 hs] at this
    exact this
  · rintro ⟨h1, h2⟩
    refine ⟨h1, fun x hx => ?_⟩
    by_cases e : x = s
    · simp [e]
    · have : ¬ s ||| x = x := fun h => e (h2 x hx (or_eq_iff.1 h))
      simp [e, this]

/-! they are the same -/
theorem ind_same {m : Nat} (hm : m ≤ 8) {L : List Nat} (hne : L ≠ []) : those m (indP L) = those m (freeB L) := those_congr (fun s hs => bool_iff (by
  have hb := bit_le m hm
  rw [freeB_iff, ind_rk hne (show s < 256 by omega)]
  unfold indP
  rw [decide_eq_true_eq]))
theorem those_mem_eq {m : Nat} {p q : Nat → Bool} (h : ∀ s, s < bit m → (p s = true ↔ q s = true)) : those m p = those m q := those_congr (fun s hs => bool_iff (h s hs))
theorem circ_same {m : Nat} (hm : m ≤ 8) {L : List Nat} (hne : L ≠ []) : those m (circP L) = those m (circB m L) := those_mem_eq (fun s hs => by
  have hb := bit_le m hm
  rw [circP_iff, ← circ_rk hne (show s < 256 by omega)]
  have := mem_circ2 hm (L := L) (s := s)
  rw [mem_those] at this
  constructor
  · intro h; exact (this.2 ⟨hs, h⟩).2
  · intro h; exact (this.1 ⟨hs, h⟩).2)
theorem flat_same {m r : Nat} (hm : m ≤ 8) {L : List Nat} (hne : L ≠ []) (hF : Fam8 L r) (hE : Exch L) : those m (flatP m L) = those m (flatR (those m (circB m L))) := those_mem_eq (fun s hs => by
  rw [flatP_iff, flat_iff hm hne hF hE hs]
  unfold flatR
  rw [List.all_eq_true]
  constructor
  · intro h c hc
    obtain ⟨h1, h2⟩ := (mem_circ2 hm).1 hc
    have := h c h1 h2
    simp [this]
  · intro h c hc hcc e
    have := h c ((mem_circ2 hm).2 ⟨hc, hcc⟩)
    simp [e] at this)
theorem hyp_same {m r : Nat} (hm : m ≤ 8) {L : List Nat} (hne : L ≠ []) (hF : Fam8 L r) (hlt : ∀ b, b ∈ L → b < bit m) : those m (hypP m L) = those m (mostB (those m (spanR L))) := those_mem_eq (fun s hs => by
  rw [hypP_iff, hyper_iff hm hne hF hlt hs, mostB_iff, mem_those, spanR_iff]
  constructor
  · rintro ⟨h1, h2⟩
    exact ⟨⟨hs, h1⟩, fun x hx hsub => h2 x (mem_those.1 hx).1 (spanR_iff.1 (mem_those.1 hx).2) hsub⟩
  · rintro ⟨⟨_, h1⟩, h2⟩
    exact ⟨h1, fun t ht hn hsub => h2 t (mem_those.2 ⟨ht, spanR_iff.2 hn⟩) hsub⟩)

/-- the closure of a set -/
def CloIs (m : Nat) (L : List Nat) (s X : Nat) : Prop := X < 256 ∧ ∀ i, i < 8 → (X.testBit i = true ↔ s.testBit i = true ∨ (i < m ∧ rk L (s ||| bit i) = rk L s))
theorem CloIs.ex (m : Nat) (L : List Nat) (s : Nat) : ∃ X, CloIs m L s X := by
  obtain ⟨X, h1, h2⟩ := exists_set (fun i => s.testBit i = true ∨ (i < m ∧ rk L (s ||| bit i) = rk L s))
  exact ⟨X, h1, h2⟩
/-- an element is in the closure just if it is in the set or a circuit adds it -/
theorem clo_circ {m r : Nat} (hm : m ≤ 8) {L : List Nat} (hne : L ≠ []) (hF : Fam8 L r) (hE : Exch L) {s i : Nat} (hs : s < bit m) (hi : i < m) : (s.testBit i = true ∨ rk L (s ||| bit i) = rk L s) ↔ (s.testBit i = true ∨ ∃ c, c ∈ those m (circB m L) ∧ c.testBit i = true ∧ c ||| (s ||| bit i) = (s ||| bit i)) := by
  have hb := bit_le m hm
  cases hsi : s.testBit i
  · have h := flat_circ hne hF hE (show s < 256 by omega) (show i < 8 by omega) hsi
    simp only [Bool.false_eq_true, false_or]
    rw [h]
    constructor
    · rintro ⟨c, c1, c2, c3, c4⟩
      exact ⟨c, (mem_circ2 hm).2 ⟨lt_bit_of_sub hm (or_lt_bit hs (bit_lt_bit hi)) c3, c2⟩, c4, or_eq_iff.2 c3⟩
    · rintro ⟨c, c1, c2, c3⟩
      obtain ⟨h1, h2⟩ := (mem_circ2 hm).1 c1
      exact ⟨c, by omega, h2, or_eq_iff.1 c3, c2⟩
  · simp

end Go.Proofs.Ytmhjhdgaecdloaa
