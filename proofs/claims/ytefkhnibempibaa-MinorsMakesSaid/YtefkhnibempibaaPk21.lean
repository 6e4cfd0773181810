
/-
  Classes of parallel elements, plainly; the simple matroid.
  rotaref.Components, Classes.
-/
import Derived.Test.YtefkhnibempibaaPk18
import Derived.Test.YtefkhnibempibaaPk19
import Derived.Test.YtefkhnibempibaaPk20
import Derived.Test.YtefkhnibempibaaPk17
import Derived.Test.YtefkhnibempibaaPk13
namespace Go.Proofs.Ytefkhnibempibaa
set_option linter.unusedVariables false

/-- one and the same, but for the name -/
def par (L : List Nat) (i k : Nat) : Bool := decide (rk L (bit k) = rk L (bit i)) && decide (rk L (bit i ||| bit k) = rk L (bit i))
theorem par_iff {L : List Nat} {i k : Nat} : par L i k = true ↔ rk L (bit k) = rk L (bit i) ∧ rk L (bit i ||| bit k) = rk L (bit i) := by unfold par; rw [Bool.and_eq_true, decide_eq_true_eq, decide_eq_true_eq]
theorem par_symm {L : List Nat} {i k : Nat} (h : par L i k = true) : par L k i = true := by
  rw [par_iff] at h ⊢
  rw [Nat.or_comm (bit k)]
  exact ⟨h.1.symm, by rw [h.2, h.1]⟩
theorem par_refl (L : List Nat) (i : Nat) : par L i i = true := by rw [par_iff]; exact ⟨rfl, by rw [Nat.or_self]⟩
/-- what goes with i among those behind it -/
def pcTo (L : List Nat) (i : Nat) : Nat → Nat
  | 0 => bit i
  | k + 1 => if i < k ∧ par L i k = true then pcTo L i k ||| bit k else pcTo L i k
theorem pcTo_testBit (L : List Nat) (i j : Nat) : ∀ k, (pcTo L i k).testBit j = true ↔ j = i ∨ (i < j ∧ j < k ∧ par L i j = true)
  | 0 => by
    rw [pcTo, testBit_bit, decide_eq_true_eq]
    constructor
    · intro h; exact .inl h.symm
    · rintro (h | h)
      · exact h.symm
      · omega
  | k + 1 => by
    have ih := pcTo_testBit L i j k
    rw [pcTo]
    split
    · rename_i h
      rw [or_bit_testBit, Bool.or_eq_true, ih, decide_eq_true_eq]
      constructor
      · rintro ((h1 | h1) | h1)
        · exact .inl h1
        · exact .inr ⟨h1.1, by omega, h1.2.2⟩
        · subst h1; exact .inr ⟨h.1, by omega, h.2⟩
      · rintro (h1 | ⟨h1, h2, h3⟩)
        · exact .inl (.inl h1)
        · by_cases e : j = k
          · exact .inr e.symm
          · exact .inl (.inr ⟨h1, by omega, h3⟩)
    · rename_i h
      rw [ih]
      constructor
      · rintro (h1 | h1)
        · exact .inl h1
        · exact .inr ⟨h1.1, by omega, h1.2.2⟩
      · rintro (h1 | ⟨h1, h2, h3⟩)
        · exact .inl h1
        · by_cases e : j = k
          · subst e; exact absurd ⟨h1, h3⟩ h
          · exact .inr ⟨h1, by omega, h3⟩
theorem pcTo_lt {L : List Nat} {m i : Nat} (hi : i < m) : ∀ k, k ≤ m → pcTo L i k < bit m
  | 0, _ => bit_lt_bit hi
  | k + 1, hk => by
    have ih := pcTo_lt (L := L) hi k (by omega)
    rw [pcTo]
    split
    · exact or_lt_bit ih (bit_lt_bit (by omega))
    · exact ih
/-- what has been seen, and the classes told, behind the first i elements -/
def clsT (L : List Nat) (m : Nat) : Nat → Nat × List Nat
  | 0 => (0, [])
  | i + 1 => if (clsT L m i).1.testBit i = true then clsT L m i else ((clsT L m i).1 ||| pcTo L i m, (clsT L m i).2 ++ [pcTo L i m])
/-- an element that none ahead goes with -/
def firstC (L : List Nat) (i : Nat) : Prop := ∀ k, k < i → par L k i = false
section
variable {m r : Nat} {L : List Nat} (hm : m ≤ 8) (hne : L ≠ []) (hF : Fam8 L r) (hE : Exch L)
include hm hne hF hE
theorem par_trans {i k j : Nat} (hi : i < m) (hk : k < m) (hj : j < m) (h1 : par L i k = true) (h2 : par L k j = true) : par L i j = true := by
  rw [par_iff] at h1 h2 ⊢
  have hb := bit_le m hm
  have bi := bit_lt_bit hi
  have bk := bit_lt_bit hk
  have bj := bit_lt_bit hj
  have hik : bit i ||| bit k < 256 := by have := or_lt_bit bi bk; omega
  have h3 := rk_join hm hne hF hE (s := bit k) (t := bit i ||| bit k) (i := j) hik (by omega) (fun x hx => by rw [Nat.testBit_or, hx]; simp) (by rw [h2.2])
  have h4 : rk L (bit i ||| bit j) ≤ rk L (bit i ||| bit k ||| bit j) := rk_mono hne (fun x hx => by
    rw [Nat.testBit_or, Bool.or_eq_true] at hx
    rw [Nat.testBit_or, Nat.testBit_or]
    rcases hx with hx | hx <;> rw [hx] <;> simp)
  have h5 := rk_mono hne (sub_or_left (bit i) (bit j))
  refine ⟨by rw [h2.1, h1.1], ?_⟩
  omega
theorem clsT_seen : ∀ i, i ≤ m → (∀ j, (clsT L m i).1.testBit j = true ↔ j < m ∧ ∃ k, k < i ∧ par L k j = true) ∧ (∀ b, b ∈ (clsT L m i).2 ↔ ∃ k, k < i ∧ firstC L k ∧ b = pcTo L k m)
  | 0, _ => by
    refine ⟨fun j => ?_, fun b => ?_⟩
    · simp [clsT]
    · simp [clsT]
  | i + 1, hi => by
    obtain ⟨ih1, ih2⟩ := clsT_seen i (by omega)
    rw [clsT]
    by_cases c : (clsT L m i).1.testBit i = true
    · rw [if_pos c]
      obtain ⟨_, k, hk, hki⟩ := (ih1 i).1 c
      refine ⟨fun j => ?_, fun b => ?_⟩
      · rw [ih1 j]
        constructor
        · rintro ⟨h1, k', h2, h3⟩; exact ⟨h1, k', by omega, h3⟩
        · rintro ⟨h1, k', h2, h3⟩
          refine ⟨h1, ?_⟩
          by_cases e : k' = i
          · subst e; exact ⟨k, hk, par_trans hm hne hF hE (by omega) (by omega) h1 hki h3⟩
          · exact ⟨k', by omega, h3⟩
      · rw [ih2 b]
        constructor
        · rintro ⟨k', h2, h3⟩; exact ⟨k', by omega, h3⟩
        · rintro ⟨k', h2, h3, h4⟩
          by_cases e : k' = i
          · subst e; have := h3 k hk; rw [hki] at this; cases this
          · exact ⟨k', by omega, h3, h4⟩
    · rw [if_neg c]
      have hfirst : firstC L i := fun k hk => by
        cases hc : par L k i
        · rfl
        · exact absurd ((ih1 i).2 ⟨by omega, k, hk, hc⟩) c
      refine ⟨fun j => ?_, fun b => ?_⟩
      · rw [Nat.testBit_or, Bool.or_eq_true, ih1 j, pcTo_testBit]
        constructor
        · rintro (⟨h1, k', h2, h3⟩ | h | h)
          · exact ⟨h1, k', by omega, h3⟩
          · subst h; exact ⟨by omega, j, by omega, par_refl L j⟩
          · exact ⟨h.2.1, i, by omega, h.2.2⟩
        · rintro ⟨h1, k', h2, h3⟩
          by_cases e : k' = i
          · subst e
            by_cases e2 : j = k'
            · exact .inr (.inl e2)
            · by_cases e3 : k' < j
              · exact .inr (.inr ⟨e3, h1, h3⟩)
              · have := hfirst j (by omega)
                rw [par_symm h3] at this; cases this
          · exact .inl ⟨h1, k', by omega, h3⟩
      · rw [List.mem_append, ih2 b, List.mem_singleton]
        constructor
        · rintro (⟨k', h2, h3⟩ | h)
          · exact ⟨k', by omega, h3⟩
          · exact ⟨i, by omega, hfirst, h⟩
        · rintro ⟨k', h2, h3, h4⟩
          by_cases e : k' = i
          · subst e; exact .inr h4
          · exact .inl ⟨k', by omega, h3, h4⟩
theorem pc_rk {i : Nat} (hi : i < m) : ∀ k, k ≤ m → rk L (pcTo L i k) = rk L (bit i)
  | 0, _ => rfl
  | k + 1, hk => by
    have ih := pc_rk hi k (by omega)
    have hb := bit_le m hm
    have hlt := pcTo_lt (L := L) hi k (by omega)
    rw [pcTo]
    split
    · rename_i h
      have hp := (par_iff.1 h.2).2
      rw [rk_join hm hne hF hE (s := bit i) (by omega) (by omega) (fun x hx => (pcTo_testBit L i x k).2 (.inl (by rw [testBit_bit, decide_eq_true_eq] at hx; exact hx.symm))) hp, ih]
    · exact ih
/-- the reference's classes -/
def clsP (m : Nat) (L : List Nat) (s : Nat) : Bool := decide (s ≠ 0) && decide (rk L s ≤ 1) && (elems s).all (fun x => decide (rk L (bit x) = rk L s)) && (List.range m).all (fun i => !(!s.testBit i && decide (rk L (bit i) = rk L s) && decide (rk L (s ||| bit i) = rk L s)))
omit hm hne hF hE in
theorem clsP_iff {s : Nat} : clsP m L s = true ↔ s ≠ 0 ∧ rk L s ≤ 1 ∧ (∀ x, x < 8 → s.testBit x = true → rk L (bit x) = rk L s) ∧ ∀ i, i < m → s.testBit i = false → rk L (bit i) = rk L s → rk L (s ||| bit i) ≠ rk L s := by
  unfold clsP
  simp only [Bool.and_eq_true, decide_eq_true_eq, List.all_eq_true, List.mem_range, Bool.not_eq_true', Bool.and_eq_false_iff, decide_eq_false_iff_not, Bool.not_eq_false']
  constructor
  · rintro ⟨⟨⟨h1, h2⟩, h3⟩, h4⟩
    refine ⟨h1, h2, fun x hx hs => h3 x (by simp [elems, hx, hs]), fun i hi h5 h6 h7 => ?_⟩
    rcases h4 i hi with (h | h) | h
    · rw [h5] at h; cases h
    · exact h h6
    · exact h h7
  · rintro ⟨h1, h2, h3, h4⟩
    refine ⟨⟨⟨h1, h2⟩, fun x hx => ?_⟩, fun i hi => ?_⟩
    · have : x < 8 ∧ s.testBit x = true := by simpa [elems] using hx
      exact h3 x this.1 this.2
    · by_cases c1 : s.testBit i = true
      · exact .inl (.inl c1)
      · by_cases c2 : rk L (bit i) = rk L s
        · exact .inr (h4 i hi (by simpa using c1) c2)
        · exact .inl (.inr c2)
theorem cls_iff {s : Nat} (hs : s < bit m) : clsP m L s = true ↔ ∃ i, i < m ∧ firstC L i ∧ s = pcTo L i m := by
  have hb := bit_le m hm
  rw [clsP_iff]
  constructor
  · rintro ⟨h1, h2, h3, h4⟩
    obtain ⟨i, hi8, _, hsi, _, hleast, _⟩ := low_facts s (by omega) h1
    have him := lt_m_of_testBit hs hsi
    have hpar : ∀ k, k < m → (s.testBit k = true ↔ par L i k = true) := fun k hk => by
      constructor
      · intro hsk
        rw [par_iff, h3 k (by omega) hsk, h3 i hi8 hsi]
        refine ⟨rfl, ?_⟩
        have e1 : rk L (bit i ||| bit k) ≤ rk L s := rk_mono hne (fun x hx => by
          rw [Nat.testBit_or, testBit_bit, testBit_bit, Bool.or_eq_true, decide_eq_true_eq, decide_eq_true_eq] at hx
          rcases hx with rfl | rfl
          · exact hsi
          · exact hsk)
        have e2 := rk_mono hne (sub_or_left (bit i) (bit k))
        rw [h3 i hi8 hsi] at e2
        omega
      · intro hp
        rw [par_iff] at hp
        cases c : s.testBit k
        · exfalso
          refine h4 k hk c (by rw [hp.1, h3 i hi8 hsi]) ?_
          exact rk_join hm hne hF hE (s := bit i) (by omega) (by omega) (fun x hx => by rw [testBit_bit, decide_eq_true_eq] at hx; subst hx; exact hsi) hp.2
        · rfl
    have hfirst : firstC L i := fun k hk => by
      cases c : par L k i
      · rfl
      · have := (hpar k (by omega)).2 (par_symm c)
        have := hleast k (by omega) this
        omega
    refine ⟨i, him, hfirst, eq_of_bits (by omega) (by have := pcTo_lt (L := L) him m (Nat.le_refl _); omega) (fun j hj => ?_)⟩
    rw [Bool.eq_iff_iff, pcTo_testBit]
    constructor
    · intro hsj
      have hjm := lt_m_of_testBit hs hsj
      by_cases e : j = i
      · exact .inl e
      · have := hleast j hj hsj
        exact .inr ⟨by omega, hjm, (hpar j hjm).1 hsj⟩
    · rintro (rfl | ⟨_, h6, h7⟩)
      · exact hsi
      · exact (hpar j h6).2 h7
  · rintro ⟨i, him, hfirst, rfl⟩
    have hi8 : i < 8 := by omega
    have hrk := pc_rk hm hne hF hE him m (Nat.le_refl _)
    have hmem : ∀ j, j < m → ((pcTo L i m).testBit j = true ↔ par L i j = true) := fun j hj => by
      rw [pcTo_testBit]
      constructor
      · rintro (rfl | h)
        · exact par_refl L j
        · exact h.2.2
      · intro h
        by_cases e : j = i
        · exact .inl e
        · by_cases e2 : i < j
          · exact .inr ⟨e2, hj, h⟩
          · have := hfirst j (by omega)
            rw [par_symm h] at this; cases this
    refine ⟨fun e => ?_, ?_, fun x hx hb2 => ?_, fun j hj hcj h1 h2 => ?_⟩
    · have := (hmem i him).2 (par_refl L i)
      rw [e, Nat.zero_testBit] at this; cases this
    · rw [hrk]
      have := rk_le L (bit i)
      rw [sz_bit hi8] at this
      exact this
    · have hxm := lt_m_of_testBit hs hb2
      rw [hrk]
      exact (par_iff.1 ((hmem x hxm).1 hb2)).1
    · have : par L i j = true := by
        rw [par_iff]
        refine ⟨by rw [h1, hrk], ?_⟩
        have e1 : rk L (bit i ||| bit j) ≤ rk L (pcTo L i m ||| bit j) := rk_mono hne (fun x hx => by
          rw [Nat.testBit_or, Bool.or_eq_true] at hx
          rw [Nat.testBit_or, Bool.or_eq_true]
          rcases hx with hx | hx
          · rw [testBit_bit, decide_eq_true_eq] at hx; subst hx
            exact .inl ((hmem i him).2 (par_refl L i))
          · exact .inr hx)
        have e2 := rk_mono hne (sub_or_left (bit i) (bit j))
        rw [h2, hrk] at e1
        omega
      rw [(hmem j hj).2 this] at hcj; cases hcj
/-- the classes told are distinct -/
theorem cls_nodup : ∀ i, i ≤ m → (clsT L m i).2.Nodup
  | 0, _ => List.nodup_nil
  | i + 1, hi => by
    have ih := cls_nodup i (by omega)
    rw [clsT]
    by_cases c : (clsT L m i).1.testBit i = true
    · rw [if_pos c]; exact ih
    · rw [if_neg c]
      rw [List.nodup_append]
      refine ⟨ih, by simp, fun a ha b hb => ?_⟩
      rw [List.mem_singleton] at hb
      subst hb
      rintro rfl
      obtain ⟨h1, h2⟩ := clsT_seen hm hne hF hE i (by omega)
      obtain ⟨k, hk, hk2, hk3⟩ := (h2 _).1 ha
      have hbit : (pcTo L i m).testBit i = true := (pcTo_testBit L i i m).2 (.inl rfl)
      rw [hk3, pcTo_testBit] at hbit
      rcases hbit with h | h
      · omega
      · exact c ((h1 i).2 ⟨by omega, k, hk, h.2.2⟩)
/-- what goes away behind the first classes -/
def gnT (m : Nat) (L : List Nat) (C : List Nat) : Nat → Nat
  | 0 => 0
  | q + 1 => if 0 < rk L (C.getD q 0) then nand (gnT m L C q ||| C.getD q 0) (low (C.getD q 0)) else gnT m L C q ||| C.getD q 0
/-- what goes away, element by element -/
def rgI (L : List Nat) (i : Nat) : Nat → Bool
  | 0 => false
  | k + 1 => rgI L i k || (decide (rk L (bit k ||| bit i) = 1) && decide (rk L (bit k) = 1))
def rgT (L : List Nat) : Nat → Nat
  | 0 => 0
  | i + 1 => if rgI L i i = true ∨ rk L (bit i) = 0 then rgT L i ||| bit i else rgT L i
omit hm hne hF hE in
theorem rgI_iff (L : List Nat) (i : Nat) : ∀ k, rgI L i k = true ↔ ∃ j, j < k ∧ rk L (bit j ||| bit i) = 1 ∧ rk L (bit j) = 1
  | 0 => by simp [rgI]
  | k + 1 => by
    rw [rgI, Bool.or_eq_true, Bool.and_eq_true, decide_eq_true_eq, decide_eq_true_eq, rgI_iff L i k]
    constructor
    · rintro (⟨j, h1, h2⟩ | h)
      · exact ⟨j, by omega, h2⟩
      · exact ⟨k, by omega, h⟩
    · rintro ⟨j, h1, h2⟩
      by_cases e : j = k
      · subst e; exact .inr h2
      · exact .inl ⟨j, by omega, h2⟩
omit hm hne hF hE in
theorem rgT_testBit (L : List Nat) (j : Nat) : ∀ i, (rgT L i).testBit j = true ↔ j < i ∧ (rgI L j j = true ∨ rk L (bit j) = 0)
  | 0 => by simp [rgT]
  | i + 1 => by
    rw [rgT]
    split
    · rename_i h
      rw [or_bit_testBit, Bool.or_eq_true, rgT_testBit L j i, decide_eq_true_eq]
      constructor
      · rintro (h1 | rfl)
        · exact ⟨by omega, h1.2⟩
        · exact ⟨by omega, h⟩
      · rintro ⟨h1, h2⟩
        by_cases e : i = j
        · exact .inr e
        · exact .inl ⟨by omega, h2⟩
    · rename_i h
      rw [rgT_testBit L j i]
      constructor
      · rintro h1; exact ⟨by omega, h1.2⟩
      · rintro ⟨h1, h2⟩
        by_cases e : j = i
        · subst e; exact absurd h2 h
        · exact ⟨by omega, h2⟩
theorem gone_same : gnT m L (those m (clsP m L)) (those m (clsP m L)).length = rgT L m := by
  have hb := bit_le m hm
  have hC : ∀ q, q < (those m (clsP m L)).length → ∃ i, i < m ∧ firstC L i ∧ (those m (clsP m L)).getD q 0 = pcTo L i m := fun q hq => by
    have hmem : (those m (clsP m L)).getD q 0 ∈ those m (clsP m L) := by simp [hq]
    obtain ⟨h1, h2⟩ := mem_those.1 hmem
    exact (cls_iff hm hne hF hE h1).1 h2
  have hmemP : ∀ i, i < m → firstC L i → ∀ j, j < m → ((pcTo L i m).testBit j = true ↔ par L i j = true) := fun i hi hf j hj => by
    rw [pcTo_testBit]
    constructor
    · rintro (rfl | h)
      · exact par_refl L j
      · exact h.2.2
    · intro h
      by_cases e : j = i
      · exact .inl e
      · by_cases e2 : i < j
        · exact .inr ⟨e2, hj, h⟩
        · have := hf j (by omega)
          rw [par_symm h] at this; cases this
  have hlow : ∀ i, i < m → firstC L i → low (pcTo L i m) = bit i := fun i hi hf => by
    have hlt := pcTo_lt (L := L) hi m (Nat.le_refl _)
    have hbi : (pcTo L i m).testBit i = true := (pcTo_testBit L i i m).2 (.inl rfl)
    have hne0 : pcTo L i m ≠ 0 := fun e => by rw [e, Nat.zero_testBit] at hbi; cases hbi
    obtain ⟨e, he8, h1, h2, _, h3, _⟩ := low_facts _ (by omega) hne0
    have h4 := h3 i (by omega) hbi
    rw [pcTo_testBit] at h2
    rw [h1]
    congr 1
    omega
  -- two classes with an element in common are one
  have hone : ∀ i k j, i < m → k < m → j < m → firstC L i → firstC L k → par L i j = true → par L k j = true → i = k := fun i k j hi hk hj f1 f2 p1 p2 => by
    have hp := par_trans hm hne hF hE hi hj hk p1 (par_symm p2)
    rcases Nat.lt_trichotomy i k with h | h | h
    · have := f2 i h; rw [hp] at this; cases this
    · exact h
    · have := f1 k h; rw [par_symm hp] at this; cases this
  have hg : ∀ q, q ≤ (those m (clsP m L)).length → ∀ j, j < m → ((gnT m L (those m (clsP m L)) q).testBit j = true ↔ ∃ t i, t < q ∧ i < m ∧ firstC L i ∧ (those m (clsP m L)).getD t 0 = pcTo L i m ∧ par L i j = true ∧ ¬ (0 < rk L (bit i) ∧ j = i)) := by
    intro q
    induction q with
    | zero => intro _ j _; simp [gnT]
    | succ q ih =>
      intro hq j hj
      obtain ⟨i, hi, hf, hc⟩ := hC q (by omega)
      have ihj := ih (by omega) j hj
      rw [gnT, hc, hlow i hi hf, pc_rk hm hne hF hE hi m (Nat.le_refl _)]
      have hmp := hmemP i hi hf j hj
      have hsame : ∀ i', i' < m → firstC L i' → pcTo L i m = pcTo L i' m → i' = i := fun i' hi' hf' e => by
        have h1 : (pcTo L i m).testBit i = true := (pcTo_testBit L i i m).2 (.inl rfl)
        rw [e] at h1
        exact hone i' i i hi' hi hi hf' hf ((hmemP i' hi' hf' i hi).1 h1) (par_refl L i)
      split
      · rename_i hpos
        rw [nand_testBit, Nat.testBit_or, testBit_bit, Bool.and_eq_true, Bool.or_eq_true, hmp, ihj, Bool.not_eq_true', decide_eq_false_iff_not]
        constructor
        · rintro ⟨⟨t, i', h1, h2⟩ | h1, h3⟩
          · exact ⟨t, i', by omega, h2⟩
          · exact ⟨q, i, by omega, hi, hf, hc, h1, fun h => h3 h.2.symm⟩
        · rintro ⟨t, i', h1, h2, h3, h4, h5, h6⟩
          by_cases e : t = q
          · subst e
            have := hsame i' h2 h3 (by rw [← hc, h4])
            subst this
            exact ⟨.inr h5, fun h => h6 ⟨hpos, h.symm⟩⟩
          · refine ⟨.inl ⟨t, i', by omega, h2, h3, h4, h5, h6⟩, fun h => ?_⟩
            subst h
            have := hone i' i i h2 hi hi h3 hf h5 (par_refl L i)
            subst this
            exact h6 ⟨hpos, rfl⟩
      · rename_i hpos
        rw [Nat.testBit_or, Bool.or_eq_true, hmp, ihj]
        constructor
        · rintro (⟨t, i', h1, h2⟩ | h1)
          · exact ⟨t, i', by omega, h2⟩
          · exact ⟨q, i, by omega, hi, hf, hc, h1, fun h => hpos h.1⟩
        · rintro ⟨t, i', h1, h2, h3, h4, h5, h6⟩
          by_cases e : t = q
          · subst e
            have := hsame i' h2 h3 (by rw [← hc, h4])
            subst this
            exact .inr h5
          · exact .inl ⟨t, i', by omega, h2, h3, h4, h5, h6⟩
  have hfirst : ∀ j, j < m → ∃ i, i ≤ j ∧ firstC L i ∧ par L i j = true := by
    intro j
    induction j using Nat.strongRecOn with
    | _ j ih =>
      intro hj
      by_cases c : firstC L j
      · exact ⟨j, Nat.le_refl _, c, par_refl L j⟩
      · have : ∃ k, k < j ∧ par L k j = true := Classical.byContradiction fun h => c (fun k hk => by
          cases e : par L k j
          · rfl
          · exact absurd ⟨k, hk, e⟩ h)
        obtain ⟨k, hk, hp⟩ := this
        obtain ⟨i, h1, h2, h3⟩ := ih k hk (by omega)
        exact ⟨i, by omega, h2, par_trans hm hne hF hE (by omega) (by omega) hj h3 hp⟩
  have hgl : ∀ q, q ≤ (those m (clsP m L)).length → gnT m L (those m (clsP m L)) q < bit m := by
    intro q
    induction q with
    | zero => intro _; show 0 < bit m; omega
    | succ q ih =>
      intro hq
      obtain ⟨i, hi, hf, hc⟩ := hC q (by omega)
      have h1 := or_lt_bit (ih (by omega)) (pcTo_lt (L := L) hi m (Nat.le_refl _))
      rw [gnT, hc]
      split
      · have := nand_le (gnT m L (those m (clsP m L)) q ||| pcTo L i m) (low (pcTo L i m)); omega
      · exact h1
  have hrl : ∀ i, i ≤ m → rgT L i < bit m := by
    intro i
    induction i with
    | zero => intro _; show 0 < bit m; omega
    | succ i ih =>
      intro hi
      rw [rgT]
      split
      · exact or_lt_bit (ih (by omega)) (bit_lt_bit (by omega))
      · exact ih (by omega)
  have l1 := hgl _ (Nat.le_refl _)
  have l2 := hrl m (Nat.le_refl _)
  refine eq_of_bits (by omega) (by omega) (fun j _ => ?_)
  by_cases hj : j < m
  case neg =>
    have n1 : ∀ x, x < bit m → x.testBit j = false := fun x hx => by
      rw [Bool.eq_false_iff]; intro c
      exact hj (lt_m_of_testBit hx c)
    rw [n1 _ l1, n1 _ l2]
  rw [Bool.eq_iff_iff, hg _ (Nat.le_refl _) j hj, rgT_testBit, rgI_iff]
  have hle : ∀ x, x < m → rk L (bit x) ≤ 1 := fun x hx => by
    have := rk_le L (bit x)
    rwa [sz_bit (by omega)] at this
  constructor
  · rintro ⟨t, i, _, hi, hf, _, hp, hno⟩
    refine ⟨hj, ?_⟩
    have hp2 := par_iff.1 hp
    have h1 := hle i hi
    by_cases c : rk L (bit i) = 0
    · right; omega
    · left
      have hij : j ≠ i := fun e => hno ⟨by omega, e⟩
      have : i < j := by
        rcases Nat.lt_trichotomy i j with h | h | h
        · exact h
        · exact absurd h.symm hij
        · have := hf j h; rw [par_symm hp] at this; cases this
      exact ⟨i, this, by omega, by omega⟩
  · rintro ⟨_, h⟩
    obtain ⟨i, h1, h2, h3⟩ := hfirst j hj
    have hi : i < m := by omega
    have hpc := pcTo_lt (L := L) hi m (Nat.le_refl _)
    have hmem : pcTo L i m ∈ those m (clsP m L) := mem_those.2 ⟨hpc, (cls_iff hm hne hF hE hpc).2 ⟨i, hi, h2, rfl⟩⟩
    obtain ⟨t, ht, e⟩ := List.getElem_of_mem hmem
    have he : (those m (clsP m L)).getD t 0 = pcTo L i m := by simp [ht, e]
    refine ⟨t, i, ht, hi, h2, he, h3, ?_⟩
    rintro ⟨h4, rfl⟩
    rcases h with ⟨k, hk, h5, h6⟩ | h
    · have h7 := hle j hj
      have : par L k j = true := par_iff.2 ⟨by omega, by omega⟩
      rw [h2 k hk] at this; cases this
    · omega
theorem cls_same : srt (ints (clsT L m m).2) = ints (those m (clsP m L)) := by
  have hb := bit_le m hm
  obtain ⟨_, h2⟩ := clsT_seen hm hne hF hE m (Nat.le_refl _)
  have hnd := cls_nodup hm hne hF hE m (Nat.le_refl _)
  have hnd2 : (ints (clsT L m m).2).Nodup := by
    unfold ints
    exact List.pairwise_map.2 (List.Pairwise.imp (fun h e => h (Int.natCast_inj.1 e)) hnd)
  have hs : (srt (ints (clsT L m m).2)).Pairwise (· < ·) := by
    have p1 := srt_pw (ints (clsT L m m).2)
    have p2 : (srt (ints (clsT L m m).2)).Nodup := by
      unfold srt
      exact (List.mergeSort_perm _ _).nodup_iff.2 hnd2
    exact (p1.and p2).imp (fun h => by omega)
  refine pw_ext hs (those_pw m _) (fun x => ?_)
  rw [srt_mem, mem_ints2, mem_ints2]
  constructor
  · rintro ⟨n, hn, rfl⟩
    obtain ⟨k, hk1, hk2, hk3⟩ := (h2 n).1 hn
    subst hk3
    have hlt := pcTo_lt (L := L) hk1 m (Nat.le_refl _)
    exact ⟨_, mem_those.2 ⟨hlt, (cls_iff hm hne hF hE hlt).2 ⟨k, hk1, hk2, rfl⟩⟩, rfl⟩
  · rintro ⟨n, hn, rfl⟩
    obtain ⟨h3, h4⟩ := mem_those.1 hn
    obtain ⟨k, hk1, hk2, hk3⟩ := (cls_iff hm hne hF hE h3).1 h4
    exact ⟨n, (h2 n).2 ⟨k, hk1, hk2, hk3⟩, rfl⟩
end

end Go.Proofs.Ytefkhnibempibaa

namespace Go.Proofs.Ytefkhnibempibaa
open Go.RowKit
set_option linter.unusedVariables false

set_option maxRecDepth 100000 in
set_option maxHeartbeats 4000000 in
theorem c_compTell {B : Nat} {W : World} (u : Later B W) (m : Nat) (hm : m ≤ 8) (L : List Nat) (s gm gr gt c : Nat) (hs : s < bit m) (hgm : gm < B) (hgr : gr < B) (hgt : gt < B) (hn : W.cell? ⟨gm, 0, none⟩ = some (.int .i64 m)) (hr : W.cell? ⟨gr, 0, none⟩ = some (.slice (some ⟨gt, 0, none⟩) (bit m) c)) (hT : ITab W gt (bit m) (fun j => (rk L j : Int))) :
    Calls Try.prog 39 #[.int .i64 s, .pointer (some ⟨gr, 0, none⟩), .pointer (some ⟨gm, 0, none⟩)] u.val (Ret B W (.bool (sepB m L s))) := by
  have hb := bit_le m hm
  have q0 : ∀ v : Later B W, v.val.cell? ⟨gm, 0, none⟩ = some (.int .i64 m) := fun v => by rw [v.cell hgm, hn]
  have q1 : ∀ v : Later B W, v.val.cell? ⟨gr, 0, none⟩ = some (.slice (some ⟨gt, 0, none⟩) (bit m) c) := fun v => by rw [v.cell hgr, hr]
  have HT : Hid (∀ (j : Nat), j < bit m → ∀ v : Later B W, v.val.cell? ⟨gt, j, none⟩ = some (.int .i64 (rk L j : Int))) := Lib.hid (fun j hj v => (hT.keep_at v.below hgt).cell hj)
  have hnl := nand_all_lt m s
  have htl : bit m - 1 < bit m := by omega
  have c1 := HT.out (bit m - 1) htl
  have c2 := HT.out (nand (bit m - 1) s) hnl
  have c3 := HT.out s hs
  have o1 := i64_andNot (bit m - 1) s (by omega) (by omega)
  have KA : Hid (∀ v : Later B W, Calls Try.prog 28 #[.int .i64 m] v.val (Ret B W (.int .i64 ((bit m - 1 : Nat) : Int)))) := Lib.hid (fun v => by
    have := c_all v (m : Int) (by omega) (by omega)
    rwa [all_nat] at this)
  have r1 := rk_le8 L s
  have r2 := rk_le8 L (nand (bit m - 1) s)
  have w1 := IntWalk.i64_in ((rk L s : Int) + (rk L (nand (bit m - 1) s) : Int)) (by omega)
  rcases Nat.eq_zero_or_pos s with h0 | h0
  · subst h0
    have hres : sepB m L 0 = false := by unfold sepB; simp
    rw [hres]
    clear hn hr hT HT hres
    go_enter Try.func39, Try.ntmps39
    go_wp2
    refine wp_region_later u (by kernel_rfl) (by kernel_rfl) (fun _ => ?_)
    repeat (first | go_big_quiet_step (((go_at_call 28; exact KA.out _))) | (refine wpQuiet_step (fun K hK => ?_); go_simp; refine ⟨_, fun _ => rfl, ?_⟩; refine hK _ ?_; clear hK K))
    refine wpQuiet_nil ?_
    intro u
    go_wp2
    go_ret
    exact Ret.mk u rfl
  · have d0 : decide ((0 : Int) < (s : Int)) = true := by simp; omega
    have d0n : decide (0 < s) = true := by simpa using h0
    have HR : Hid (sepB m L s = ((rk L s : Int) + (rk L (nand (bit m - 1) s) : Int) == (rk L (bit m - 1) : Int))) := Lib.hid (by
      unfold sepB
      rw [decide_eq_true h0, Bool.true_and, Bool.eq_iff_iff, decide_eq_true_eq, beq_iff_eq]
      omega)
    clear hn hr hT HT h0
    generalize sepB m L s = res at *
    generalize rk L (bit m - 1) = p1 at *
    generalize rk L (nand (bit m - 1) s) = p2 at *
    generalize rk L s = p3 at *
    generalize nand (bit m - 1) s = z2 at *
    generalize bit m - 1 = top at *
    go_enter Try.func39, Try.ntmps39
    go_wp2
    refine wp_region_later u (by kernel_rfl) (by kernel_rfl) (fun _ => ?_)
    repeat (first | go_big_quiet_step (((go_at_call 28; exact KA.out _))) | (refine wpQuiet_step (fun K hK => ?_); go_simp; refine ⟨_, fun _ => rfl, ?_⟩; refine hK _ ?_; clear hK K))
    refine wpQuiet_nil ?_
    intro u
    go_wp2
    go_ret
    exact Ret.mk u (by rw [HR.out]; rfl)

set_option maxRecDepth 100000 in
set_option maxHeartbeats 8000000 in
theorem c_clsTell {B : Nat} {W : World} (u : Later B W) (m : Nat) (hm : m ≤ 8) (L : List Nat) (s gm gr gt c : Nat) (hs : s < bit m) (hgm : gm < B) (hgr : gr < B) (hgt : gt < B) (hn : W.cell? ⟨gm, 0, none⟩ = some (.int .i64 m)) (hr : W.cell? ⟨gr, 0, none⟩ = some (.slice (some ⟨gt, 0, none⟩) (bit m) c)) (hT : ITab W gt (bit m) (fun j => (rk L j : Int))) :
    Calls Try.prog 36 #[.int .i64 s, .pointer (some ⟨gr, 0, none⟩), .pointer (some ⟨gm, 0, none⟩)] u.val (Ret B W (.bool (clsP m L s))) := by
  have hb := bit_le m hm
  have q0 : ∀ v : Later B W, v.val.cell? ⟨gm, 0, none⟩ = some (.int .i64 m) := fun v => by rw [v.cell hgm, hn]
  have q1 : ∀ v : Later B W, v.val.cell? ⟨gr, 0, none⟩ = some (.slice (some ⟨gt, 0, none⟩) (bit m) c) := fun v => by rw [v.cell hgr, hr]
  have HT : Hid (∀ (j : Nat), j < bit m → ∀ v : Later B W, v.val.cell? ⟨gt, j, none⟩ = some (.int .i64 (rk L j : Int))) := Lib.hid (fun j hj v => (hT.keep_at v.below hgt).cell hj)
  have cs := HT.out s hs
  have HP := Lib.hid (clsP_iff (m := m) (L := L) (s := s))
  clear hn hr hT
  rcases ieq (s : Int) 0 with ⟨h0, d0, _⟩ | ⟨h0, d0, _⟩
  · have hs0 : s = 0 := by omega
    subst hs0
    have hres : clsP m L 0 = false := by
      rw [Bool.eq_false_iff]; intro h
      exact (HP.out.1 h).1 rfl
    rw [hres]
    clear HP hres h0
    go_enter Try.func36, Try.ntmps36
    go_wp2
    go_ret
    exact Ret.mk u rfl
  rcases ilt 1 (rk L s : Int) with ⟨h1, d1⟩ | ⟨h1, d1⟩
  · have hres : clsP m L s = false := by
      rw [Bool.eq_false_iff]; intro h
      have := (HP.out.1 h).2.1
      omega
    rw [hres]
    clear HP hres h0 h1
    generalize rk L s = rs at *
    go_enter Try.func36, Try.ntmps36
    go_wp2
    go_ret
    exact Ret.mk u rfl
  have h0' : Hid (s ≠ 0) := Lib.hid (by omega)
  have h1' : Hid (rk L s ≤ 1) := Lib.hid (by omega)
  have KE := Lib.hid (fun v : Later B W => c_elements v s (by omega))
  have HEl : Hid (∀ k, k < (elems s).length → (elems s).getD k 0 < 8 ∧ s.testBit ((elems s).getD k 0) = true ∧ (elems s).getD k 0 < m) := Lib.hid (fun k hk => by
    have h := mem_elems.1 (show (elems s).getD k 0 ∈ elems s by simp [hk])
    exact ⟨h.1, h.2, lt_m_of_testBit hs h.2⟩)
  have HEm : Hid (∀ x, x < 8 → s.testBit x = true → ∃ k, k < (elems s).length ∧ (elems s).getD k 0 = x) := Lib.hid (fun x hx ht => by
    obtain ⟨k, hk, e⟩ := List.getElem_of_mem (mem_elems.2 ⟨hx, ht⟩)
    exact ⟨k, hk, by simp [hk, e]⟩)
  have HRS : Hid (∃ q : Nat, q = rk L s) := Lib.hid ⟨_, rfl⟩
  obtain ⟨rs, hrs⟩ := HRS.out
  rw [← hrs] at cs d1
  have HRs := Lib.hid hrs
  clear hrs HRS h0 h1
  generalize hres : clsP m L s = res at *
  clear hres
  go_enter Try.func36, Try.ntmps36
  go_upto_region 4 with (first | (go_at_call 37; ((with_reducible refine (KE.out u).mono ?_); rintro e _ ⟨_, rfl, ⟨ad1, cp1, rfl, hI1, hcp1⟩, v1, rfl⟩)) | fail)
  have hil : (ints (elems s)).length = (elems s).length := ints_len _
  rw [hil]
  have HI : Hid (IntsAt v1.val.heap.size v1.val ad1 (ints (elems s))) := Lib.hid hI1
  have q0' : ∀ v : Later v1.val.heap.size v1.val, v.val.cell? ⟨gm, 0, none⟩ = some (.int .i64 m) := fun v => q0 (v1.up v)
  have q1' : ∀ v : Later v1.val.heap.size v1.val, v.val.cell? ⟨gr, 0, none⟩ = some (.slice (some ⟨gt, 0, none⟩) (bit m) c) := fun v => q1 (v1.up v)
  have HT' : Hid (∀ (j : Nat), j < bit m → ∀ v : Later v1.val.heap.size v1.val, v.val.cell? ⟨gt, j, none⟩ = some (.int .i64 (rk L j : Int))) := Lib.hid (fun j hj v => HT.out j hj (v1.up v))
  have cs' : ∀ v : Later v1.val.heap.size v1.val, v.val.cell? ⟨gt, s, none⟩ = some (.int .i64 (rs : Int)) := fun v => cs (v1.up v)
  have HV : Hid (∀ v : Later v1.val.heap.size v1.val, ∃ w : Later B W, w.val = v.val) := Lib.hid (fun v => ⟨v1.up v, rfl⟩)
  clear hI1 hcp1 q0 q1 HT cs KE
  obtain ⟨z, hz⟩ : ∃ z : Later v1.val.heap.size v1.val, z.val = v1.val := ⟨Later.self _, rfl⟩
  rw [← hz]
  clear hz
  generalize v1.val = V at *
  have hel : (elems s).length ≤ 8 := sz_le s
  go_wp2_with fail
  go_loopw [6] (fun i wr => ∃ (k : Nat) (v : Later V.heap.size V), k ≤ (elems s).length ∧ i = .int .i64 k ∧ wr = v.val ∧ Hid (∀ i, i < k → rk L (bit ((elems s).getD i 0)) = rs)) (fun i _ => (elems s).length - (intOf i).toNat)
  case atStart => exact ⟨0, z, by omega, rfl, rfl, Lib.hid (fun i hi => by omega)⟩
  case round =>
    clear z
    obtain ⟨k, v, hk, rfl, rfl, hf⟩ := hrel
    by_cases hlt : k < (elems s).length
    · obtain ⟨b, off, rfl, hbB, hcell⟩ := HI.out.at (k := k) (by rw [ints_len]; exact hlt)
      have c0 : ∀ v : Later V.heap.size V, v.val.cell? ⟨b, off + k, none⟩ = some (.int .i64 (((elems s).getD k 0 : Nat) : Int)) := fun v => by rw [← ints_getD]; exact hcell v k (by rw [ints_len]; exact hlt)
      obtain ⟨hx8, hxb, hxm⟩ := HEl.out k hlt
      have HX : Hid (rk L (bit ((elems s).getD k 0)) ≠ rs → res = false) := Lib.hid (fun h => by
        cases c : res
        · rfl
        · have h2 := (HP.out.1 c).2.2.1 _ hx8 hxb
          rw [HRs.out] at h; exact absurd h2 h)
      have HY : Hid (rk L (bit ((elems s).getD k 0)) = rs → ∀ i, i < k + 1 → rk L (bit ((elems s).getD i 0)) = rs) := Lib.hid (fun h i hi => by
        by_cases c : i = k
        · subst c; exact h
        · exact hf.out i (by omega))
      clear hcell hf hxb
      generalize (elems s).getD k 0 = x at *
      have hxl : bit x < bit m := bit_lt_bit hxm
      have cx := HT'.out (bit x) hxl
      have bd := bit_lt x hx8
      have bc := bit_cast x
      have w1 := IntWalk.i64_in (bit x : Int) (by omega)
      generalize (elems s).length = el at *
      rcases ieq (rk L (bit x) : Int) (rs : Int) with ⟨h2, _, d2⟩ | ⟨h2, _, d2⟩
      · have HN := Lib.hid (HY.out (by omega))
        have hrr : Hid ((rk L (bit x) : Int) = rs) := Lib.hid h2
        clear HX HY h2
        generalize rk L (bit x) = rx at *
        go_upto_region 7 with fail
        refine wp_region_later v (by kernel_rfl) (by kernel_rfl) (fun _ => ?_)
        repeat (first | go_big_quiet_step ((fail)) | (refine wpQuiet_step (fun K hK => ?_); go_simp; refine ⟨_, fun _ => rfl, ?_⟩; refine hK _ ?_; clear hK K))
        refine wpQuiet_nil ?_
        intro v
        go_wp2
        go_roundw
        case rel => exact ⟨k+1, v, by omega, by go_num, rfl, HN⟩
        case measure => simp [intOf]; omega
      · have hr := HX.out (by omega)
        subst hr
        clear HX HY h2 HP
        generalize rk L (bit x) = rx at *
        go_upto_region 7 with fail
        refine wp_region_later v (by kernel_rfl) (by kernel_rfl) (fun _ => ?_)
        repeat (first | go_big_quiet_step ((fail)) | (refine wpQuiet_step (fun K hK => ?_); go_simp; refine ⟨_, fun _ => rfl, ?_⟩; refine hK _ ?_; clear hK K))
        refine wpQuiet_nil ?_
        intro v
        go_wp2
        go_ret
        exact Ret.of (HV.out v) rfl
    · have HA : Hid (∀ i, i < (elems s).length → rk L (bit ((elems s).getD i 0)) = rs) := Lib.hid (fun i hi => hf.out i (by omega))
      clear hf
      go_wp2_with fail
      go_loopw [7] (fun i wr => ∃ (k : Nat) (v : Later V.heap.size V), k ≤ m ∧ i = .int .i64 k ∧ wr = v.val ∧ Hid (∀ i, i < k → s.testBit i = false → rk L (bit i) = rs → rk L (s ||| bit i) ≠ rs)) (fun i _ => m - (intOf i).toNat)
      case atStart => exact ⟨0, v, by omega, rfl, rfl, Lib.hid (fun i hi => by omega)⟩
      case round =>
        clear v hlt hk
        obtain ⟨i, v, hi, rfl, rfl, hg⟩ := hrel
        have q0v := q0' v
        by_cases hlt : i < m
        · have KI := Lib.hid (fun v : Later V.heap.size V => c_in v s i (by omega) (by omega))
          have hxl : bit i < bit m := bit_lt_bit hlt
          have hor : s ||| bit i < bit m := or_lt_bit hs hxl
          have ci := HT'.out (bit i) hxl
          have co := HT'.out (s ||| bit i) hor
          have bc := bit_cast i
          have w1 := IntWalk.i64_in (bit i : Int) (by omega)
          have o1 := i64_or s (bit i) (by omega) (by omega)
          have HX : Hid (s.testBit i = false → rk L (bit i) = rs → rk L (s ||| bit i) = rs → res = false) := Lib.hid (fun h1 h2 h3 => by
            cases c : res
            · rfl
            · have h4 := (HP.out.1 c).2.2.2 i hlt h1 (by rw [h2, HRs.out])
              rw [HRs.out] at h3; exact absurd h3 h4)
          have HY : Hid (¬ (s.testBit i = false ∧ rk L (bit i) = rs ∧ rk L (s ||| bit i) = rs) → ∀ j, j < i + 1 → s.testBit j = false → rk L (bit j) = rs → rk L (s ||| bit j) ≠ rs) := Lib.hid (fun h j hj h1 h2 h3 => by
            by_cases c : j = i
            · subst c; exact h ⟨h1, h2, h3⟩
            · exact hg.out j (by omega) h1 h2 h3)
          clear hg
          go_upto_region 12 with fail
          rcases btf (s.testBit i) with ht | ht
          · have HN := Lib.hid (HY.out (fun h => by rw [ht] at h; cases h.1))
            rw [ht] at KI
            clear HX HY ht
            generalize rk L (s ||| bit i) = ro at *
            generalize rk L (bit i) = ri at *
            generalize s ||| bit i = so at *
            refine wp_region_later v (by kernel_rfl) (by kernel_rfl) (fun _ => ?_)
            repeat (first | go_big_quiet_step (((go_at_call 38; exact KI.out _))) | (refine wpQuiet_step (fun K hK => ?_); go_simp; refine ⟨_, fun _ => rfl, ?_⟩; refine hK _ ?_; clear hK K))
            refine wpQuiet_nil ?_
            intro v
            go_wp2
            go_roundw
            case rel => exact ⟨i+1, v, by omega, by go_num, rfl, HN⟩
            case measure => simp [intOf]; omega
          · rw [ht] at KI
            rcases ieq (rk L (bit i) : Int) (rs : Int) with ⟨h2, d2, _⟩ | ⟨h2, d2, _⟩
            · rcases ieq (rk L (s ||| bit i) : Int) (rs : Int) with ⟨h3, d3, _⟩ | ⟨h3, d3, _⟩
              · have hr := HX.out ht (by omega) (by omega)
                subst hr
                clear HX HY ht h2 h3 HP
                generalize rk L (s ||| bit i) = ro at *
                generalize rk L (bit i) = ri at *
                generalize s ||| bit i = so at *
                refine wp_region_later v (by kernel_rfl) (by kernel_rfl) (fun _ => ?_)
                repeat (first | go_big_quiet_step (((go_at_call 38; exact KI.out _))) | (refine wpQuiet_step (fun K hK => ?_); go_simp; refine ⟨_, fun _ => rfl, ?_⟩; refine hK _ ?_; clear hK K))
                refine wpQuiet_nil ?_
                intro v
                go_wp2
                go_ret
                exact Ret.of (HV.out v) rfl
              · have HN := Lib.hid (HY.out (fun h => h3 (by omega)))
                clear HX HY ht h2 h3
                generalize rk L (s ||| bit i) = ro at *
                generalize rk L (bit i) = ri at *
                generalize s ||| bit i = so at *
                refine wp_region_later v (by kernel_rfl) (by kernel_rfl) (fun _ => ?_)
                repeat (first | go_big_quiet_step (((go_at_call 38; exact KI.out _))) | (refine wpQuiet_step (fun K hK => ?_); go_simp; refine ⟨_, fun _ => rfl, ?_⟩; refine hK _ ?_; clear hK K))
                refine wpQuiet_nil ?_
                intro v
                go_wp2
                go_roundw
                case rel => exact ⟨i+1, v, by omega, by go_num, rfl, HN⟩
                case measure => simp [intOf]; omega
            · have HN := Lib.hid (HY.out (fun h => h2 (by omega)))
              clear HX HY ht h2
              generalize rk L (s ||| bit i) = ro at *
              generalize rk L (bit i) = ri at *
              generalize s ||| bit i = so at *
              refine wp_region_later v (by kernel_rfl) (by kernel_rfl) (fun _ => ?_)
              repeat (first | go_big_quiet_step (((go_at_call 38; exact KI.out _))) | (refine wpQuiet_step (fun K hK => ?_); go_simp; refine ⟨_, fun _ => rfl, ?_⟩; refine hK _ ?_; clear hK K))
              refine wpQuiet_nil ?_
              intro v
              go_wp2
              go_roundw
              case rel => exact ⟨i+1, v, by omega, by go_num, rfl, HN⟩
              case measure => simp [intOf]; omega
        · have hr : res = true := HP.out.2 ⟨h0'.out, h1'.out, fun x hx ht => by
            obtain ⟨k, hk, e⟩ := HEm.out x hx ht
            have := HA.out k hk
            rw [e] at this
            rw [this, HRs.out], fun j hj h2 h3 => by
            have := hg.out j (by omega) h2 (by rw [h3, HRs.out])
            rwa [HRs.out] at this⟩
          subst hr
          go_wp2
          go_ret
          exact Ret.of (HV.out v) rfl

end Go.Proofs.Ytefkhnibempibaa
