
/-
  Sums of whole numbers, plainly: exchange of two sums, one term picked, terms that come in pairs.
  Matroids, plainly: circuits, flats, hyperplanes by ranks. No program in sight.
  rotaref.Matroid.
-/
import Derived.Test.YtmcffbmhkbijlaaPk02
import Derived.Test.YtmcffbmhkbijlaaPk03
import Derived.Test.YtmcffbmhkbijlaaPk06
namespace Go.Proofs.Ytmcffbmhkbijlaa
set_option linter.unusedVariables false

def isum (f : Nat → Int) : Nat → Int
  | 0 => 0
  | k + 1 => isum f k + f k
theorem isum_congr {f g : Nat → Int} {n : Nat} (h : ∀ i, i < n → f i = g i) : isum f n = isum g n := by
  induction n with
  | zero => rfl
  | succ n ih => simp only [isum]; rw [ih (fun i hi => h i (by omega)), h n (by omega)]
theorem isum_zero {f : Nat → Int} {n : Nat} (h : ∀ i, i < n → f i = 0) : isum f n = 0 := by
  induction n with
  | zero => rfl
  | succ n ih => simp only [isum]; rw [ih (fun i hi => h i (by omega)), h n (by omega)]; rfl
theorem isum_add (f g : Nat → Int) (n : Nat) : isum (fun i => f i + g i) n = isum f n + isum g n := by
  induction n with
  | zero => rfl
  | succ n ih => simp only [isum]; rw [ih]; omega
theorem isum_neg (f : Nat → Int) (n : Nat) : isum (fun i => - f i) n = - isum f n := by
  induction n with
  | zero => rfl
  | succ n ih => simp only [isum]; rw [ih]; omega
theorem isum_swap (f : Nat → Nat → Int) (n k : Nat) : isum (fun i => isum (fun j => f i j) k) n = isum (fun j => isum (fun i => f i j) n) k := by
  induction n with
  | zero =>
    simp only [isum]
    exact (isum_zero (fun _ _ => rfl)).symm
  | succ n ih =>
    simp only [isum]
    rw [isum_add, ih]
theorem isum_tail {f : Nat → Int} {n k : Nat} (h : ∀ j, n ≤ j → j < k → f j = 0) (hk : n ≤ k) : isum f k = isum f n := by
  induction k with
  | zero => have : n = 0 := by omega
            subst this; rfl
  | succ k ih =>
    by_cases e : n = k + 1
    · subst e; rfl
    · simp only [isum]
      rw [ih (fun j h1 h2 => h j h1 (by omega)) (by omega), h k (by omega) (by omega)]
      omega
theorem isum_pick {g : Nat → Int} {n x : Nat} (hx : x < n) : isum (fun i => if i = x then g i else 0) n = g x := by
  rw [isum_tail (n := x + 1) (fun j h1 _ => if_neg (by omega)) hx]
  show isum (fun i => if i = x then g i else 0) x + (if x = x then g x else 0) = g x
  rw [isum_zero (fun i hi => if_neg (by omega)), if_pos rfl]
  omega
theorem isum_le {f : Nat → Int} {b : Nat} {n : Nat} (h : ∀ i, i < n → -(b : Int) ≤ f i ∧ f i ≤ b) : -((n * b : Nat) : Int) ≤ isum f n ∧ isum f n ≤ ((n * b : Nat) : Int) := by
  induction n with
  | zero => simp [isum]
  | succ n ih =>
    have h1 := ih (fun i hi => h i (by omega))
    have h2 := h n (by omega)
    simp only [isum]
    rw [Nat.succ_mul]
    omega
/-- terms that come in pairs, each the other's negative -/
theorem isum_invol {h : Nat → Int} {σ : Nat → Nat} {n : Nat} (hσ : ∀ s, s < n → σ s < n ∧ σ (σ s) = s) (hh : ∀ s, s < n → h (σ s) = - h s) : isum h n = 0 := by
  have e1 : isum h n = isum (fun s => isum (fun t => if t = σ s then h s else 0) n) n := isum_congr (fun s hs => (isum_pick (g := fun _ => h s) (hσ s hs).1).symm)
  have e2 := isum_swap (fun s t => if t = σ s then h s else 0) n n
  have e3 : isum (fun t => isum (fun s => if t = σ s then h s else 0) n) n = isum (fun t => - h t) n := isum_congr (fun t ht => by
    have e4 : isum (fun s => if t = σ s then h s else 0) n = isum (fun s => if s = σ t then h s else 0) n := isum_congr (fun s hs => by
      by_cases c : t = σ s
      · have : s = σ t := by rw [c, (hσ s hs).2]
        rw [if_pos c, if_pos this]
      · have : ¬ s = σ t := fun e => c (by rw [e, (hσ t ht).2])
        rw [if_neg c, if_neg this])
    rw [e4, isum_pick (hσ t ht).1, hh t ht])
  rw [e2, e3, isum_neg] at e1
  omega
/-- over all sets of a kind, one behind the other -/
theorem those_sum (m : Nat) (p : Nat → Bool) (g : Nat → Int) : isum (fun j => g ((those m p).getD j 0)) (those m p).length = isum (fun x => if p x = true then g x else 0) (bit m) := by
  have key : ∀ k, isum (fun j => g ((thoseTo p k).getD j 0)) (thoseTo p k).length = isum (fun x => if p x = true then g x else 0) k := by
    intro k
    induction k with
    | zero => rfl
    | succ k ih =>
      rw [thoseTo_step]
      by_cases c : p k = true
      · rw [if_pos c]
        simp only [isum, List.length_append, List.length_cons, List.length_nil, Nat.zero_add]
        rw [if_pos c, ← ih]
        congr 1
        · exact isum_congr (fun i hi => by simp [List.getElem?_append_left hi])
        · simp
      · rw [if_neg c]
        simp only [isum]
        rw [if_neg c, ih]
        omega
  exact key (bit m)

/-! ### signs of sets -/
def sgn (s : Nat) : Int := if sz s % 2 = 1 then -1 else 1
def flip (e s : Nat) : Nat := if s.testBit e = true then nand s (bit e) else s ||| bit e
theorem flip_testBit (e s i : Nat) : (flip e s).testBit i = if i = e then !s.testBit e else s.testBit i := by
  unfold flip
  by_cases h : s.testBit e = true
  · rw [if_pos h, nand_testBit_bit]
    by_cases c : i = e
    · subst c; simp [h]
    · simp [c, Ne.symm c]
  · rw [if_neg h, or_bit_testBit]
    by_cases c : i = e
    · subst c; simp at h; simp [h]
    · simp [c, Ne.symm c]
theorem flip_flip (e s : Nat) : flip e (flip e s) = s := by
  apply Nat.eq_of_testBit_eq
  intro i
  rw [flip_testBit, flip_testBit]
  by_cases c : i = e
  · subst c; simp
  · simp [c, flip_testBit]
theorem flip_lt {m e s : Nat} (he : e < m) (hs : s < bit m) : flip e s < bit m := by
  unfold flip
  split
  · exact nand_lt _ _ m hs
  · exact or_lt_bit hs (bit_lt_bit he)
theorem sgn_flip {e s : Nat} (he : e < 8) : sgn (flip e s) = - sgn s := by
  unfold sgn flip
  by_cases h : s.testBit e = true
  · rw [if_pos h]
    have := sz_less he h
    by_cases c : sz s % 2 = 1
    · rw [if_pos c, if_neg (by omega)]; rfl
    · rw [if_neg c, if_pos (by omega)]
  · rw [if_neg h]
    have := sz_add he (by simpa using h)
    by_cases c : sz s % 2 = 1
    · rw [if_pos c, if_neg (by omega)]; rfl
    · rw [if_neg c, if_pos (by omega)]
theorem sgn_one (s : Nat) : sgn s = 1 ∨ sgn s = -1 := by
  unfold sgn
  split
  · exact .inr rfl
  · exact .inl rfl

end Go.Proofs.Ytmcffbmhkbijlaa

namespace Go.Proofs.Ytmcffbmhkbijlaa
set_option linter.unusedVariables false

theorem and_lt256 {s b : Nat} (hs : s < 256) : s &&& b < 256 := Nat.lt_of_le_of_lt Nat.and_le_left hs
theorem sub_anti {a b : Nat} (ha : a < 256) (hb : b < 256) (h : sub a b) (k : sub b a) : a = b := eq_of_bits ha hb (fun i hi => by rw [Bool.eq_iff_iff]; exact ⟨h i, k i⟩)
theorem Ind.down {L : List Nat} {s t : Nat} (h : Ind L t) (hs : sub s t) : Ind L s := by
  obtain ⟨b, hb, hsub⟩ := h
  exact ⟨b, hb, sub_trans hs hsub⟩
theorem ind_rk {L : List Nat} (hne : L ≠ []) {s : Nat} (hs : s < 256) : Ind L s ↔ rk L s = sz s := by
  constructor
  · intro h
    have h1 := rk_ind h (fun _ h => h)
    have h2 := rk_le L s
    omega
  · intro h
    obtain ⟨b, hb, e⟩ := rk_at hne s
    refine ⟨b, hb, ?_⟩
    have h1 : s &&& b = s := eq_of_sub_sz (and_lt256 hs) hs (sub_and_left s b) (by omega)
    intro i hi
    rw [← h1, Nat.testBit_and] at hi
    simp at hi; exact hi.2

/-- least among the sets that lie in no basis -/
def Circ (L : List Nat) (s : Nat) : Prop := ¬ Ind L s ∧ ∀ t, t < 256 → sub t s → t ≠ s → Ind L t
theorem sub_lt256 {s t : Nat} (hs : s < 256) (h : sub t s) : t < 256 := by
  have : t ||| s = s := or_eq_iff.2 h
  have h2 : t ≤ t ||| s := Nat.left_le_or
  omega
theorem dep_circ {L : List Nat} : ∀ k s, s < 256 → sz s = k → ¬ Ind L s → ∃ c, c < 256 ∧ sub c s ∧ Circ L c := by
  intro k
  induction k using Nat.strongRecOn with
  | _ k ih =>
    intro s hs hk hd
    by_cases h : ∃ t, t < 256 ∧ sub t s ∧ t ≠ s ∧ ¬ Ind L t
    · obtain ⟨t, h1, h2, h3, h4⟩ := h
      have hlt : sz t < k := by
        apply Classical.byContradiction
        intro g
        exact h3 (eq_of_sub_sz h1 hs h2 (by omega))
      obtain ⟨c, h5, h6, h7⟩ := ih _ hlt t h1 rfl h4
      exact ⟨c, h5, sub_trans h6 h2, h7⟩
    · exact ⟨s, hs, fun _ h => h, hd, fun t ht hts hne => Classical.byContradiction fun g => h ⟨t, ht, hts, hne, g⟩⟩
theorem nand_bit_sub (s i : Nat) : sub (nand s (bit i)) s := fun k hk => by rw [nand_testBit] at hk; simp at hk; exact hk.1
theorem nand_bit_bit (s i : Nat) : (nand s (bit i)).testBit i = false := by rw [nand_testBit, testBit_bit]; simp
/-- a set without one of its elements holds each set within it that lacks the element -/
theorem sub_nand {t s i : Nat} (h : sub t s) (hi : t.testBit i = false) : sub t (nand s (bit i)) := fun k hk => by
  rw [nand_testBit, h k hk, testBit_bit]
  have : i ≠ k := by rintro rfl; rw [hi] at hk; cases hk
  simp [this]
theorem circ_rk {L : List Nat} (hne : L ≠ []) {s : Nat} (hs : s < 256) : Circ L s ↔ (rk L s + 1 = sz s ∧ ∀ i, i < 8 → s.testBit i = true → rk L (nand s (bit i)) = sz (nand s (bit i))) := by
  constructor
  · rintro ⟨h1, h2⟩
    have hsub : ∀ i, i < 8 → s.testBit i = true → rk L (nand s (bit i)) = sz (nand s (bit i)) := fun i hi hb => by
      have hlt : nand s (bit i) < 256 := nand_lt _ _ 8 hs
      refine (ind_rk hne hlt).1 (h2 _ hlt (nand_bit_sub s i) (fun e => ?_))
      have := nand_bit_bit s i
      rw [e, hb] at this; cases this
    refine ⟨?_, hsub⟩
    have h0 : s ≠ 0 := by
      rintro rfl
      refine h1 ((ind_rk hne (by decide)).2 ?_)
      have := rk_le L 0
      rw [sz_zero] at this ⊢
      omega
    obtain ⟨i, hi, hb⟩ := exists_bit hs h0
    have h3 := hsub i hi hb
    have h4 := rk_mono hne (nand_bit_sub s i)
    have h5 := sz_less hi hb
    have h6 := rk_le L s
    have h7 : rk L s ≠ sz s := fun e => h1 ((ind_rk hne hs).2 e)
    omega
  · rintro ⟨h1, h2⟩
    refine ⟨fun h => ?_, fun t ht hts hne2 => ?_⟩
    · have := (ind_rk hne hs).1 h; omega
    · obtain ⟨i, hi, hd⟩ : ∃ i, i < 8 ∧ t.testBit i ≠ s.testBit i := Classical.byContradiction fun g => hne2 (eq_of_bits ht hs (fun i hi => Classical.byContradiction fun c => g ⟨i, hi, c⟩))
      have hti : t.testBit i = false ∧ s.testBit i = true := by
        cases c : t.testBit i
        · rw [c] at hd; exact ⟨rfl, by simpa using hd.symm⟩
        · rw [c, hts i c] at hd; exact absurd rfl hd
      exact Ind.down ((ind_rk hne (nand_lt _ _ 8 hs)).2 (h2 i hi hti.2)) (sub_nand hts hti.1)

/-- an independent set grows within the two till it is as great as another one -/
theorem extend_to {L : List Nat} {r : Nat} (hF : Fam8 L r) (hE : Exch L) {J : Nat} (hJ8 : J < 256) (hJ : Ind L J) : ∀ d I, I < 256 → Ind L I → sz J - sz I = d → ∃ K, K < 256 ∧ Ind L K ∧ sub I K ∧ sub K (I ||| J) ∧ sz J ≤ sz K := by
  intro d
  induction d with
  | zero => intro I hI8 hI hd; exact ⟨I, hI8, hI, fun _ h => h, sub_or_left I J, by omega⟩
  | succ d ih =>
    intro I hI8 hI hd
    obtain ⟨B1, hB1, hs1⟩ := hI
    obtain ⟨B2, hB2, hs2⟩ := hJ
    obtain ⟨y, hy, h1, h2, h3⟩ := augment hF hE (show sz I < sz J by omega) _ B1 B2 hB1 hB2 hs1 hs2 rfl
    have hsz := sz_add hy h2
    obtain ⟨K, k1, k2, k3, k4, k5⟩ := ih (I ||| bit y) (or_lt _ _ hI8 (bit_lt256 y hy)) h3 (by omega)
    refine ⟨K, k1, k2, sub_trans (sub_or_left I (bit y)) k3, fun i hi => ?_, k5⟩
    have := k4 i hi
    rw [Nat.testBit_or, or_bit_testBit] at this
    rw [Nat.testBit_or]
    simp only [Bool.or_eq_true, decide_eq_true_eq] at this ⊢
    rcases this with (h | h) | h
    · exact .inl h
    · subst h; exact .inr h1
    · exact .inr h
/-- an element adds nothing to a set just if it makes a circuit with it -/
theorem flat_circ {L : List Nat} {r : Nat} (hne : L ≠ []) (hF : Fam8 L r) (hE : Exch L) {s i : Nat} (hs : s < 256) (hi : i < 8) (hsi : s.testBit i = false) : rk L (s ||| bit i) = rk L s ↔ ∃ c, c < 256 ∧ Circ L c ∧ sub c (s ||| bit i) ∧ c.testBit i = true := by
  have hsi8 := or_lt s (bit i) hs (bit_lt256 i hi)
  constructor
  · intro h
    obtain ⟨b, hb, e⟩ := rk_at hne s
    have hI8 : s &&& b < 256 := and_lt256 hs
    have hInd : Ind L (s &&& b) := ⟨b, hb, sub_and_right s b⟩
    have hIi : (s &&& b).testBit i = false := by rw [Nat.testBit_and, hsi]; rfl
    have hdep : ¬ Ind L ((s &&& b) ||| bit i) := fun g => by
      have h1 := sz_add hi hIi
      have h2 : sub ((s &&& b) ||| bit i) (s ||| bit i) := fun k hk => by
        rw [or_bit_testBit] at hk ⊢
        simp only [Bool.or_eq_true] at hk ⊢
        rcases hk with hk | hk
        · exact .inl (sub_and_left s b k hk)
        · exact .inr hk
      have h3 := rk_ind g h2
      omega
    obtain ⟨c, c1, c2, c3⟩ := dep_circ _ _ (or_lt _ _ hI8 (bit_lt256 i hi)) rfl hdep
    refine ⟨c, c1, c3, fun k hk => ?_, ?_⟩
    · have := c2 k hk
      rw [or_bit_testBit] at this ⊢
      simp only [Bool.or_eq_true] at this ⊢
      rcases this with h | h
      · exact .inl (sub_and_left s b k h)
      · exact .inr h
    · cases g : c.testBit i
      · refine absurd (Ind.down hInd (fun k hk => ?_)) c3.1
        have := c2 k hk
        rw [or_bit_testBit] at this
        simp only [Bool.or_eq_true, decide_eq_true_eq] at this
        rcases this with h | h
        · exact h
        · subst h; rw [g] at hk; cases hk
      · rfl
  · rintro ⟨c, c1, c2, c3, c4⟩
    have hmono := rk_mono hne (sub_or_left s (bit i))
    obtain ⟨b, hb, e⟩ := rk_at hne (s ||| bit i)
    have hJ8 : (s ||| bit i) &&& b < 256 := and_lt256 hsi8
    have hJ : Ind L ((s ||| bit i) &&& b) := ⟨b, hb, sub_and_right _ b⟩
    have hc8 : nand c (bit i) < 256 := nand_lt _ _ 8 c1
    have hI : Ind L (nand c (bit i)) := c2.2 _ hc8 (nand_bit_sub c i) (fun e => by
      have := nand_bit_bit c i
      rw [e, c4] at this; cases this)
    obtain ⟨K, k1, k2, k3, k4, k5⟩ := extend_to hF hE hJ8 hJ _ (nand c (bit i)) hc8 hI rfl
    have hKi : K.testBit i = false := by
      cases g : K.testBit i
      · rfl
      · refine absurd (Ind.down k2 (fun k hk => ?_)) c2.1
        by_cases e : i = k
        · subst e; exact g
        · exact k3 k (by rw [nand_testBit, hk, testBit_bit]; simp [e])
    have hKs : sub K s := fun k hk => by
      have h1 := k4 k hk
      rw [Nat.testBit_or, Nat.testBit_and] at h1
      simp only [Bool.or_eq_true, Bool.and_eq_true] at h1
      have h2 : (s ||| bit i).testBit k = true := by
        rcases h1 with h | h
        · exact c3 k (nand_bit_sub c i k h)
        · exact h.1
      rw [or_bit_testBit] at h2
      simp only [Bool.or_eq_true, decide_eq_true_eq] at h2
      rcases h2 with h | h
      · exact h
      · subst h; rw [hKi] at hk; cases hk
    have := rk_ind k2 hKs
    omega

/-- flats, by ranks -/
def Flat (m : Nat) (L : List Nat) (s : Nat) : Prop := ∀ i, i < m → s.testBit i = false → rk L (s ||| bit i) ≠ rk L s
theorem lt_bit_of_sub {m s t : Nat} (hm : m ≤ 8) (hs : s < bit m) (h : sub t s) : t < bit m := by
  have hb := bit_le m hm
  have ht := sub_lt256 (show s < 256 by omega) h
  exact (lt_pow_iff m t hm ht).2 (fun i hi hti => (lt_pow_iff m s hm (by omega)).1 hs i hi (h i hti))
theorem flat_iff {L : List Nat} {r m : Nat} (hm : m ≤ 8) (hne : L ≠ []) (hF : Fam8 L r) (hE : Exch L) {s : Nat} (hs : s < bit m) : Flat m L s ↔ ∀ c, c < bit m → Circ L c → sz (nand c s) ≠ 1 := by
  have hb := bit_le m hm
  have hs8 : s < 256 := by omega
  constructor
  · intro h c hc hcc h1
    have hc8 : c < 256 := by omega
    have hn8 : nand c s < 256 := nand_lt _ _ 8 hc8
    have h0 : nand c s ≠ 0 := by intro e; rw [e, sz_zero] at h1; omega
    obtain ⟨i, hi, hbi⟩ := exists_bit hn8 h0
    have hone : nand c s = bit i := (eq_of_sub_sz (bit_lt256 i hi) hn8 (fun k hk => by
      rw [testBit_bit, decide_eq_true_eq] at hk
      subst hk; exact hbi) (by rw [sz_bit hi]; omega)).symm
    rw [nand_testBit] at hbi
    simp only [Bool.and_eq_true, Bool.not_eq_true'] at hbi
    have him : i < m := (lt_pow_iff m c hm hc8).1 hc i hi hbi.1
    refine h i him hbi.2 ((flat_circ hne hF hE hs8 hi hbi.2).2 ⟨c, hc8, hcc, fun k hk => ?_, hbi.1⟩)
    rw [or_bit_testBit]
    cases g : s.testBit k
    · have : (nand c s).testBit k = true := by rw [nand_testBit, hk, g]; rfl
      rw [hone, testBit_bit] at this
      simp [this]
    · rfl
  · intro h i hi hsi hr
    obtain ⟨c, c1, c2, c3, c4⟩ := (flat_circ hne hF hE hs8 (by omega) hsi).1 hr
    refine h c (lt_bit_of_sub hm (or_lt_bit hs (bit_lt_bit hi)) c3) c2 ?_
    have : nand c s = bit i := eq_of_bits (nand_lt _ _ 8 c1) (bit_lt256 i (by omega)) (fun k hk => by
      rw [nand_testBit, testBit_bit]
      by_cases e : i = k
      · subst e; simp [c4, hsi]
      · cases g : c.testBit k
        · simp [e]
        · have := c3 k g
          rw [or_bit_testBit] at this
          simp [e] at this
          simp [e, this])
    rw [this, sz_bit (by omega)]

/-- no basis lies within -/
def NoSpan (L : List Nat) (s : Nat) : Prop := ∀ b, b ∈ L → ¬ sub b s
theorem noSpan_iff {L : List Nat} {r : Nat} (hne : L ≠ []) (hF : Fam8 L r) (s : Nat) (hs : s < 256) : NoSpan L s ↔ rk L s < r := by
  constructor
  · intro h
    obtain ⟨b, hb, e⟩ := rk_at hne s
    have h1 : sz (s &&& b) ≤ sz b := sz_mono (sub_and_right s b)
    rw [hF.eq b hb] at h1
    rcases Nat.lt_or_eq_of_le h1 with g | g
    · omega
    · exfalso
      refine h b hb ?_
      have : s &&& b = b := eq_of_sub_sz (and_lt256 hs) (hF.lt b hb) (sub_and_right s b) (by rw [hF.eq b hb]; omega)
      intro i hi
      rw [← this, Nat.testBit_and] at hi
      simp at hi; exact hi.1
  · intro h b hb hsub
    have := rk_ind ⟨b, hb, fun _ h => h⟩ hsub
    rw [hF.eq b hb] at this
    omega
theorem rk_all {L : List Nat} {r m : Nat} (hne : L ≠ []) (hF : Fam8 L r) (hlt : ∀ b, b ∈ L → b < bit m) : rk L (bit m - 1) = r := by
  obtain ⟨b, hb⟩ := List.exists_mem_of_ne_nil L hne
  have h1 : sub b (bit m - 1) := fun i hi => by
    rw [testBit_all, decide_eq_true_eq]
    exact lt_m_of_testBit (hlt b hb) hi
  have h2 := rk_ind ⟨b, hb, fun _ h => h⟩ h1
  rw [hF.eq b hb] at h2
  obtain ⟨b', hb', e⟩ := rk_at hne (bit m - 1)
  have h3 : sz ((bit m - 1) &&& b') ≤ sz b' := sz_mono (sub_and_right _ b')
  rw [hF.eq b' hb'] at h3
  omega
/-- hyperplanes, by ranks -/
theorem hyper_iff {L : List Nat} {r m : Nat} (hm : m ≤ 8) (hne : L ≠ []) (hF : Fam8 L r) (hlt : ∀ b, b ∈ L → b < bit m) {s : Nat} (hs : s < bit m) : (rk L s + 1 = rk L (bit m - 1) ∧ Flat m L s) ↔ (NoSpan L s ∧ ∀ t, t < bit m → NoSpan L t → sub s t → t = s) := by
  have hb := bit_le m hm
  have hs8 : s < 256 := by omega
  rw [rk_all hne hF hlt]
  constructor
  · rintro ⟨h1, h2⟩
    refine ⟨(noSpan_iff hne hF s hs8).2 (by omega), fun t ht hn hst => ?_⟩
    have ht8 : t < 256 := by omega
    apply Classical.byContradiction
    intro hne2
    obtain ⟨i, hi, hd⟩ : ∃ i, i < 8 ∧ s.testBit i ≠ t.testBit i := Classical.byContradiction fun g => hne2 (eq_of_bits ht8 hs8 (fun i hi => Classical.byContradiction fun c => g ⟨i, hi, fun e => c e.symm⟩))
    have hti : s.testBit i = false ∧ t.testBit i = true := by
      cases c : s.testBit i
      · rw [c] at hd; exact ⟨rfl, by simpa using hd.symm⟩
      · rw [c, hst i c] at hd; exact absurd rfl hd
    have him : i < m := (lt_pow_iff m t hm ht8).1 ht i hi hti.2
    have h3 := h2 i him hti.1
    have h4 := rk_mono hne (sub_or_left s (bit i))
    have h5 : sub (s ||| bit i) t := fun k hk => by
      rw [or_bit_testBit] at hk
      simp only [Bool.or_eq_true, decide_eq_true_eq] at hk
      rcases hk with hk | hk
      · exact hst k hk
      · subst hk; exact hti.2
    have h6 := rk_mono hne h5
    have h7 := (noSpan_iff hne hF t ht8).1 hn
    omega
  · rintro ⟨h1, h2⟩
    have hr := (noSpan_iff hne hF s hs8).1 h1
    have hfl : Flat m L s := fun i hi hsi e => by
      have h8 := or_lt_bit hs (bit_lt_bit hi)
      have hn : NoSpan L (s ||| bit i) := (noSpan_iff hne hF _ (by omega)).2 (by omega)
      have := h2 _ h8 hn (sub_or_left s (bit i))
      have h9 := congrArg (fun x => x.testBit i) this
      simp only [or_bit_testBit, hsi] at h9
      simp at h9
    refine ⟨?_, hfl⟩
    -- some element is not in s
    have hex : ∃ i, i < m ∧ s.testBit i = false := by
      apply Classical.byContradiction
      intro g
      have hall : s = bit m - 1 := eq_of_bits hs8 (by omega) (fun i hi => by
        rw [testBit_all]
        by_cases c : i < m
        · cases d : s.testBit i
          · exact absurd ⟨i, c, d⟩ g
          · simp [c]
        · cases d : s.testBit i
          · simp [c]
          · exact absurd ((lt_pow_iff m s hm hs8).1 hs i hi d) c)
      have := rk_all hne hF hlt
      rw [← hall] at this
      omega
    obtain ⟨i, hi, hsi⟩ := hex
    have h3 := rk_step hne s i (by omega)
    have h4 : ¬ rk L (s ||| bit i) < r := fun g => by
      have h8 := or_lt_bit hs (bit_lt_bit hi)
      have := h2 _ h8 ((noSpan_iff hne hF _ (by omega)).2 g) (sub_or_left s (bit i))
      have h9 := congrArg (fun x => x.testBit i) this
      simp only [or_bit_testBit, hsi] at h9
      simp at h9
    omega

end Go.Proofs.Ytmcffbmhkbijlaa

namespace Go.Proofs.Ytmcffbmhkbijlaa
open Go.RowKit
set_option linter.unusedVariables false

def subAt (r : Nat → Nat) (s i k : Nat) : Prop := r ((s ||| bit i) ||| (s ||| bit k)) + r ((s ||| bit i) &&& (s ||| bit k)) ≤ r (s ||| bit i) + r (s ||| bit k)
theorem rk_le8 (L : List Nat) (s : Nat) : rk L s ≤ 8 := rkTo_le8 L s L.length

end Go.Proofs.Ytmcffbmhkbijlaa
