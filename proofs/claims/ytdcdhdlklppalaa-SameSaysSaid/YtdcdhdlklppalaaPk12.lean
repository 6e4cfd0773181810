
/-
  Matroids made of one, plainly: Dual, Delete, Contract and Truncate as minors makes them and as rotaref makes them, by ranks.
  Orders of elements, plainly: images of sets, sums that orders do not change, searches that prune. No program in sight.
  Searches over orders that call a function value with what they find: frames.
-/
import Derived.Test.YtdcdhdlklppalaaPk11
import Derived.Test.YtdcdhdlklppalaaPk08
import Derived.Test.YtdcdhdlklppalaaPk07
namespace Go.Proofs.Ytdcdhdlklppalaa
set_option linter.unusedVariables false

/-! ### what is left of n elements, numbered anew -/
/-- how many of the first i elements are not gone -/
def cnt (gone : Nat) : Nat → Nat
  | 0 => 0
  | i + 1 => if gone.testBit i = true then cnt gone i else cnt gone i + 1
theorem cnt_yes {gone i : Nat} (h : gone.testBit i = true) : cnt gone (i + 1) = cnt gone i := by simp only [cnt]; rw [if_pos h]
theorem cnt_no {gone i : Nat} (h : gone.testBit i = false) : cnt gone (i + 1) = cnt gone i + 1 := by simp only [cnt]; rw [if_neg (by rw [h]; decide)]
theorem cnt_step (gone i : Nat) : cnt gone i ≤ cnt gone (i + 1) ∧ cnt gone (i + 1) ≤ cnt gone i + 1 := by
  cases h : gone.testBit i
  · rw [cnt_no h]; omega
  · rw [cnt_yes h]; omega
theorem cnt_le (gone i : Nat) : cnt gone i ≤ i := by
  induction i with
  | zero => exact Nat.le_refl _
  | succ i ih => have := cnt_step gone i; omega
theorem cnt_mono (gone : Nat) {i j : Nat} (h : i ≤ j) : cnt gone i ≤ cnt gone j := by
  induction j with
  | zero => have : i = 0 := by omega
            subst this; exact Nat.le_refl _
  | succ j ih =>
    by_cases e : i = j + 1
    · subst e; exact Nat.le_refl _
    · have := cnt_step gone j
      have := ih (by omega)
      omega
theorem cnt_lt {gone i j : Nat} (h : i < j) (hg : gone.testBit i = false) : cnt gone i < cnt gone j := by
  have h1 := cnt_no hg
  have h2 := cnt_mono gone (show i + 1 ≤ j by omega)
  omega
theorem cnt_inj {gone i j : Nat} (hi : gone.testBit i = false) (hj : gone.testBit j = false) (h : cnt gone i = cnt gone j) : i = j := by
  rcases Nat.lt_trichotomy i j with g | g | g
  · have := cnt_lt g hi; omega
  · exact g
  · have := cnt_lt g hj; omega
theorem cnt_onto {gone n q : Nat} (h : q < cnt gone n) : ∃ j, j < n ∧ gone.testBit j = false ∧ cnt gone j = q := by
  induction n with
  | zero => simp only [cnt] at h; omega
  | succ n ih =>
    by_cases c : q < cnt gone n
    · obtain ⟨j, h1, h2, h3⟩ := ih c
      exact ⟨j, by omega, h2, h3⟩
    · cases g : gone.testBit n
      · have := cnt_no g
        exact ⟨n, by omega, g, by omega⟩
      · have := cnt_yes g
        omega
theorem cnt_sum (gone i : Nat) : cnt gone i + bsum (fun j => (gone.testBit j).toNat) i = i := by
  induction i with
  | zero => rfl
  | succ i ih =>
    simp only [bsum]
    cases g : gone.testBit i
    · rw [cnt_no g]; simp; omega
    · rw [cnt_yes g]; simp; omega
theorem bsum_tail {f : Nat → Nat} {n k : Nat} (h : ∀ j, n ≤ j → f j = 0) (hk : n ≤ k) : bsum f k = bsum f n := by
  induction k with
  | zero => have : n = 0 := by omega
            subst this; rfl
  | succ k ih =>
    by_cases e : n = k + 1
    · subst e; rfl
    · simp only [bsum]
      rw [ih (by omega), h k (by omega)]
      omega
theorem bit_hi {n s j : Nat} (hs : s < bit n) (hj : n ≤ j) : s.testBit j = false := by
  cases h : s.testBit j
  · rfl
  · have := lt_m_of_testBit hs h; omega
theorem cnt_sz {gone n : Nat} (hn : n ≤ 8) (h : gone < bit n) : cnt gone n + sz gone = n := by
  have h1 := cnt_sum gone n
  have h2 : bsum (fun j => (gone.testBit j).toNat) 8 = bsum (fun j => (gone.testBit j).toNat) n := bsum_tail (fun j hj => by rw [bit_hi h hj]; rfl) hn
  rw [sz_sum, h2]
  exact h1
theorem sz_le_m {n s : Nat} (hn : n ≤ 8) (h : s < bit n) : sz s ≤ n := by
  have := cnt_sz hn h
  omega

/-- a set of few elements, as one of those that are left -/
def spTo (gone s : Nat) : Nat → Nat
  | 0 => 0
  | i + 1 => if gone.testBit i = false ∧ s.testBit (cnt gone i) = true then spTo gone s i ||| bit i else spTo gone s i
theorem spTo_testBit (gone s i j : Nat) : (spTo gone s i).testBit j = true ↔ j < i ∧ gone.testBit j = false ∧ s.testBit (cnt gone j) = true := by
  induction i with
  | zero => simp [spTo]
  | succ i ih =>
    simp only [spTo]
    by_cases c : gone.testBit i = false ∧ s.testBit (cnt gone i) = true
    · rw [if_pos c, or_bit_testBit, Bool.or_eq_true, ih, decide_eq_true_eq]
      constructor
      · rintro (⟨h1, h2⟩ | h)
        · exact ⟨by omega, h2⟩
        · subst h; exact ⟨by omega, c⟩
      · rintro ⟨h1, h2⟩
        by_cases e : i = j
        · exact .inr e
        · exact .inl ⟨by omega, h2⟩
    · rw [if_neg c, ih]
      constructor
      · rintro ⟨h1, h2⟩; exact ⟨by omega, h2⟩
      · rintro ⟨h1, h2⟩
        by_cases e : i = j
        · subst e; exact absurd h2 c
        · exact ⟨by omega, h2⟩
theorem spTo_lt (gone s i : Nat) : spTo gone s i < bit i := by
  induction i with
  | zero => exact Nat.zero_lt_one
  | succ i ih =>
    simp only [spTo]
    have h2 : bit i < bit (i + 1) := bit_lt_bit (Nat.lt_succ_self i)
    split
    · exact or_lt_bit (by omega) h2
    · omega
/-- what is left of a set, numbered anew -/
def prTo (gone s : Nat) : Nat → Nat
  | 0 => 0
  | i + 1 => if gone.testBit i = false ∧ s.testBit i = true then prTo gone s i ||| bit (cnt gone i) else prTo gone s i
theorem prTo_testBit (gone s i q : Nat) : (prTo gone s i).testBit q = true ↔ ∃ j, j < i ∧ gone.testBit j = false ∧ cnt gone j = q ∧ s.testBit j = true := by
  induction i with
  | zero => simp [prTo]
  | succ i ih =>
    simp only [prTo]
    by_cases c : gone.testBit i = false ∧ s.testBit i = true
    · rw [if_pos c, or_bit_testBit, Bool.or_eq_true, ih, decide_eq_true_eq]
      constructor
      · rintro (⟨j, h1, h2⟩ | h)
        · exact ⟨j, by omega, h2⟩
        · exact ⟨i, by omega, c.1, h, c.2⟩
      · rintro ⟨j, h1, h2, h3, h4⟩
        by_cases e : j = i
        · subst e; exact .inr h3
        · exact .inl ⟨j, by omega, h2, h3, h4⟩
    · rw [if_neg c, ih]
      constructor
      · rintro ⟨j, h1, h2⟩; exact ⟨j, by omega, h2⟩
      · rintro ⟨j, h1, h2, h3, h4⟩
        by_cases e : j = i
        · subst e; exact absurd ⟨h2, h4⟩ c
        · exact ⟨j, by omega, h2, h3, h4⟩
theorem bit_mono {i j : Nat} (h : i ≤ j) : bit i ≤ bit j := Nat.pow_le_pow_right (by decide) h
theorem prTo_lt (gone s i : Nat) : prTo gone s i < bit (cnt gone i) := by
  induction i with
  | zero => exact Nat.zero_lt_one
  | succ i ih =>
    simp only [prTo]
    have h1 := bit_mono (cnt_step gone i).1
    split
    · rename_i c
      refine or_lt_bit (by omega) ?_
      rw [cnt_no c.1]
      exact bit_lt_bit (Nat.lt_succ_self _)
    · omega
theorem pr_sp {gone n t : Nat} (h : t < bit (cnt gone n)) : prTo gone (spTo gone t n) n = t := by
  apply Nat.eq_of_testBit_eq
  intro q
  rw [Bool.eq_iff_iff, prTo_testBit]
  constructor
  · rintro ⟨j, h1, h2, h3, h4⟩
    have := ((spTo_testBit _ _ _ _).1 h4).2.2
    rwa [h3] at this
  · intro hq
    obtain ⟨j, h1, h2, h3⟩ := cnt_onto (lt_m_of_testBit h hq)
    exact ⟨j, h1, h2, h3, (spTo_testBit _ _ _ _).2 ⟨h1, h2, by rw [h3]; exact hq⟩⟩
theorem sp_pr {gone n s : Nat} (h : s < bit n) : spTo gone (prTo gone s n) n = nand s gone := by
  apply Nat.eq_of_testBit_eq
  intro j
  rw [Bool.eq_iff_iff, spTo_testBit, nand_testBit, prTo_testBit, Bool.and_eq_true, Bool.not_eq_true']
  constructor
  · rintro ⟨h1, h2, k, h3, h4, h5, h6⟩
    have := cnt_inj h4 h2 h5
    subst this
    exact ⟨h6, h2⟩
  · rintro ⟨h1, h2⟩
    have h3 := lt_m_of_testBit h h1
    exact ⟨h3, h2, j, h3, h2, rfl, h1⟩
theorem pr_nand (gone s n : Nat) : prTo gone (nand s gone) n = prTo gone s n := by
  apply Nat.eq_of_testBit_eq
  intro q
  rw [Bool.eq_iff_iff, prTo_testBit, prTo_testBit]
  constructor
  · rintro ⟨j, h1, h2, h3, h4⟩
    rw [nand_testBit] at h4
    simp at h4
    exact ⟨j, h1, h2, h3, h4.1⟩
  · rintro ⟨j, h1, h2, h3, h4⟩
    exact ⟨j, h1, h2, h3, by rw [nand_testBit, h4, h2]; rfl⟩
theorem sz_sp {gone n t : Nat} (hn : n ≤ 8) (h : t < bit (cnt gone n)) : sz (spTo gone t n) = sz t := by
  have key : ∀ i, i ≤ n → bsum (fun j => ((spTo gone t n).testBit j).toNat) i = bsum (fun q => (t.testBit q).toNat) (cnt gone i) := by
    intro i
    induction i with
    | zero => intro _; rfl
    | succ i ih =>
      intro hi
      simp only [bsum]
      rw [ih (by omega)]
      cases g : gone.testBit i
      · rw [cnt_no g]
        simp only [bsum]
        have : (spTo gone t n).testBit i = t.testBit (cnt gone i) := by
          rw [Bool.eq_iff_iff, spTo_testBit]
          exact ⟨fun x => x.2.2, fun x => ⟨by omega, g, x⟩⟩
        rw [this]
      · rw [cnt_yes g]
        have : (spTo gone t n).testBit i = false := by
          cases c : (spTo gone t n).testBit i
          · rfl
          · have := ((spTo_testBit _ _ _ _).1 c).2.1
            rw [g] at this; cases this
        rw [this]; simp
  have h1 := key n (Nat.le_refl _)
  have h2 : bsum (fun j => ((spTo gone t n).testBit j).toNat) 8 = bsum (fun j => ((spTo gone t n).testBit j).toNat) n := bsum_tail (fun j hj => by rw [bit_hi (spTo_lt gone t n) hj]; rfl) hn
  have h3 : bsum (fun q => (t.testBit q).toNat) 8 = bsum (fun q => (t.testBit q).toNat) (cnt gone n) := bsum_tail (fun j hj => by rw [bit_hi h hj]; rfl) (by have := cnt_le gone n; omega)
  rw [sz_sum, sz_sum, h2, h3, h1]
theorem sp_sub {gone t n : Nat} : sub (spTo gone t n) (nand (bit n - 1) gone) := fun j hj => by
  obtain ⟨h1, h2, _⟩ := (spTo_testBit _ _ _ _).1 hj
  rw [nand_testBit, testBit_all, h2]
  simpa using h1
theorem sp_all (gone n : Nat) : spTo gone (bit (cnt gone n) - 1) n = nand (bit n - 1) gone := by
  apply Nat.eq_of_testBit_eq
  intro j
  rw [Bool.eq_iff_iff, spTo_testBit, nand_testBit, testBit_all, testBit_all, Bool.and_eq_true, Bool.not_eq_true', decide_eq_true_eq, decide_eq_true_eq]
  constructor
  · rintro ⟨h1, h2, _⟩; exact ⟨h1, h2⟩
  · rintro ⟨h1, h2⟩; exact ⟨h1, h2, cnt_lt h1 h2⟩

/-! ### those of a list with the greatest key -/
def growL (key : Nat → Int) (L : List Nat) : Nat → List Nat × Int
  | 0 => ([], -1)
  | k + 1 => if (growL key L k).2 < key (L.getD k 0) then ([L.getD k 0], key (L.getD k 0)) else if key (L.getD k 0) = (growL key L k).2 then ((growL key L k).1 ++ [L.getD k 0], (growL key L k).2) else growL key L k
theorem growL_len (key : Nat → Int) (L : List Nat) (k : Nat) : (growL key L k).1.length ≤ k := by
  induction k with
  | zero => exact Nat.le_refl _
  | succ k ih =>
    simp only [growL]
    split
    · simp
    · split
      · simp; exact ih
      · omega
theorem growL_is (key : Nat → Int) (L : List Nat) (k : Nat) (hpos : ∀ i, i < k → 0 ≤ key (L.getD i 0)) : (∀ i, i < k → key (L.getD i 0) ≤ (growL key L k).2) ∧ (∀ b, b ∈ (growL key L k).1 ↔ (∃ i, i < k ∧ L.getD i 0 = b) ∧ key b = (growL key L k).2) := by
  induction k with
  | zero => exact ⟨fun i hi => by omega, fun b => by simp [growL]⟩
  | succ k ih =>
    obtain ⟨h1, h2⟩ := ih (fun i hi => hpos i (by omega))
    simp only [growL]
    by_cases c1 : (growL key L k).2 < key (L.getD k 0)
    · rw [if_pos c1]
      refine ⟨fun i hi => ?_, fun b => ?_⟩
      · by_cases e : i = k
        · subst e; exact Int.le_refl _
        · have := h1 i (by omega)
          show _ ≤ key (L.getD k 0)
          omega
      · show b ∈ [L.getD k 0] ↔ _ ∧ key b = key (L.getD k 0)
        rw [List.mem_singleton]
        constructor
        · rintro rfl; exact ⟨⟨k, by omega, rfl⟩, rfl⟩
        · rintro ⟨⟨i, hi, rfl⟩, he⟩
          by_cases e : i = k
          · subst e; rfl
          · have := h1 i (by omega); omega
    · rw [if_neg c1]
      by_cases c2 : key (L.getD k 0) = (growL key L k).2
      · rw [if_pos c2]
        refine ⟨fun i hi => ?_, fun b => ?_⟩
        · show _ ≤ (growL key L k).2
          by_cases e : i = k
          · subst e; omega
          · exact h1 i (by omega)
        · show b ∈ (growL key L k).1 ++ [L.getD k 0] ↔ _ ∧ key b = (growL key L k).2
          rw [List.mem_append, List.mem_singleton, h2]
          constructor
          · rintro (⟨⟨i, hi, rfl⟩, he⟩ | rfl)
            · exact ⟨⟨i, by omega, rfl⟩, he⟩
            · exact ⟨⟨k, by omega, rfl⟩, c2⟩
          · rintro ⟨⟨i, hi, rfl⟩, he⟩
            by_cases e : i = k
            · subst e; exact .inr rfl
            · exact .inl ⟨⟨i, by omega, rfl⟩, he⟩
      · rw [if_neg c2]
        refine ⟨fun i hi => ?_, fun b => ?_⟩
        · by_cases e : i = k
          · subst e; omega
          · exact h1 i (by omega)
        · rw [h2]
          constructor
          · rintro ⟨⟨i, hi, rfl⟩, he⟩; exact ⟨⟨i, by omega, rfl⟩, he⟩
          · rintro ⟨⟨i, hi, rfl⟩, he⟩
            by_cases e : i = k
            · subst e; exact absurd he c2
            · exact ⟨⟨i, by omega, rfl⟩, he⟩
theorem mem_growL {key : Nat → Int} {L : List Nat} (hpos : ∀ b, b ∈ L → 0 ≤ key b) {b : Nat} : b ∈ (growL key L L.length).1 ↔ b ∈ L ∧ ∀ x, x ∈ L → key x ≤ key b := by
  have hget : ∀ i, i < L.length → L.getD i 0 ∈ L := fun i hi => by simp [hi]
  obtain ⟨h1, h2⟩ := growL_is key L L.length (fun i hi => hpos _ (hget i hi))
  have hex : ∀ x, x ∈ L → ∃ i, i < L.length ∧ L.getD i 0 = x := fun x hx => by
    obtain ⟨i, hi, e⟩ := List.getElem_of_mem hx
    exact ⟨i, hi, by simp [hi, e]⟩
  rw [h2]
  constructor
  · rintro ⟨⟨i, hi, rfl⟩, he⟩
    refine ⟨hget i hi, fun x hx => ?_⟩
    obtain ⟨j, hj, rfl⟩ := hex x hx
    have := h1 j hj
    omega
  · rintro ⟨hb, hm⟩
    refine ⟨hex b hb, ?_⟩
    obtain ⟨i, hi, e⟩ := hex b hb
    have h3 := h1 i hi
    rw [e] at h3
    -- the greatest key is met
    have hat : ∀ k, k ≤ L.length → (growL key L k).2 = -1 ∨ ∃ j, j < k ∧ key (L.getD j 0) = (growL key L k).2 := by
      intro k
      induction k with
      | zero => intro _; exact .inl rfl
      | succ k ih =>
        intro hk
        simp only [growL]
        split
        · exact .inr ⟨k, by omega, rfl⟩
        · split
          · rename_i c2
            exact .inr ⟨k, by omega, c2⟩
          · rcases ih (by omega) with h | ⟨j, hj, h⟩
            · exact .inl h
            · exact .inr ⟨j, by omega, h⟩
    rcases hat L.length (Nat.le_refl _) with h | ⟨j, hj, h⟩
    · have := hpos b hb; omega
    · have := hm _ (hget j hj)
      omega

/-! ### the same matroids -/
/-- whether a set is a basis of the matroid of a rank function -/
def ofRank (n : Nat) (r : Nat → Int) (s : Nat) : Bool := decide (r s = sz s ∧ r s = r (bit n - 1))
def memB (l : List Nat) (s : Nat) : Bool := decide (s ∈ l)
theorem sz_full {m : Nat} (hm : m ≤ 8) : sz (bit m - 1) = m := by
  have : ∀ m : Fin 9, sz (bit m.val - 1) = m.val := by decide
  exact this ⟨m, by omega⟩
theorem all_and {m b : Nat} (h : b < bit m) : (bit m - 1) &&& b = b := by
  apply Nat.eq_of_testBit_eq
  intro i
  rw [Nat.testBit_and, testBit_all]
  cases c : b.testBit i
  · simp
  · have := lt_m_of_testBit h c
    simp [this]
theorem nand_all_all (x : Nat) : nand x x = 0 := by
  apply Nat.eq_of_testBit_eq
  intro i
  rw [nand_testBit]
  cases x.testBit i <;> simp
theorem nand_nand {m s : Nat} (h : s < bit m) : nand (bit m - 1) (nand (bit m - 1) s) = s := by
  apply Nat.eq_of_testBit_eq
  intro i
  rw [nand_testBit, nand_testBit, testBit_all]
  cases c : s.testBit i
  · cases decide (i < m) <;> rfl
  · have := lt_m_of_testBit h c
    simp [this]
theorem all_lt (m : Nat) : bit m - 1 < bit m := by
  have : 1 ≤ bit m := Nat.one_le_two_pow
  omega
theorem nand_all_lt (m s : Nat) : nand (bit m - 1) s < bit m := by
  have h1 := nand_le (bit m - 1) s
  have h2 := all_lt m
  omega
theorem sz_nand_all {m s : Nat} (hm : m ≤ 8) (h : s < bit m) : sz (nand (bit m - 1) s) + sz s = m := by
  have h1 := sz_diff (bit m - 1) s
  rw [all_and h, sz_full hm] at h1
  exact h1
theorem mem_of_ind_sz {L : List Nat} {r s : Nat} (hF : Fam8 L r) (hs : s < 256) (h : Ind L s) (hz : sz s = r) : s ∈ L := by
  obtain ⟨b, hb, hsub⟩ := h
  have := eq_of_sub_sz hs (hF.lt b hb) hsub (by rw [hF.eq b hb]; omega)
  rw [this]; exact hb
theorem rk_zero (L : List Nat) : rk L 0 = 0 := by
  have := rk_le L 0
  rw [sz_zero] at this
  omega

def dualR (m : Nat) (L : List Nat) (s : Nat) : Int := (sz s : Int) - rk L (bit m - 1) + rk L (nand (bit m - 1) s)
theorem dual_same {m r : Nat} (hm : m ≤ 8) {L : List Nat} (hne : L ≠ []) (hF : Fam8 L r) (hlt : ∀ b, b ∈ L → b < bit m) : those m (memB (L.map (fun b => nand (bit m - 1) b))) = those m (ofRank m (dualR m L)) := those_mem_eq (fun s hs => by
  have hbm := bit_le m hm
  have hra := rk_all hne hF hlt
  unfold memB ofRank dualR
  rw [decide_eq_true_eq, decide_eq_true_eq, nand_all_all, rk_zero, sz_full hm, hra, List.mem_map]
  have hsz := sz_nand_all hm hs
  have hc : nand (bit m - 1) s < 256 := by have := nand_all_lt m s; omega
  constructor
  · rintro ⟨b, hb, rfl⟩
    rw [nand_nand (hlt b hb)]
    have h1 := rk_ind (L := L) (I := b) (s := b) ⟨b, hb, fun _ h => h⟩ (fun _ h => h)
    have h2 := rk_le L b
    have h3 := hF.eq b hb
    have h4 := sz_nand_all hm (hlt b hb)
    omega
  · rintro ⟨h1, h2⟩
    refine ⟨nand (bit m - 1) s, mem_of_ind_sz hF hc ((ind_rk hne hc).2 ?_) ?_, nand_nand hs⟩
    · omega
    · omega)

def delR (m : Nat) (L : List Nat) (s t : Nat) : Int := (rk L (spTo s t m) : Int)
def delKey (m s b : Nat) : Int := (m : Int) - sz (b &&& s)
def delL (m : Nat) (L : List Nat) (s : Nat) : List Nat := ((growL (delKey m s) L L.length).1).map (fun b => prTo s b m)
theorem and_nand_all {m s b : Nat} (h : b < bit m) : nand (bit m - 1) s &&& b = nand b s := by
  apply Nat.eq_of_testBit_eq
  intro i
  rw [Nat.testBit_and, nand_testBit, nand_testBit, testBit_all]
  cases c : b.testBit i
  · simp
  · have := lt_m_of_testBit h c
    simp [this]
theorem and_eq_left {a b : Nat} (h : sub a b) : a &&& b = a := by
  apply Nat.eq_of_testBit_eq
  intro i
  rw [Nat.testBit_and]
  cases c : a.testBit i
  · rfl
  · rw [h i c]; rfl
theorem rk_self {L : List Nat} {I : Nat} (h : Ind L I) : rk L I = sz I := by
  have h1 := rk_ind h (fun _ x => x)
  have h2 := rk_le L I
  omega
theorem del_same {m r s : Nat} (hm : m ≤ 8) {L : List Nat} (hne : L ≠ []) (hF : Fam8 L r) (hlt : ∀ b, b ∈ L → b < bit m) (hs : s < bit m) : those (cnt s m) (memB (delL m L s)) = those (cnt s m) (ofRank (cnt s m) (delR m L s)) := those_mem_eq (fun t ht => by
  have hbm := bit_le m hm
  unfold memB ofRank delR delL
  rw [decide_eq_true_eq, decide_eq_true_eq, sp_all, List.mem_map]
  have hpos : ∀ b, b ∈ L → 0 ≤ delKey m s b := fun b hb => by
    have h1 := sz_le_m hm (hlt b hb)
    have h2 := sz_mono (sub_and_left b s)
    unfold delKey; omega
  have hsz := sz_sp hm ht
  have hS : spTo s t m < 256 := by have := spTo_lt s t m; omega
  have hE : ∀ b, b ∈ L → sz (nand b s) ≤ rk L (nand (bit m - 1) s) := fun b hb => by
    have := rk_ge (nand (bit m - 1) s) hb
    rwa [and_nand_all (hlt b hb)] at this
  have hkey : ∀ b, b ∈ L → delKey m s b = (m : Int) - r + sz (nand b s) := fun b hb => by
    have h1 := sz_diff b s
    have h2 := hF.eq b hb
    unfold delKey; omega
  obtain ⟨b0, hb0, e0⟩ := rk_at hne (nand (bit m - 1) s)
  rw [and_nand_all (hlt b0 hb0)] at e0
  constructor
  · rintro ⟨b, hb, hp⟩
    rw [mem_growL hpos] at hb
    obtain ⟨hb, hmax⟩ := hb
    have hSb : spTo s t m = nand b s := by rw [← hp, sp_pr (hlt b hb)]
    have h1 := hmax b0 hb0
    rw [hkey b0 hb0, hkey b hb] at h1
    have h2 := hE b hb
    have h3 := rk_self (L := L) (I := nand b s) ⟨b, hb, fun k hk => by rw [nand_testBit] at hk; simp at hk; exact hk.1⟩
    rw [hSb] at hsz ⊢
    omega
  · rintro ⟨h1, h2⟩
    obtain ⟨b, hb, e⟩ := rk_at hne (spTo s t m)
    have h3 : spTo s t m &&& b = spTo s t m := eq_of_sub_sz (and_lt256 hS) hS (sub_and_left _ _) (by omega)
    have h4 : sub (spTo s t m) b := fun k hk => by rw [← h3, Nat.testBit_and] at hk; simp at hk; exact hk.2
    have h5 : sub (spTo s t m) (nand b s) := fun k hk => by
      have := sp_sub k hk
      rw [nand_testBit] at this ⊢
      simp at this
      rw [h4 k hk, this.2]; rfl
    have h6 := hE b hb
    have h7 : spTo s t m = nand b s := eq_of_sub_sz hS (nand_lt _ _ 8 (hF.lt b hb)) h5 (by omega)
    refine ⟨b, (mem_growL hpos).2 ⟨hb, fun x hx => ?_⟩, ?_⟩
    · rw [hkey x hx, hkey b hb]
      have := hE x hx
      rw [← h7]
      omega
    · rw [← pr_nand, ← h7, pr_sp ht])

def conR (m : Nat) (L : List Nat) (s t : Nat) : Int := (rk L (spTo s t m ||| s) : Int) - rk L s
def conKey (s b : Nat) : Int := (sz (b &&& s) : Int)
def conL (m : Nat) (L : List Nat) (s : Nat) : List Nat := ((growL (conKey s) L L.length).1).map (fun b => prTo s b m)
theorem nand_all_or {m s : Nat} (hs : s < bit m) : nand (bit m - 1) s ||| s = bit m - 1 := by
  apply Nat.eq_of_testBit_eq
  intro i
  rw [Nat.testBit_or, nand_testBit, testBit_all]
  cases c : s.testBit i
  · simp
  · have := lt_m_of_testBit hs c
    simp [this]
theorem con_same {m r s : Nat} (hm : m ≤ 8) {L : List Nat} (hne : L ≠ []) (hF : Fam8 L r) (hlt : ∀ b, b ∈ L → b < bit m) (hs : s < bit m) : those (cnt s m) (memB (conL m L s)) = those (cnt s m) (ofRank (cnt s m) (conR m L s)) := those_mem_eq (fun t ht => by
  have hbm := bit_le m hm
  have hra := rk_all hne hF hlt
  unfold memB ofRank conR conL
  rw [decide_eq_true_eq, decide_eq_true_eq, sp_all, nand_all_or hs, hra, List.mem_map]
  have hpos : ∀ b, b ∈ L → 0 ≤ conKey s b := fun b hb => by unfold conKey; omega
  have hsz := sz_sp hm ht
  have hSl := spTo_lt s t m
  have hS : spTo s t m < 256 := by omega
  have hE : ∀ b, b ∈ L → sz (b &&& s) ≤ rk L s := fun b hb => by
    have := rk_ge s hb
    rwa [Nat.and_comm] at this
  obtain ⟨b0, hb0, e0⟩ := rk_at hne s
  rw [Nat.and_comm] at e0
  constructor
  · rintro ⟨b, hb, hp⟩
    rw [mem_growL hpos] at hb
    obtain ⟨hb, hmax⟩ := hb
    have hSb : spTo s t m = nand b s := by rw [← hp, sp_pr (hlt b hb)]
    have h1 := hmax b0 hb0
    unfold conKey at h1
    have h2 := hE b hb
    have h3 := sz_diff b s
    have h4 := hF.eq b hb
    have h5 : sz b ≤ rk L (spTo s t m ||| s) := rk_ind ⟨b, hb, fun _ h => h⟩ (fun k hk => by
      rw [Nat.testBit_or, hSb, nand_testBit, hk]
      cases s.testBit k <;> rfl)
    have h6 := rk_mono hne (show sub (spTo s t m ||| s) (bit m - 1) from fun k hk => by
      rw [testBit_all]
      have := lt_m_of_testBit (or_lt_bit hSl hs) hk
      simpa using this)
    rw [hra] at h6
    rw [hSb] at hsz
    omega
  · rintro ⟨h1, h2⟩
    obtain ⟨b, hb, e⟩ := rk_at hne (spTo s t m ||| s)
    have h4 := hF.eq b hb
    -- the basis lies within S and s
    have hX : spTo s t m ||| s < 256 := or_lt _ _ hS (by omega)
    have h5 : (spTo s t m ||| s) &&& b = b := eq_of_sub_sz (and_lt256 hX) (hF.lt b hb) (sub_and_right _ _) (by omega)
    have h6 : ∀ k, b.testBit k = true → (spTo s t m).testBit k = true ∨ s.testBit k = true := fun k hk => by
      rw [← h5, Nat.testBit_and, Nat.testBit_or] at hk
      simp at hk
      exact hk.1
    have h7 : sub (nand b s) (spTo s t m) := fun k hk => by
      rw [nand_testBit] at hk
      simp at hk
      rcases h6 k hk.1 with h | h
      · exact h
      · rw [h] at hk; simp at hk
    have h8 := sz_diff b s
    have h9 := hE b hb
    have h10 : nand b s = spTo s t m := eq_of_sub_sz (nand_lt _ _ 8 (hF.lt b hb)) hS h7 (by omega)
    refine ⟨b, (mem_growL hpos).2 ⟨hb, fun x hx => ?_⟩, ?_⟩
    · have := hE x hx
      unfold conKey
      rw [h10] at h8
      omega
    · rw [← pr_nand, h10, pr_sp ht])

def cutR (L : List Nat) (k : Int) (s : Nat) : Int := min (rk L s : Int) k
theorem cut_same {m r : Nat} (hm : m ≤ 8) {L : List Nat} (hne : L ≠ []) (hF : Fam8 L r) (hlt : ∀ b, b ∈ L → b < bit m) {k : Int} (h0 : 0 ≤ k) (hk : k ≤ r) : those m (memB ((those m (indP L)).filter (fun s => decide ((sz s : Int) = k)))) = those m (ofRank m (cutR L k)) := those_mem_eq (fun s hs => by
  have hra := rk_all hne hF hlt
  unfold memB ofRank cutR
  rw [decide_eq_true_eq, decide_eq_true_eq, hra, List.mem_filter, mem_those, decide_eq_true_eq]
  unfold indP
  rw [decide_eq_true_eq]
  have := rk_le L s
  constructor
  · rintro ⟨⟨_, h1⟩, h2⟩; omega
  · rintro ⟨h1, h2⟩; exact ⟨⟨hs, by omega⟩, by omega⟩)

end Go.Proofs.Ytdcdhdlklppalaa

namespace Go.Proofs.Ytdcdhdlklppalaa
set_option linter.unusedVariables false

/-! ### one for one -/
theorem isum_one1 {f : Nat → Int} {n : Nat} (h0 : ∀ i, i < n → f i = 0 ∨ f i = 1) (h1 : ∀ i j, i < n → j < n → f i = 1 → f j = 1 → i = j) : 0 ≤ isum f n ∧ isum f n ≤ 1 := by
  induction n with
  | zero => simp [isum]
  | succ n ih =>
    have := ih (fun i hi => h0 i (by omega)) (fun i j hi hj => h1 i j (by omega) (by omega))
    simp only [isum]
    rcases h0 n (by omega) with h | h
    · omega
    · have hz : isum f n = 0 := isum_zero (fun i hi => by
        rcases h0 i (by omega) with g | g
        · exact g
        · have := h1 i n (by omega) (by omega) g h; omega)
      omega
theorem isum_le_all {f g : Nat → Int} {n : Nat} (h : ∀ i, i < n → f i ≤ g i) : isum f n ≤ isum g n := by
  induction n with
  | zero => exact Int.le_refl _
  | succ n ih =>
    have h1 := ih (fun i hi => h i (by omega))
    have h2 := h n (by omega)
    simp only [isum]; omega
theorem isum_eq_all {f g : Nat → Int} {n : Nat} (h : ∀ i, i < n → f i ≤ g i) (he : isum g n ≤ isum f n) : ∀ i, i < n → f i = g i := by
  induction n with
  | zero => intro i hi; omega
  | succ n ih =>
    intro i hi
    have h1 := isum_le_all (n := n) (fun i hi => h i (by omega))
    have h2 := h n (by omega)
    simp only [isum] at he
    by_cases e : i = n
    · subst e; omega
    · exact ih (fun i hi => h i (by omega)) (by omega) i (by omega)
theorem isum_const (c : Int) (n : Nat) : isum (fun _ => c) n = n * c := by
  induction n with
  | zero => simp [isum]
  | succ n ih => simp only [isum]; rw [ih, Int.natCast_add, Int.add_mul]; simp
/-- a step that hits no number twice hits each -/
theorem onto_of_inj {N : Nat} {σ : Nat → Nat} (hσ : ∀ i, i < N → σ i < N) (inj : ∀ i j, i < N → j < N → σ i = σ j → i = j) {j : Nat} (hj : j < N) : ∃ i, i < N ∧ σ i = j := by
  have hc : ∀ j, j < N → isum (fun i => if j = σ i then (1 : Int) else 0) N ≤ 1 := fun j _ => (isum_one1 (fun i _ => by split <;> simp) (fun a b ha hb h1 h2 => by
    have e1 : j = σ a := Classical.byContradiction fun c => by rw [if_neg c] at h1; cases h1
    have e2 : j = σ b := Classical.byContradiction fun c => by rw [if_neg c] at h2; cases h2
    exact inj a b ha hb (e1.symm.trans e2))).2
  have hs : isum (fun _ => (1 : Int)) N ≤ isum (fun j => isum (fun i => if j = σ i then (1 : Int) else 0) N) N := by
    rw [isum_swap]
    refine isum_le_all (fun i hi => ?_)
    exact Int.le_of_eq (isum_pick (g := fun _ => (1 : Int)) (hσ i hi)).symm
  have h1 := isum_eq_all hc hs j hj
  apply Classical.byContradiction
  intro h
  have h0 : isum (fun i => if j = σ i then (1 : Int) else 0) N = 0 := isum_zero (fun i hi => if_neg (fun e => h ⟨i, hi, e.symm⟩))
  rw [h0] at h1
  cases h1
/-- a sum, taken in another order -/
theorem isum_perm {N : Nat} {σ : Nat → Nat} (hσ : ∀ i, i < N → σ i < N) (inj : ∀ i j, i < N → j < N → σ i = σ j → i = j) (f : Nat → Int) : isum (fun i => f (σ i)) N = isum f N := by
  have e1 : isum (fun i => f (σ i)) N = isum (fun i => isum (fun j => if j = σ i then f j else 0) N) N := isum_congr (fun i hi => (isum_pick (g := f) (hσ i hi)).symm)
  rw [e1, isum_swap]
  refine isum_congr (fun j hj => ?_)
  obtain ⟨i0, hi0, e0⟩ := onto_of_inj hσ inj hj
  rw [isum_congr (g := fun i => if i = i0 then f j else 0) (fun i hi => by
    by_cases c : i = i0
    · rw [if_pos c, if_pos (by rw [c, e0])]
    · rw [if_neg c, if_neg (fun e => c (inj i i0 hi hi0 (by rw [← e, e0])))])]
  exact isum_pick (g := fun _ => f j) hi0

/-! ### images -/
def imgTo (q : List Nat) (s : Nat) : Nat → Nat
  | 0 => 0
  | k + 1 => if s.testBit k = true then imgTo q s k ||| bit (q.getD k 0) else imgTo q s k
def img (q : List Nat) (s : Nat) : Nat := imgTo q s q.length
theorem imgTo_testBit (q : List Nat) (s : Nat) (j : Nat) : ∀ k, (imgTo q s k).testBit j = true ↔ ∃ i, i < k ∧ s.testBit i = true ∧ q.getD i 0 = j := by
  intro k
  induction k with
  | zero => simp [imgTo]
  | succ k ih =>
    unfold imgTo
    by_cases c : s.testBit k = true
    · rw [if_pos c, or_bit_testBit, Bool.or_eq_true, ih, decide_eq_true_eq]
      constructor
      · rintro (⟨i, h1, h2, h3⟩ | h)
        · exact ⟨i, by omega, h2, h3⟩
        · exact ⟨k, by omega, c, h⟩
      · rintro ⟨i, h1, h2, h3⟩
        by_cases e : i = k
        · subst e; exact .inr h3
        · exact .inl ⟨i, by omega, h2, h3⟩
    · rw [if_neg c, ih]
      constructor
      · rintro ⟨i, h1, h2⟩; exact ⟨i, by omega, h2⟩
      · rintro ⟨i, h1, h2, h3⟩
        by_cases e : i = k
        · subst e; exact absurd h2 c
        · exact ⟨i, by omega, h2, h3⟩
theorem img_testBit (q : List Nat) (s j : Nat) : (img q s).testBit j = true ↔ ∃ i, i < q.length ∧ s.testBit i = true ∧ q.getD i 0 = j := imgTo_testBit q s j _
theorem getD_snocP_lt {p : List Nat} {k i : Nat} (h : i < p.length) : (p ++ [k]).getD i 0 = p.getD i 0 := by
  rw [List.getD_eq_getElem?_getD, List.getD_eq_getElem?_getD, List.getElem?_append_left h]
theorem getD_snocP_eq (p : List Nat) (k : Nat) : (p ++ [k]).getD p.length 0 = k := by
  rw [List.getD_eq_getElem?_getD, List.getElem?_append_right (Nat.le_refl _)]; simp
theorem imgTo_lt {q : List Nat} {n : Nat} (s : Nat) {k : Nat} (h : ∀ i, i < k → q.getD i 0 < n) : imgTo q s k < bit n := by
  induction k with
  | zero => exact Nat.two_pow_pos n
  | succ k ih =>
    unfold imgTo
    have := ih (fun i hi => h i (by omega))
    split
    · exact or_lt_bit this (bit_lt_bit (h k (by omega)))
    · exact this

/-- an order of n elements -/
structure Pm (n : Nat) (q : List Nat) : Prop where
  len : q.length = n
  lt : ∀ i, i < n → q.getD i 0 < n
  inj : ∀ i j, i < n → j < n → q.getD i 0 = q.getD j 0 → i = j
namespace Pm
variable {n : Nat} {q : List Nat}
theorem onto (h : Pm n q) {j : Nat} (hj : j < n) : ∃ i, i < n ∧ q.getD i 0 = j := onto_of_inj (σ := fun i => q.getD i 0) h.lt h.inj hj
theorem img_lt (h : Pm n q) (s : Nat) : img q s < bit n := imgTo_lt s (fun i hi => h.lt i (by rw [h.len] at hi; exact hi))
theorem img_at (h : Pm n q) (s : Nat) {i : Nat} (hi : i < n) : (img q s).testBit (q.getD i 0) = s.testBit i := by
  rw [Bool.eq_iff_iff, img_testBit, h.len]
  constructor
  · rintro ⟨j, h1, h2, h3⟩
    have := h.inj j i h1 hi h3
    subst this; exact h2
  · intro hs; exact ⟨i, hi, hs, rfl⟩
theorem ext (h : Pm n q) {a b : Nat} (ha : a < bit n) (hb : b < bit n) (he : ∀ i, i < n → a.testBit (q.getD i 0) = b.testBit (q.getD i 0)) : a = b := by
  apply Nat.eq_of_testBit_eq
  intro j
  by_cases hj : j < n
  · obtain ⟨i, hi, e⟩ := h.onto hj
    rw [← e]; exact he i hi
  · rw [bit_hi ha (by omega), bit_hi hb (by omega)]
theorem img_inj (h : Pm n q) {s t : Nat} (hs : s < bit n) (ht : t < bit n) (he : img q s = img q t) : s = t := by
  apply Nat.eq_of_testBit_eq
  intro i
  by_cases hi : i < n
  · rw [← h.img_at s hi, ← h.img_at t hi, he]
  · rw [bit_hi hs (by omega), bit_hi ht (by omega)]
theorem img_onto (h : Pm n q) {t : Nat} (ht : t < bit n) : ∃ s, s < bit n ∧ img q s = t :=
  onto_of_inj (σ := img q) (fun s _ => h.img_lt s) (fun s t hs ht e => h.img_inj hs ht e) ht
theorem img_and (h : Pm n q) (s t : Nat) : img q (s &&& t) = img q s &&& img q t := by
  refine h.ext (h.img_lt _) (Nat.lt_of_le_of_lt Nat.and_le_left (h.img_lt s)) (fun i hi => ?_)
  rw [Nat.testBit_and, h.img_at _ hi, h.img_at _ hi, h.img_at _ hi, Nat.testBit_and]
theorem img_or (h : Pm n q) (s t : Nat) : img q (s ||| t) = img q s ||| img q t := by
  refine h.ext (h.img_lt _) (or_lt_bit (h.img_lt s) (h.img_lt t)) (fun i hi => ?_)
  rw [Nat.testBit_or, h.img_at _ hi, h.img_at _ hi, h.img_at _ hi, Nat.testBit_or]
theorem img_nand (h : Pm n q) (s t : Nat) : img q (nand s t) = nand (img q s) (img q t) := by
  refine h.ext (h.img_lt _) (nand_lt _ _ _ (h.img_lt s)) (fun i hi => ?_)
  rw [nand_testBit, h.img_at _ hi, h.img_at _ hi, h.img_at _ hi, nand_testBit]
theorem img_bit (h : Pm n q) {i : Nat} (hi : i < n) : img q (bit i) = bit (q.getD i 0) := by
  refine h.ext (h.img_lt _) (bit_lt_bit (h.lt i hi)) (fun j hj => ?_)
  rw [h.img_at _ hj, testBit_bit, testBit_bit]
  by_cases e : i = j
  · subst e; simp
  · have : ¬ q.getD i 0 = q.getD j 0 := fun c => e (h.inj i j hi hj c)
    rw [decide_eq_false e, decide_eq_false this]
theorem img_all (h : Pm n q) : img q (bit n - 1) = bit n - 1 := by
  refine h.ext (h.img_lt _) (all_lt n) (fun i hi => ?_)
  rw [h.img_at _ hi, testBit_all, testBit_all, decide_eq_true hi, decide_eq_true (h.lt i hi)]
theorem img_zero (h : Pm n q) : img q 0 = 0 := by
  refine h.ext (h.img_lt _) (Nat.two_pow_pos n) (fun i hi => ?_)
  rw [h.img_at _ hi, Nat.zero_testBit, Nat.zero_testBit]
theorem img_sub (h : Pm n q) {s t : Nat} (hst : sub s t) : sub (img q s) (img q t) := fun j hj => by
  obtain ⟨i, h1, h2, h3⟩ := (img_testBit q s j).1 hj
  exact (img_testBit q t j).2 ⟨i, h1, hst i h2, h3⟩
theorem sub_img (h : Pm n q) {s t : Nat} (hs : s < bit n) (hst : sub (img q s) (img q t)) : sub s t := fun i hi => by
  have hin : i < n := by
    by_cases c : i < n
    · exact c
    · rw [bit_hi hs (by omega)] at hi; cases hi
  rw [← h.img_at t hin]
  exact hst _ (by rw [h.img_at s hin]; exact hi)
end Pm
theorem sz_isumS {n s : Nat} (hn : n ≤ 8) (hs : s < bit n) : (sz s : Int) = isum (fun v => if s.testBit v = true then (1 : Int) else 0) n := by
  have h1 : ∀ k, ((elemsTo s k).length : Int) = isum (fun v => if s.testBit v = true then (1 : Int) else 0) k := by
    intro k
    induction k with
    | zero => rfl
    | succ k ih =>
      rw [elemsTo_step]
      simp only [isum]
      by_cases c : s.testBit k = true
      · rw [if_pos c, if_pos c, List.length_append, ← ih]; simp
      · rw [if_neg c, if_neg c, ih]; omega
  have h2 := h1 8
  rw [isum_tail (n := n) (fun j hj _ => by rw [bit_hi hs hj]; rfl) hn] at h2
  exact h2
theorem Pm.img_sz {n : Nat} {q : List Nat} (h : Pm n q) (hn : n ≤ 8) {s : Nat} (hs : s < bit n) : sz (img q s) = sz s := by
  have h1 := sz_isumS hn (h.img_lt s)
  have h2 := sz_isumS hn hs
  rw [← isum_perm (σ := fun i => q.getD i 0) h.lt h.inj] at h1
  rw [isum_congr (g := fun v => if s.testBit v = true then (1 : Int) else 0) (fun i hi => by rw [h.img_at s hi])] at h1
  omega

/-! ### searches -/
def srch (n : Nat) (ok : List Nat → Nat → Bool) (fin : List Nat → Bool) : Nat → List Nat → List (List Nat)
  | 0, p => if fin p = true then [p] else []
  | d + 1, p => (List.range n).flatMap (fun k => if p.contains k = false ∧ ok p k = true then srch n ok fin d (p ++ [k]) else [])
/-- what a search has found when it has tried the first K -/
def srchTo (n : Nat) (ok : List Nat → Nat → Bool) (fin : List Nat → Bool) (d : Nat) (p : List Nat) : Nat → List (List Nat)
  | 0 => []
  | K + 1 => srchTo n ok fin d p K ++ (if p.contains K = false ∧ ok p K = true then srch n ok fin d (p ++ [K]) else [])
theorem srchTo_all (n : Nat) (ok : List Nat → Nat → Bool) (fin : List Nat → Bool) (d : Nat) (p : List Nat) : srchTo n ok fin d p n = srch n ok fin (d + 1) p := by
  have h : ∀ K, srchTo n ok fin d p K = (List.range K).flatMap (fun k => if p.contains k = false ∧ ok p k = true then srch n ok fin d (p ++ [k]) else []) := by
    intro K
    induction K with
    | zero => rfl
    | succ K ih => rw [srchTo, ih, List.range_succ, List.flatMap_append]; simp
  exact h n
/-- each step of a list, from the m-th on, and its end -/
def GoodS (ok : List Nat → Nat → Bool) (fin : List Nat → Bool) (m : Nat) (q : List Nat) : Prop := (∀ j, m ≤ j → j < q.length → ok (q.take j) (q.getD j 0) = true) ∧ fin q = true
theorem take_pre {p q : List Nat} (h : p <+: q) : q.take p.length = p := by
  obtain ⟨t, rfl⟩ := h
  simp
theorem pre_at {p q : List Nat} {k : Nat} (h : (p ++ [k]) <+: q) : q.getD p.length 0 = k ∧ p.length < q.length := by
  obtain ⟨t, rfl⟩ := h
  constructor
  · rw [List.getD_eq_getElem?_getD]
    simp
  · simp
theorem GoodS.step {ok : List Nat → Nat → Bool} {fin : List Nat → Bool} {p q : List Nat} {k : Nat} (h : (p ++ [k]) <+: q) : GoodS ok fin p.length q ↔ ok p k = true ∧ GoodS ok fin (p ++ [k]).length q := by
  obtain ⟨h1, h2⟩ := pre_at h
  have h3 : q.take p.length = p := take_pre (List.IsPrefix.trans (List.prefix_append p [k]) h)
  have hl : (p ++ [k]).length = p.length + 1 := by simp
  rw [hl]
  constructor
  · rintro ⟨g, f⟩
    refine ⟨?_, fun j hj hq => g j (by omega) hq, f⟩
    have := g p.length (Nat.le_refl _) h2
    rwa [h3, h1] at this
  · rintro ⟨g0, g, f⟩
    refine ⟨fun j hj hq => ?_, f⟩
    by_cases e : j = p.length
    · subst e; rw [h3, h1]; exact g0
    · exact g j (by omega) hq
/-- a row of different numbers below n -/
structure Pre (n : Nat) (p : List Nat) : Prop where
  lt : ∀ i, i < p.length → p.getD i 0 < n
  inj : ∀ i j, i < p.length → j < p.length → p.getD i 0 = p.getD j 0 → i = j
theorem Pre.nil (n : Nat) : Pre n [] := ⟨fun i h => by simp at h, fun i j h => by simp at h⟩
theorem mem_getDN {l : List Nat} {x : Nat} : x ∈ l ↔ ∃ j, j < l.length ∧ l.getD j 0 = x := by
  constructor
  · intro h
    obtain ⟨i, hi, e⟩ := List.getElem_of_mem h
    exact ⟨i, hi, by simp [hi, e]⟩
  · rintro ⟨j, hj, rfl⟩
    simp [hj]
theorem Pre.snoc {n k : Nat} {p : List Nat} (h : Pre n p) (hk : k < n) (hc : p.contains k = false) : Pre n (p ++ [k]) := by
  have hc' : ¬ k ∈ p := by
    intro hm
    rw [List.contains_iff_mem.2 hm] at hc
    cases hc
  refine ⟨fun i hi => ?_, fun i j hi hj e => ?_⟩
  · by_cases c : i < p.length
    · rw [getD_snocP_lt c]; exact h.lt i c
    · have : i = p.length := by simp at hi; omega
      subst this; rw [getD_snocP_eq]; exact hk
  · simp at hi hj
    by_cases c : i < p.length <;> by_cases d : j < p.length
    · rw [getD_snocP_lt c, getD_snocP_lt d] at e; exact h.inj i j c d e
    · have : j = p.length := by omega
      subst this
      rw [getD_snocP_lt c, getD_snocP_eq] at e
      exact absurd (mem_getDN.2 ⟨i, c, e⟩) hc'
    · have : i = p.length := by omega
      subst this
      rw [getD_snocP_lt d, getD_snocP_eq] at e
      exact absurd (mem_getDN.2 ⟨j, d, e.symm⟩) hc'
    · omega
theorem Pre.pm {n : Nat} {q : List Nat} (h : Pre n q) (hl : q.length = n) : Pm n q := ⟨hl, fun i hi => h.lt i (by omega), fun i j hi hj e => h.inj i j (by omega) (by omega) e⟩
/-- what a search finds -/
theorem mem_srch {n : Nat} {ok : List Nat → Nat → Bool} {fin : List Nat → Bool} : ∀ d p q, Pre n p → (q ∈ srch n ok fin d p ↔ p <+: q ∧ q.length = p.length + d ∧ Pre n q ∧ GoodS ok fin p.length q) := by
  intro d
  induction d with
  | zero =>
    intro p q hp
    unfold srch
    constructor
    · intro h
      split at h
      case isTrue c =>
        have e : q = p := by simpa using h
        subst e
        exact ⟨List.prefix_refl q, rfl, hp, fun j hj hq => by omega, c⟩
      case isFalse c => simp at h
    · rintro ⟨h1, h2, h3, h4⟩
      have e : p = q := h1.eq_of_length (by omega)
      subst e
      rw [if_pos h4.2]; simp
  | succ d ih =>
    intro p q hp
    unfold srch
    rw [List.mem_flatMap]
    constructor
    · rintro ⟨k, hk, h⟩
      rw [List.mem_range] at hk
      split at h
      case isTrue c =>
        obtain ⟨g1, g2, g3, g4⟩ := (ih (p ++ [k]) q (hp.snoc hk c.1)).1 h
        have hl : (p ++ [k]).length = p.length + 1 := by simp
        exact ⟨List.IsPrefix.trans (List.prefix_append p [k]) g1, by omega, g3, (GoodS.step g1).2 ⟨c.2, g4⟩⟩
      case isFalse c => simp at h
    · rintro ⟨h1, h2, h3, h4⟩
      have hlt : p.length < q.length := by omega
      have hpk : (p ++ [q.getD p.length 0]) <+: q := by
        obtain ⟨t, rfl⟩ := h1
        cases t with
        | nil => simp at hlt
        | cons x t =>
          refine ⟨t, ?_⟩
          have : (p ++ x :: t).getD p.length 0 = x := by rw [List.getD_eq_getElem?_getD]; simp
          rw [this]; simp
      have hc : p.contains (q.getD p.length 0) = false := by
        apply Bool.eq_false_iff.2
        intro c
        obtain ⟨j, hj, e⟩ := mem_getDN.1 (List.contains_iff_mem.1 c)
        have e2 : q.getD j 0 = p.getD j 0 := by
          obtain ⟨t, rfl⟩ := h1
          rw [List.getD_eq_getElem?_getD, List.getD_eq_getElem?_getD, List.getElem?_append_left hj]
        have := h3.inj j p.length (by omega) hlt (by rw [e2, e])
        omega
      obtain ⟨s1, s2⟩ := (GoodS.step hpk).1 h4
      refine ⟨q.getD p.length 0, List.mem_range.2 (h3.lt _ hlt), ?_⟩
      rw [if_pos ⟨hc, s1⟩]
      refine (ih _ q (hp.snoc (h3.lt _ hlt) hc)).2 ⟨hpk, ?_, h3, s2⟩
      simp; omega
/-- two searches of the same end find the same, in the same order -/
theorem srch_same {n : Nat} {ok1 ok2 : List Nat → Nat → Bool} {fin1 fin2 : List Nat → Bool} : ∀ d p, Pre n p → (∀ q, p <+: q → q.length = p.length + d → Pre n q → (GoodS ok1 fin1 p.length q ↔ GoodS ok2 fin2 p.length q)) → srch n ok1 fin1 d p = srch n ok2 fin2 d p := by
  intro d
  induction d with
  | zero =>
    intro p hp H
    unfold srch
    have := H p (List.prefix_refl p) rfl hp
    have e : fin1 p = true ↔ fin2 p = true := ⟨fun h => (this.1 ⟨fun j hj hq => by omega, h⟩).2, fun h => (this.2 ⟨fun j hj hq => by omega, h⟩).2⟩
    by_cases c : fin1 p = true
    · rw [if_pos c, if_pos (e.1 c)]
    · rw [if_neg c, if_neg (fun h => c (e.2 h))]
  | succ d ih =>
    intro p hp H
    unfold srch
    have key : ∀ k, k < n → (if p.contains k = false ∧ ok1 p k = true then srch n ok1 fin1 d (p ++ [k]) else []) = (if p.contains k = false ∧ ok2 p k = true then srch n ok2 fin2 d (p ++ [k]) else []) := by
      intro k hk
      by_cases hc : p.contains k = false
      · have hl : (p ++ [k]).length = p.length + 1 := by simp
        have hpk := hp.snoc hk hc
        have H2 : ∀ q, (p ++ [k]) <+: q → q.length = (p ++ [k]).length + d → Pre n q → ((ok1 p k = true ∧ GoodS ok1 fin1 (p ++ [k]).length q) ↔ (ok2 p k = true ∧ GoodS ok2 fin2 (p ++ [k]).length q)) := fun q hq hql hqp => by
          rw [← GoodS.step hq, ← GoodS.step hq]
          exact H q (List.IsPrefix.trans (List.prefix_append p [k]) hq) (by omega) hqp
        have nil : ∀ (okA : List Nat → Nat → Bool) (finA : List Nat → Bool), (∀ q, (p ++ [k]) <+: q → q.length = (p ++ [k]).length + d → Pre n q → ¬ GoodS okA finA (p ++ [k]).length q) → srch n okA finA d (p ++ [k]) = [] := fun okA finA h => by
          apply List.eq_nil_iff_forall_not_mem.2
          intro q hq
          obtain ⟨g1, g2, g3, g4⟩ := (mem_srch d _ q hpk).1 hq
          exact h q g1 g2 g3 g4
        by_cases c1 : ok1 p k = true <;> by_cases c2 : ok2 p k = true
        · rw [if_pos ⟨hc, c1⟩, if_pos ⟨hc, c2⟩]
          refine ih _ hpk (fun q hq hql hqp => ?_)
          have := H2 q hq hql hqp
          exact ⟨fun g => (this.1 ⟨c1, g⟩).2, fun g => (this.2 ⟨c2, g⟩).2⟩
        · rw [if_pos ⟨hc, c1⟩, if_neg (fun h => c2 h.2)]
          exact nil _ _ (fun q hq hql hqp g => c2 ((H2 q hq hql hqp).1 ⟨c1, g⟩).1)
        · rw [if_neg (fun h => c1 h.2), if_pos ⟨hc, c2⟩]
          exact (nil _ _ (fun q hq hql hqp g => c1 ((H2 q hq hql hqp).2 ⟨c2, g⟩).1)).symm
        · rw [if_neg (fun h => c1 h.2), if_neg (fun h => c2 h.2)]
      · rw [if_neg (fun h => hc h.1), if_neg (fun h => hc h.1)]
    have : ∀ N, N ≤ n → (List.range N).flatMap (fun k => if p.contains k = false ∧ ok1 p k = true then srch n ok1 fin1 d (p ++ [k]) else []) = (List.range N).flatMap (fun k => if p.contains k = false ∧ ok2 p k = true then srch n ok2 fin2 d (p ++ [k]) else []) := by
      intro N
      induction N with
      | zero => intro _; rfl
      | succ N ihN =>
        intro h
        rw [List.range_succ, List.flatMap_append, List.flatMap_append, ihN (by omega)]
        simp only [List.flatMap_cons, List.flatMap_nil, List.append_nil]
        rw [key N (by omega)]
    exact this n (Nat.le_refl _)
end Go.Proofs.Ytdcdhdlklppalaa

namespace Go.Proofs.Ytdcdhdlklppalaa
open Go.RowKit
set_option linter.unusedVariables false

/-- worlds that agree with W below B but for the blocks of S -/
structure Off (B : Nat) (S : Nat → Prop) (W : World) where
  val : World
  os : val.os = W.os
  tape : val.tape = W.tape
  output : val.output = W.output
  size : W.heap.size ≤ val.heap.size
  base : B ≤ val.heap.size
  block : ∀ k, k < B → ¬ S k → val.heap[k]? = W.heap[k]?
namespace Off
variable {B : Nat} {S : Nat → Prop} {W : World}
def past (v : Off B S W) (w : World) (h : Below B v.val w) : Off B S W := ⟨w, h.os.trans v.os, h.tape.trans v.tape, h.output.trans v.output, Nat.le_trans v.size h.size, Nat.le_trans v.base h.size, fun k hk hb => (h.block k hk).trans (v.block k hk hb)⟩
def up (v : Off B S W) (y : Later v.val.heap.size v.val) : Off B S W := v.past y.val (y.below.mono v.base)
def drew (v : Off B S W) : Off B S W := v.past v.val.drew (Below.refl _ _).drew
def store (v : Off B S W) (b i : Nat) (hb : S b) (x : Value) : Off B S W := ⟨v.val.setCell ⟨b, i, none⟩ x, v.os, v.tape, v.output, by simpa using v.size, by simpa using v.base, fun k hk hs => (Below.heap_setCell _ _ _ _ (fun e => hs (by have e2 : k = b := e; rw [e2]; exact hb))).trans (v.block k hk hs)⟩
def self (W : World) (S : Nat → Prop) (h : B ≤ W.heap.size) : Off B S W := ⟨W, rfl, rfl, rfl, Nat.le_refl _, h, fun _ _ _ => rfl⟩
theorem cell (v : Off B S W) {a : Addr} (h : a.block < B) (hb : ¬ S a.block) : v.val.cell? a = W.cell? a := World.cell?_of_block (w := W) (v.block a.block h hb)
theorem below (v : Off B S W) {B0 : Nat} (h : B0 ≤ B) (hb : ∀ k, S k → B0 ≤ k) : Below B0 W v.val := ⟨v.os, v.tape, v.output, v.size, fun k hk => v.block k (by omega) (fun c => by have := hb k c; omega)⟩
theorem tab (v : Off B S W) {g n : Nat} {A : Nat → Int} (h : ITab W g n A) (hg : g < B) (hs : ¬ S g) : ITab v.val g n A := World.rowIs.of_block h (v.block g hg hs)
end Off

/-- the captured order -/
def PAt (B b : Nat) (w : World) (ad : Option Addr) (cp : Nat) (p : List Nat) : Prop := RowAt1 w b 22 (.slice ad p.length cp) ∧ Own B w ad cp (ints p)
theorem PAt.keep {B b : Nat} {w w' : World} {ad : Option Addr} {cp : Nat} {p : List Nat} (h : PAt B b w ad cp p) (hb : Below w.heap.size w w') : PAt B b w' ad cp p := ⟨h.1.keep hb, h.2.keep hb⟩
theorem PAt.blk {B b : Nat} {w : World} {ad : Option Addr} {cp : Nat} {p : List Nat} (h : PAt B b w ad cp p) : ∀ g, ownBlk ad = some g → B ≤ g ∧ g < w.heap.size := fun g hg => by
  cases ad with
  | none => cases hg
  | some a =>
    have e : a.block = g := by simpa [ownBlk] using hg
    have := h.2.blk a rfl
    omega
/-- one more -/
theorem PAt.pushed {B b : Nat} {w w1 : World} {ad ad2 : Option Addr} {cp cp2 k : Nat} {p : List Nat} (hb : b < B) (h : PAt B b w ad cp p) (hbl : Below B w w1) (ho : Own B w1 ad2 cp2 (ints p ++ [(k : Int)])) : PAt B b (w1.setCell ⟨b, 0, none⟩ (.slice ad2 (p.length + 1) cp2)) ad2 cp2 (p ++ [k]) := by
  have h1 : RowAt1 w1 b 22 (.slice ad p.length cp) := by
    show w1.heap[b]? = _
    rw [hbl.block b hb]; exact h.1
  rw [← ints_snoc] at ho
  refine ⟨?_, ownsRow_setCell_below ho hb _⟩
  rw [show (p ++ [k]).length = p.length + 1 by simp]
  exact h1.store
/-- one less -/
theorem PAt.cut {B b : Nat} {w : World} {g cp k : Nat} {p : List Nat} (hb : b < B) (h : PAt B b w (some ⟨g, 0, none⟩) cp (p ++ [k])) : PAt B b (w.setCell ⟨b, 0, none⟩ (.slice (some ⟨g, 0, none⟩) p.length cp)) (some ⟨g, 0, none⟩) cp p := by
  have ho := h.2
  rw [ints_snoc] at ho
  exact ⟨h.1.store, ownsRow_setCell_below ho.cut hb _⟩
theorem kept_store {b : Nat} {o : Option Nat} (w : World) (i : Nat) (x : Value) : Kept b o w (w.setCell ⟨b, i, none⟩ x) := ⟨rfl, rfl, rfl, by simp, fun k _ hk _ => Below.heap_setCell _ _ _ _ hk⟩

theorem row1_other {w : World} {g b i : Nat} {t : TypeId} {v : Value} (h : RowAt1 w g t v) (hne : g ≠ b) (x : Value) : RowAt1 (w.setCell ⟨b, i, none⟩ x) g t v := by
  show (w.setCell ⟨b, i, none⟩ x).heap[g]? = _
  rw [Below.heap_setCell _ _ _ _ hne]; exact h
theorem row1_kept {w w' : World} {b g : Nat} {o : Option Nat} {t : TypeId} {v : Value} (h : RowAt1 w g t v) (hk : Kept b o w w') (h1 : g ≠ b) (h2 : ∀ x, o = some x → x ≠ g) : RowAt1 w' g t v := by
  show w'.heap[g]? = _
  rw [hk.block g h.lt h1 (fun e => h2 g e rfl)]
  exact h

/-- append of one number to an own row: what is left alone -/
theorem wpList_pushK {B : Nat} {W w : World} (b : Nat) (hw : Below B W w) (hB : B ≤ w.heap.size) {ops : Array Oper} {rest : List Oper} {o : Oper} {a : Act} {Q : Exit → Act → World → Prop} (hgd : o.guard = none) (s x : Operand)
    (ho : o.op = .call { callee := .builtin .append, args := #[s, x], argTypes := #[22, 22] })
    (xs : List Int) (n : Nat) (hn : xs.length = n) (ad : Option Addr) (cap : Nat) (y : Int) (hs : a.eval s = .slice ad n cap) (hown : Own B w ad cap xs)
    (hx : a.eval x = .slice (some ⟨w.heap.size, 0, none⟩) 1 1)
    (hlen : n + 1 ≤ 17592186044416)
    (h : ∀ (u' : Later B W) (g cap' : Nat), Own B u'.val (some ⟨g, 0, none⟩) cap' (xs ++ [y]) → Kept b (ownBlk ad) w u'.val → NewB w (ownBlk ad) (some g) → Below B w u'.val → wpList Try.prog ops Q rest (a.put o.dst (.slice (some ⟨g, 0, none⟩) (n + 1 : Nat) cap')) u'.val) :
    wpList Try.prog ops Q (o :: rest) a (w.alloc (.cells #[.int .i64 y] 3)) := by
  subst hn
  obtain ⟨i0, hi, hz0, hz1, hz2⟩ := info_parts info_int
  refine wpList_append_lies _ hgd s x 22 ho B 3 i0 (.int .i64 0) 1 8 Try.underlying22 hi hz0 hz1 hz2 rfl (by decide) _ xs.length (xs.map (Value.int .i64)) hs (hown.alloc _) ⟨w.heap.size, 0, none⟩ 1 1 [.int .i64 y] hx rfl ?_ ?_ (by decide) (by unfold maxLen; omega) (by omega) (by simp; omega) (w.heap.size + 1) (by simp) ?_
  · intro j v hj
    have hj0 : j = 0 := by
      have := (List.getElem?_eq_some_iff.1 hj).1
      simp at this
      omega
    subst hj0
    have e : (⟨w.heap.size, 0, none⟩ : Addr).add 0 = ⟨w.heap.size, 0, none⟩ := by unfold Addr.add; split <;> simp_all
    rw [e]
    simp at hj
    subst hj
    exact cell_one_new w _ 3 0 _ rfl
  · intro v hv
    simp at hv
    subst hv
    rfl
  · intro g cap' w' h2 h3 h4 h5
    have hO : Own B w' (some ⟨g, 0, none⟩) cap' (xs ++ [y]) := by
      show w'.ownsRow B 3 1 (.slice (some ⟨g, 0, none⟩) (xs ++ [y]).length cap') (xs ++ [y]).length _
      rw [List.length_append, List.map_append]
      exact h2
    have hal : Below w.heap.size w (w.alloc (.cells #[.int .i64 y] 3)) := (Below.refl _ _).alloc (Nat.le_refl _) _
    have hblk : (Value.slice ad xs.length cap).ownBlock = ownBlk ad := by cases ad <;> rfl
    have hbel := own_below (W := w) ((Below.refl B w).alloc hB _) (by simp; omega) (hown.alloc _) h3
    refine h ⟨w', own_below (hw.alloc hB _) (by simp; omega) (hown.alloc _) h3, by have := h3.size; simp at this; omega⟩ g cap' hO ?_ ?_ hbel
    · rw [hblk] at h3
      exact ⟨h3.os.trans hal.os, h3.tape.trans hal.tape, h3.output.trans hal.output, by have h3s := h3.size; simp at h3s; show w.heap.size ≤ w'.heap.size; omega, fun k hk hb ho => by
        show w'.heap[k]? = _
        rw [h3.block k (by simp; omega) (fun e => ho e.symm), hal.block k hk]⟩
    · rw [hblk] at h4
      rcases h4 with h4 | h4
      · exact .inl h4.symm
      · exact .inr ⟨g, rfl, by omega⟩

/-- a function value that is told orders, one behind the other -/
structure DoOn (B bp : Nat) (W : World) (D : Nat → Prop) (n : Nat) (on : Bool) (kf : FuncId) (caps : Array Value) (I : Option Nat → List (List Nat) → World → Prop) : Prop where
  plain : Plain kf
  keep : ∀ o o' l w w', I o l w → Kept bp o w w' → NewB w o o' → I o' l w'
  call : ∀ (v : Off B (fun k => k = bp ∨ D k) W) (l : List (List Nat)) (q : List Nat) (ad : Option Addr) (cp : Nat), Pm n q → (on = false → l = []) → PAt B bp v.val ad cp q → I (ownBlk ad) l v.val →
    Calls Try.prog kf (#[.slice ad q.length cp] ++ caps) v.val (fun e w' => e = .returned (.bool on) ∧ ∃ v' : Off B (fun k => k = bp ∨ D k) W, w' = v'.val ∧ PAt B bp v'.val ad cp q ∧ I (ownBlk ad) (l ++ [q]) v'.val)
/-- what a search has told of those that it found -/
def cutF (on : Bool) (F : List (List Nat)) : List (List Nat) := if on then F else F.take 1
/-- what a search hands back -/
def FromPost (B bp : Nat) (W : World) (D : Nat → Prop) (on : Bool) (I : Option Nat → List (List Nat) → World → Prop) (pre : List Nat) (l F : List (List Nat)) (e : Ending) (w' : World) : Prop :=
  ∃ v' : Off B (fun k => k = bp ∨ D k) W, w' = v'.val ∧ e = .returned (.bool (on || F.isEmpty)) ∧ ∃ ad cp, PAt B bp v'.val ad cp pre ∧ I (ownBlk ad) (l ++ cutF on F) v'.val
theorem srchTo_pre {n : Nat} {ok : List Nat → Nat → Bool} {fin : List Nat → Bool} {d : Nat} {p : List Nat} {K : Nat} : ∀ j, srchTo n ok fin d p K <+: srchTo n ok fin d p (K + j) := by
  intro j
  induction j with
  | zero => exact List.prefix_refl _
  | succ j ih => exact ih.trans (by rw [← Nat.add_assoc]; exact List.prefix_append _ _)
theorem take1_pre {a b : List (List Nat)} (h : a <+: b) (hne : a ≠ []) : b.take 1 = a.take 1 ∧ b.isEmpty = false := by
  obtain ⟨t, rfl⟩ := h
  cases a with
  | nil => exact absurd rfl hne
  | cons x a => exact ⟨rfl, rfl⟩
end Go.Proofs.Ytdcdhdlklppalaa
