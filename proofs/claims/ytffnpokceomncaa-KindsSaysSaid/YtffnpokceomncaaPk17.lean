
/-
  Matroids made of one, plainly: Dual, Delete, Contract and Truncate as minors makes them and as rotaref makes them, by ranks.
  Edges without a ring: the parts' names hang on one another (plain).
  Ranks, plainly: where adding an element adds at most one, the greatest sets that have as many elements as their rank are the bases. No program in sight.
-/
import Derived.Test.YtffnpokceomncaaPk16
import Derived.Test.YtffnpokceomncaaPk08
import Derived.Test.YtffnpokceomncaaPk11
namespace Go.Proofs.Ytffnpokceomncaa
set_option linter.unusedVariables false

/-! ### what is left of n elements, numbered anew -/
/-- how many of the first i elements are not gone -/
def cnt (gone : Nat) : Nat → Nat
  | 0 => 0
  | i + 1 => if gone.testBit i = true then cnt gone i else cnt gone i + 1
theorem cnt_yes {gone i : Nat} (h : gone.testBit i = true) : cnt gone (i + 1) = cnt gone i := by simp only [cnt]; rw [if_pos h]
theorem cnt_no {gone i : Nat} (h : gone.testBit i = false) : cnt gone (i + 1) = cnt gone i + 1 := by simp only [cnt]; rw [if_neg (by rw [h]; decide)]
theorem cnt_step (gone i : Nat) : cnt gone i ≤ cnt gone (i + 1) ∧ cnt gone (i + 1) ≤ cnt gone i + 1 := by
  cases h : gone.testBit i
  · rw [cnt_no h]; omega
  · rw [cnt_yes h]; omega
theorem cnt_le (gone i : Nat) : cnt gone i ≤ i := by
  induction i with
  | zero => exact Nat.le_refl _
  | succ i ih => have := cnt_step gone i; omega
theorem cnt_mono (gone : Nat) {i j : Nat} (h : i ≤ j) : cnt gone i ≤ cnt gone j := by
  induction j with
  | zero => have : i = 0 := by omega
            subst this; exact Nat.le_refl _
  | succ j ih =>
    by_cases e : i = j + 1
    · subst e; exact Nat.le_refl _
    · have := cnt_step gone j
      have := ih (by omega)
      omega
theorem cnt_lt {gone i j : Nat} (h : i < j) (hg : gone.testBit i = false) : cnt gone i < cnt gone j := by
  have h1 := cnt_no hg
  have h2 := cnt_mono gone (show i + 1 ≤ j by omega)
  omega
theorem cnt_inj {gone i j : Nat} (hi : gone.testBit i = false) (hj : gone.testBit j = false) (h : cnt gone i = cnt gone j) : i = j := by
  rcases Nat.lt_trichotomy i j with g | g | g
  · have := cnt_lt g hi; omega
  · exact g
  · have := cnt_lt g hj; omega
theorem cnt_onto {gone n q : Nat} (h : q < cnt gone n) : ∃ j, j < n ∧ gone.testBit j = false ∧ cnt gone j = q := by
  induction n with
  | zero => simp only [cnt] at h; omega
  | succ n ih =>
    by_cases c : q < cnt gone n
    · obtain ⟨j, h1, h2, h3⟩ := ih c
      exact ⟨j, by omega, h2, h3⟩
    · cases g : gone.testBit n
      · have := cnt_no g
        exact ⟨n, by omega, g, by omega⟩
      · have := cnt_yes g
        omega
theorem cnt_sum (gone i : Nat) : cnt gone i + bsum (fun j => (gone.testBit j).toNat) i = i := by
  induction i with
  | zero => rfl
  | succ i ih =>
    simp only [bsum]
    cases g : gone.testBit i
    · rw [cnt_no g]; simp; omega
    · rw [cnt_yes g]; simp; omega
theorem bsum_tail {f : Nat → Nat} {n k : Nat} (h : ∀ j, n ≤ j → f j = 0) (hk : n ≤ k) : bsum f k = bsum f n := by
  induction k with
  | zero => have : n = 0 := by omega
            subst this; rfl
  | succ k ih =>
    by_cases e : n = k + 1
    · subst e; rfl
    · simp only [bsum]
      rw [ih (by omega), h k (by omega)]
      omega
theorem bit_hi {n s j : Nat} (hs : s < bit n) (hj : n ≤ j) : s.testBit j = false := by
  cases h : s.testBit j
  · rfl
  · have := lt_m_of_testBit hs h; omega
theorem cnt_sz {gone n : Nat} (hn : n ≤ 8) (h : gone < bit n) : cnt gone n + sz gone = n := by
  have h1 := cnt_sum gone n
  have h2 : bsum (fun j => (gone.testBit j).toNat) 8 = bsum (fun j => (gone.testBit j).toNat) n := bsum_tail (fun j hj => by rw [bit_hi h hj]; rfl) hn
  rw [sz_sum, h2]
  exact h1
theorem sz_le_m {n s : Nat} (hn : n ≤ 8) (h : s < bit n) : sz s ≤ n := by
  have := cnt_sz hn h
  omega

/-- a set of few elements, as one of those that are left -/
def spTo (gone s : Nat) : Nat → Nat
  | 0 => 0
  | i + 1 => if gone.testBit i = false ∧ s.testBit (cnt gone i) = true then spTo gone s i ||| bit i else spTo gone s i
theorem spTo_testBit (gone s i j : Nat) : (spTo gone s i).testBit j = true ↔ j < i ∧ gone.testBit j = false ∧ s.testBit (cnt gone j) = true := by
  induction i with
  | zero => simp [spTo]
  | succ i ih =>
    simp only [spTo]
    by_cases c : gone.testBit i = false ∧ s.testBit (cnt gone i) = true
    · rw [if_pos c, or_bit_testBit, Bool.or_eq_true, ih, decide_eq_true_eq]
      constructor
      · rintro (⟨h1, h2⟩ | h)
        · exact ⟨by omega, h2⟩
        · subst h; exact ⟨by omega, c⟩
      · rintro ⟨h1, h2⟩
        by_cases e : i = j
        · exact .inr e
        · exact .inl ⟨by omega, h2⟩
    · rw [if_neg c, ih]
      constructor
      · rintro ⟨h1, h2⟩; exact ⟨by omega, h2⟩
      · rintro ⟨h1, h2⟩
        by_cases e : i = j
        · subst e; exact absurd h2 c
        · exact ⟨by omega, h2⟩
theorem spTo_lt (gone s i : Nat) : spTo gone s i < bit i := by
  induction i with
  | zero => exact Nat.zero_lt_one
  | succ i ih =>
    simp only [spTo]
    have h2 : bit i < bit (i + 1) := bit_lt_bit (Nat.lt_succ_self i)
    split
    · exact or_lt_bit (by omega) h2
    · omega
/-- what is left of a set, numbered anew -/
def prTo (gone s : Nat) : Nat → Nat
  | 0 => 0
  | i + 1 => if gone.testBit i = false ∧ s.testBit i = true then prTo gone s i ||| bit (cnt gone i) else prTo gone s i
theorem prTo_testBit (gone s i q : Nat) : (prTo gone s i).testBit q = true ↔ ∃ j, j < i ∧ gone.testBit j = false ∧ cnt gone j = q ∧ s.testBit j = true := by
  induction i with
  | zero => simp [prTo]
  | succ i ih =>
    simp only [prTo]
    by_cases c : gone.testBit i = false ∧ s.testBit i = true
    · rw [if_pos c, or_bit_testBit, Bool.or_eq_true, ih, decide_eq_true_eq]
      constructor
      · rintro (⟨j, h1, h2⟩ | h)
        · exact ⟨j, by omega, h2⟩
        · exact ⟨i, by omega, c.1, h, c.2⟩
      · rintro ⟨j, h1, h2, h3, h4⟩
        by_cases e : j = i
        · subst e; exact .inr h3
        · exact .inl ⟨j, by omega, h2, h3, h4⟩
    · rw [if_neg c, ih]
      constructor
      · rintro ⟨j, h1, h2⟩; exact ⟨j, by omega, h2⟩
      · rintro ⟨j, h1, h2, h3, h4⟩
        by_cases e : j = i
        · subst e; exact absurd ⟨h2, h4⟩ c
        · exact ⟨j, by omega, h2, h3, h4⟩
theorem bit_mono {i j : Nat} (h : i ≤ j) : bit i ≤ bit j := Nat.pow_le_pow_right (by decide) h
theorem prTo_lt (gone s i : Nat) : prTo gone s i < bit (cnt gone i) := by
  induction i with
  | zero => exact Nat.zero_lt_one
  | succ i ih =>
    simp only [prTo]
    have h1 := bit_mono (cnt_step gone i).1
    split
    · rename_i c
      refine or_lt_bit (by omega) ?_
      rw [cnt_no c.1]
      exact bit_lt_bit (Nat.lt_succ_self _)
    · omega
theorem pr_sp {gone n t : Nat} (h : t < bit (cnt gone n)) : prTo gone (spTo gone t n) n = t := by
  apply Nat.eq_of_testBit_eq
  intro q
  rw [Bool.eq_iff_iff, prTo_testBit]
  constructor
  · rintro ⟨j, h1, h2, h3, h4⟩
    have := ((spTo_testBit _ _ _ _).1 h4).2.2
    rwa [h3] at this
  · intro hq
    obtain ⟨j, h1, h2, h3⟩ := cnt_onto (lt_m_of_testBit h hq)
    exact ⟨j, h1, h2, h3, (spTo_testBit _ _ _ _).2 ⟨h1, h2, by rw [h3]; exact hq⟩⟩
theorem sp_pr {gone n s : Nat} (h : s < bit n) : spTo gone (prTo gone s n) n = nand s gone := by
  apply Nat.eq_of_testBit_eq
  intro j
  rw [Bool.eq_iff_iff, spTo_testBit, nand_testBit, prTo_testBit, Bool.and_eq_true, Bool.not_eq_true']
  constructor
  · rintro ⟨h1, h2, k, h3, h4, h5, h6⟩
    have := cnt_inj h4 h2 h5
    subst this
    exact ⟨h6, h2⟩
  · rintro ⟨h1, h2⟩
    have h3 := lt_m_of_testBit h h1
    exact ⟨h3, h2, j, h3, h2, rfl, h1⟩
theorem pr_nand (gone s n : Nat) : prTo gone (nand s gone) n = prTo gone s n := by
  apply Nat.eq_of_testBit_eq
  intro q
  rw [Bool.eq_iff_iff, prTo_testBit, prTo_testBit]
  constructor
  · rintro ⟨j, h1, h2, h3, h4⟩
    rw [nand_testBit] at h4
    simp at h4
    exact ⟨j, h1, h2, h3, h4.1⟩
  · rintro ⟨j, h1, h2, h3, h4⟩
    exact ⟨j, h1, h2, h3, by rw [nand_testBit, h4, h2]; rfl⟩
theorem sz_sp {gone n t : Nat} (hn : n ≤ 8) (h : t < bit (cnt gone n)) : sz (spTo gone t n) = sz t := by
  have key : ∀ i, i ≤ n → bsum (fun j => ((spTo gone t n).testBit j).toNat) i = bsum (fun q => (t.testBit q).toNat) (cnt gone i) := by
    intro i
    induction i with
    | zero => intro _; rfl
    | succ i ih =>
      intro hi
      simp only [bsum]
      rw [ih (by omega)]
      cases g : gone.testBit i
      · rw [cnt_no g]
        simp only [bsum]
        have : (spTo gone t n).testBit i = t.testBit (cnt gone i) := by
          rw [Bool.eq_iff_iff, spTo_testBit]
          exact ⟨fun x => x.2.2, fun x => ⟨by omega, g, x⟩⟩
        rw [this]
      · rw [cnt_yes g]
        have : (spTo gone t n).testBit i = false := by
          cases c : (spTo gone t n).testBit i
          · rfl
          · have := ((spTo_testBit _ _ _ _).1 c).2.1
            rw [g] at this; cases this
        rw [this]; simp
  have h1 := key n (Nat.le_refl _)
  have h2 : bsum (fun j => ((spTo gone t n).testBit j).toNat) 8 = bsum (fun j => ((spTo gone t n).testBit j).toNat) n := bsum_tail (fun j hj => by rw [bit_hi (spTo_lt gone t n) hj]; rfl) hn
  have h3 : bsum (fun q => (t.testBit q).toNat) 8 = bsum (fun q => (t.testBit q).toNat) (cnt gone n) := bsum_tail (fun j hj => by rw [bit_hi h hj]; rfl) (by have := cnt_le gone n; omega)
  rw [sz_sum, sz_sum, h2, h3, h1]
theorem sp_sub {gone t n : Nat} : sub (spTo gone t n) (nand (bit n - 1) gone) := fun j hj => by
  obtain ⟨h1, h2, _⟩ := (spTo_testBit _ _ _ _).1 hj
  rw [nand_testBit, testBit_all, h2]
  simpa using h1
theorem sp_all (gone n : Nat) : spTo gone (bit (cnt gone n) - 1) n = nand (bit n - 1) gone := by
  apply Nat.eq_of_testBit_eq
  intro j
  rw [Bool.eq_iff_iff, spTo_testBit, nand_testBit, testBit_all, testBit_all, Bool.and_eq_true, Bool.not_eq_true', decide_eq_true_eq, decide_eq_true_eq]
  constructor
  · rintro ⟨h1, h2, _⟩; exact ⟨h1, h2⟩
  · rintro ⟨h1, h2⟩; exact ⟨h1, h2, cnt_lt h1 h2⟩

/-! ### those of a list with the greatest key -/
def growL (key : Nat → Int) (L : List Nat) : Nat → List Nat × Int
  | 0 => ([], -1)
  | k + 1 => if (growL key L k).2 < key (L.getD k 0) then ([L.getD k 0], key (L.getD k 0)) else if key (L.getD k 0) = (growL key L k).2 then ((growL key L k).1 ++ [L.getD k 0], (growL key L k).2) else growL key L k
theorem growL_len (key : Nat → Int) (L : List Nat) (k : Nat) : (growL key L k).1.length ≤ k := by
  induction k with
  | zero => exact Nat.le_refl _
  | succ k ih =>
    simp only [growL]
    split
    · simp
    · split
      · simp; exact ih
      · omega
theorem growL_is (key : Nat → Int) (L : List Nat) (k : Nat) (hpos : ∀ i, i < k → 0 ≤ key (L.getD i 0)) : (∀ i, i < k → key (L.getD i 0) ≤ (growL key L k).2) ∧ (∀ b, b ∈ (growL key L k).1 ↔ (∃ i, i < k ∧ L.getD i 0 = b) ∧ key b = (growL key L k).2) := by
  induction k with
  | zero => exact ⟨fun i hi => by omega, fun b => by simp [growL]⟩
  | succ k ih =>
    obtain ⟨h1, h2⟩ := ih (fun i hi => hpos i (by omega))
    simp only [growL]
    by_cases c1 : (growL key L k).2 < key (L.getD k 0)
    · rw [if_pos c1]
      refine ⟨fun i hi => ?_, fun b => ?_⟩
      · by_cases e : i = k
        · subst e; exact Int.le_refl _
        · have := h1 i (by omega)
          show _ ≤ key (L.getD k 0)
          omega
      · show b ∈ [L.getD k 0] ↔ _ ∧ key b = key (L.getD k 0)
        rw [List.mem_singleton]
        constructor
        · rintro rfl; exact ⟨⟨k, by omega, rfl⟩, rfl⟩
        · rintro ⟨⟨i, hi, rfl⟩, he⟩
          by_cases e : i = k
          · subst e; rfl
          · have := h1 i (by omega); omega
    · rw [if_neg c1]
      by_cases c2 : key (L.getD k 0) = (growL key L k).2
      · rw [if_pos c2]
        refine ⟨fun i hi => ?_, fun b => ?_⟩
        · show _ ≤ (growL key L k).2
          by_cases e : i = k
          · subst e; omega
          · exact h1 i (by omega)
        · show b ∈ (growL key L k).1 ++ [L.getD k 0] ↔ _ ∧ key b = (growL key L k).2
          rw [List.mem_append, List.mem_singleton, h2]
          constructor
          · rintro (⟨⟨i, hi, rfl⟩, he⟩ | rfl)
            · exact ⟨⟨i, by omega, rfl⟩, he⟩
            · exact ⟨⟨k, by omega, rfl⟩, c2⟩
          · rintro ⟨⟨i, hi, rfl⟩, he⟩
            by_cases e : i = k
            · subst e; exact .inr rfl
            · exact .inl ⟨⟨i, by omega, rfl⟩, he⟩
      · rw [if_neg c2]
        refine ⟨fun i hi => ?_, fun b => ?_⟩
        · by_cases e : i = k
          · subst e; omega
          · exact h1 i (by omega)
        · rw [h2]
          constructor
          · rintro ⟨⟨i, hi, rfl⟩, he⟩; exact ⟨⟨i, by omega, rfl⟩, he⟩
          · rintro ⟨⟨i, hi, rfl⟩, he⟩
            by_cases e : i = k
            · subst e; exact absurd he c2
            · exact ⟨⟨i, by omega, rfl⟩, he⟩
theorem mem_growL {key : Nat → Int} {L : List Nat} (hpos : ∀ b, b ∈ L → 0 ≤ key b) {b : Nat} : b ∈ (growL key L L.length).1 ↔ b ∈ L ∧ ∀ x, x ∈ L → key x ≤ key b := by
  have hget : ∀ i, i < L.length → L.getD i 0 ∈ L := fun i hi => by simp [hi]
  obtain ⟨h1, h2⟩ := growL_is key L L.length (fun i hi => hpos _ (hget i hi))
  have hex : ∀ x, x ∈ L → ∃ i, i < L.length ∧ L.getD i 0 = x := fun x hx => by
    obtain ⟨i, hi, e⟩ := List.getElem_of_mem hx
    exact ⟨i, hi, by simp [hi, e]⟩
  rw [h2]
  constructor
  · rintro ⟨⟨i, hi, rfl⟩, he⟩
    refine ⟨hget i hi, fun x hx => ?_⟩
    obtain ⟨j, hj, rfl⟩ := hex x hx
    have := h1 j hj
    omega
  · rintro ⟨hb, hm⟩
    refine ⟨hex b hb, ?_⟩
    obtain ⟨i, hi, e⟩ := hex b hb
    have h3 := h1 i hi
    rw [e] at h3
    -- the greatest key is met
    have hat : ∀ k, k ≤ L.length → (growL key L k).2 = -1 ∨ ∃ j, j < k ∧ key (L.getD j 0) = (growL key L k).2 := by
      intro k
      induction k with
      | zero => intro _; exact .inl rfl
      | succ k ih =>
        intro hk
        simp only [growL]
        split
        · exact .inr ⟨k, by omega, rfl⟩
        · split
          · rename_i c2
            exact .inr ⟨k, by omega, c2⟩
          · rcases ih (by omega) with h | ⟨j, hj, h⟩
            · exact .inl h
            · exact .inr ⟨j, by omega, h⟩
    rcases hat L.length (Nat.le_refl _) with h | ⟨j, hj, h⟩
    · have := hpos b hb; omega
    · have := hm _ (hget j hj)
      omega

/-! ### the same matroids -/
/-- whether a set is a basis of the matroid of a rank function -/
def ofRank (n : Nat) (r : Nat → Int) (s : Nat) : Bool := decide (r s = sz s ∧ r s = r (bit n - 1))
def memB (l : List Nat) (s : Nat) : Bool := decide (s ∈ l)
theorem sz_full {m : Nat} (hm : m ≤ 8) : sz (bit m - 1) = m := by
  have : ∀ m : Fin 9, sz (bit m.val - 1) = m.val := by decide
  exact this ⟨m, by omega⟩
theorem all_and {m b : Nat} (h : b < bit m) : (bit m - 1) &&& b = b := by
  apply Nat.eq_of_testBit_eq
  intro i
  rw [Nat.testBit_and, testBit_all]
  cases c : b.testBit i
  · simp
  · have := lt_m_of_testBit h c
    simp [this]
theorem nand_all_all (x : Nat) : nand x x = 0 := by
  apply Nat.eq_of_testBit_eq
  intro i
  rw [nand_testBit]
  cases x.testBit i <;> simp
theorem nand_nand {m s : Nat} (h : s < bit m) : nand (bit m - 1) (nand (bit m - 1) s) = s := by
  apply Nat.eq_of_testBit_eq
  intro i
  rw [nand_testBit, nand_testBit, testBit_all]
  cases c : s.testBit i
  · cases decide (i < m) <;> rfl
  · have := lt_m_of_testBit h c
    simp [this]
theorem all_lt (m : Nat) : bit m - 1 < bit m := by
  have : 1 ≤ bit m := Nat.one_le_two_pow
  omega
theorem nand_all_lt (m s : Nat) : nand (bit m - 1) s < bit m := by
  have h1 := nand_le (bit m - 1) s
  have h2 := all_lt m
  omega
theorem sz_nand_all {m s : Nat} (hm : m ≤ 8) (h : s < bit m) : sz (nand (bit m - 1) s) + sz s = m := by
  have h1 := sz_diff (bit m - 1) s
  rw [all_and h, sz_full hm] at h1
  exact h1
theorem mem_of_ind_sz {L : List Nat} {r s : Nat} (hF : Fam8 L r) (hs : s < 256) (h : Ind L s) (hz : sz s = r) : s ∈ L := by
  obtain ⟨b, hb, hsub⟩ := h
  have := eq_of_sub_sz hs (hF.lt b hb) hsub (by rw [hF.eq b hb]; omega)
  rw [this]; exact hb
theorem rk_zero (L : List Nat) : rk L 0 = 0 := by
  have := rk_le L 0
  rw [sz_zero] at this
  omega

def dualR (m : Nat) (L : List Nat) (s : Nat) : Int := (sz s : Int) - rk L (bit m - 1) + rk L (nand (bit m - 1) s)
theorem dual_same {m r : Nat} (hm : m ≤ 8) {L : List Nat} (hne : L ≠ []) (hF : Fam8 L r) (hlt : ∀ b, b ∈ L → b < bit m) : those m (memB (L.map (fun b => nand (bit m - 1) b))) = those m (ofRank m (dualR m L)) := those_mem_eq (fun s hs => by
  have hbm := bit_le m hm
  have hra := rk_all hne hF hlt
  unfold memB ofRank dualR
  rw [decide_eq_true_eq, decide_eq_true_eq, nand_all_all, rk_zero, sz_full hm, hra, List.mem_map]
  have hsz := sz_nand_all hm hs
  have hc : nand (bit m - 1) s < 256 := by have := nand_all_lt m s; omega
  constructor
  · rintro ⟨b, hb, rfl⟩
    rw [nand_nand (hlt b hb)]
    have h1 := rk_ind (L := L) (I := b) (s := b) ⟨b, hb, fun _ h => h⟩ (fun _ h => h)
    have h2 := rk_le L b
    have h3 := hF.eq b hb
    have h4 := sz_nand_all hm (hlt b hb)
    omega
  · rintro ⟨h1, h2⟩
    refine ⟨nand (bit m - 1) s, mem_of_ind_sz hF hc ((ind_rk hne hc).2 ?_) ?_, nand_nand hs⟩
    · omega
    · omega)

def delR (m : Nat) (L : List Nat) (s t : Nat) : Int := (rk L (spTo s t m) : Int)
def delKey (m s b : Nat) : Int := (m : Int) - sz (b &&& s)
def delL (m : Nat) (L : List Nat) (s : Nat) : List Nat := ((growL (delKey m s) L L.length).1).map (fun b => prTo s b m)
theorem and_nand_all {m s b : Nat} (h : b < bit m) : nand (bit m - 1) s &&& b = nand b s := by
  apply Nat.eq_of_testBit_eq
  intro i
  rw [Nat.testBit_and, nand_testBit, nand_testBit, testBit_all]
  cases c : b.testBit i
  · simp
  · have := lt_m_of_testBit h c
    simp [this]
theorem and_eq_left {a b : Nat} (h : sub a b) : a &&& b = a := by
  apply Nat.eq_of_testBit_eq
  intro i
  rw [Nat.testBit_and]
  cases c : a.testBit i
  · rfl
  · rw [h i c]; rfl
theorem rk_self {L : List Nat} {I : Nat} (h : Ind L I) : rk L I = sz I := by
  have h1 := rk_ind h (fun _ x => x)
  have h2 := rk_le L I
  omega
theorem del_same {m r s : Nat} (hm : m ≤ 8) {L : List Nat} (hne : L ≠ []) (hF : Fam8 L r) (hlt : ∀ b, b ∈ L → b < bit m) (hs : s < bit m) : those (cnt s m) (memB (delL m L s)) = those (cnt s m) (ofRank (cnt s m) (delR m L s)) := those_mem_eq (fun t ht => by
  have hbm := bit_le m hm
  unfold memB ofRank delR delL
  rw [decide_eq_true_eq, decide_eq_true_eq, sp_all, List.mem_map]
  have hpos : ∀ b, b ∈ L → 0 ≤ delKey m s b := fun b hb => by
    have h1 := sz_le_m hm (hlt b hb)
    have h2 := sz_mono (sub_and_left b s)
    unfold delKey; omega
  have hsz := sz_sp hm ht
  have hS : spTo s t m < 256 := by have := spTo_lt s t m; omega
  have hE : ∀ b, b ∈ L → sz (nand b s) ≤ rk L (nand (bit m - 1) s) := fun b hb => by
    have := rk_ge (nand (bit m - 1) s) hb
    rwa [and_nand_all (hlt b hb)] at this
  have hkey : ∀ b, b ∈ L → delKey m s b = (m : Int) - r + sz (nand b s) := fun b hb => by
    have h1 := sz_diff b s
    have h2 := hF.eq b hb
    unfold delKey; omega
  obtain ⟨b0, hb0, e0⟩ := rk_at hne (nand (bit m - 1) s)
  rw [and_nand_all (hlt b0 hb0)] at e0
  constructor
  · rintro ⟨b, hb, hp⟩
    rw [mem_growL hpos] at hb
    obtain ⟨hb, hmax⟩ := hb
    have hSb : spTo s t m = nand b s := by rw [← hp, sp_pr (hlt b hb)]
    have h1 := hmax b0 hb0
    rw [hkey b0 hb0, hkey b hb] at h1
    have h2 := hE b hb
    have h3 := rk_self (L := L) (I := nand b s) ⟨b, hb, fun k hk => by rw [nand_testBit] at hk; simp at hk; exact hk.1⟩
    rw [hSb] at hsz ⊢
    omega
  · rintro ⟨h1, h2⟩
    obtain ⟨b, hb, e⟩ := rk_at hne (spTo s t m)
    have h3 : spTo s t m &&& b = spTo s t m := eq_of_sub_sz (and_lt256 hS) hS (sub_and_left _ _) (by omega)
    have h4 : sub (spTo s t m) b := fun k hk => by rw [← h3, Nat.testBit_and] at hk; simp at hk; exact hk.2
    have h5 : sub (spTo s t m) (nand b s) := fun k hk => by
      have := sp_sub k hk
      rw [nand_testBit] at this ⊢
      simp at this
      rw [h4 k hk, this.2]; rfl
    have h6 := hE b hb
    have h7 : spTo s t m = nand b s := eq_of_sub_sz hS (nand_lt _ _ 8 (hF.lt b hb)) h5 (by omega)
    refine ⟨b, (mem_growL hpos).2 ⟨hb, fun x hx => ?_⟩, ?_⟩
    · rw [hkey x hx, hkey b hb]
      have := hE x hx
      rw [← h7]
      omega
    · rw [← pr_nand, ← h7, pr_sp ht])

def conR (m : Nat) (L : List Nat) (s t : Nat) : Int := (rk L (spTo s t m ||| s) : Int) - rk L s
def conKey (s b : Nat) : Int := (sz (b &&& s) : Int)
def conL (m : Nat) (L : List Nat) (s : Nat) : List Nat := ((growL (conKey s) L L.length).1).map (fun b => prTo s b m)
theorem nand_all_or {m s : Nat} (hs : s < bit m) : nand (bit m - 1) s ||| s = bit m - 1 := by
  apply Nat.eq_of_testBit_eq
  intro i
  rw [Nat.testBit_or, nand_testBit, testBit_all]
  cases c : s.testBit i
  · simp
  · have := lt_m_of_testBit hs c
    simp [this]
theorem con_same {m r s : Nat} (hm : m ≤ 8) {L : List Nat} (hne : L ≠ []) (hF : Fam8 L r) (hlt : ∀ b, b ∈ L → b < bit m) (hs : s < bit m) : those (cnt s m) (memB (conL m L s)) = those (cnt s m) (ofRank (cnt s m) (conR m L s)) := those_mem_eq (fun t ht => by
  have hbm := bit_le m hm
  have hra := rk_all hne hF hlt
  unfold memB ofRank conR conL
  rw [decide_eq_true_eq, decide_eq_true_eq, sp_all, nand_all_or hs, hra, List.mem_map]
  have hpos : ∀ b, b ∈ L → 0 ≤ conKey s b := fun b hb => by unfold conKey; omega
  have hsz := sz_sp hm ht
  have hSl := spTo_lt s t m
  have hS : spTo s t m < 256 := by omega
  have hE : ∀ b, b ∈ L → sz (b &&& s) ≤ rk L s := fun b hb => by
    have := rk_ge s hb
    rwa [Nat.and_comm] at this
  obtain ⟨b0, hb0, e0⟩ := rk_at hne s
  rw [Nat.and_comm] at e0
  constructor
  · rintro ⟨b, hb, hp⟩
    rw [mem_growL hpos] at hb
    obtain ⟨hb, hmax⟩ := hb
    have hSb : spTo s t m = nand b s := by rw [← hp, sp_pr (hlt b hb)]
    have h1 := hmax b0 hb0
    unfold conKey at h1
    have h2 := hE b hb
    have h3 := sz_diff b s
    have h4 := hF.eq b hb
    have h5 : sz b ≤ rk L (spTo s t m ||| s) := rk_ind ⟨b, hb, fun _ h => h⟩ (fun k hk => by
      rw [Nat.testBit_or, hSb, nand_testBit, hk]
      cases s.testBit k <;> rfl)
    have h6 := rk_mono hne (show sub (spTo s t m ||| s) (bit m - 1) from fun k hk => by
      rw [testBit_all]
      have := lt_m_of_testBit (or_lt_bit hSl hs) hk
      simpa using this)
    rw [hra] at h6
    rw [hSb] at hsz
    omega
  · rintro ⟨h1, h2⟩
    obtain ⟨b, hb, e⟩ := rk_at hne (spTo s t m ||| s)
    have h4 := hF.eq b hb
    -- the basis lies within S and s
    have hX : spTo s t m ||| s < 256 := or_lt _ _ hS (by omega)
    have h5 : (spTo s t m ||| s) &&& b = b := eq_of_sub_sz (and_lt256 hX) (hF.lt b hb) (sub_and_right _ _) (by omega)
    have h6 : ∀ k, b.testBit k = true → (spTo s t m).testBit k = true ∨ s.testBit k = true := fun k hk => by
      rw [← h5, Nat.testBit_and, Nat.testBit_or] at hk
      simp at hk
      exact hk.1
    have h7 : sub (nand b s) (spTo s t m) := fun k hk => by
      rw [nand_testBit] at hk
      simp at hk
      rcases h6 k hk.1 with h | h
      · exact h
      · rw [h] at hk; simp at hk
    have h8 := sz_diff b s
    have h9 := hE b hb
    have h10 : nand b s = spTo s t m := eq_of_sub_sz (nand_lt _ _ 8 (hF.lt b hb)) hS h7 (by omega)
    refine ⟨b, (mem_growL hpos).2 ⟨hb, fun x hx => ?_⟩, ?_⟩
    · have := hE x hx
      unfold conKey
      rw [h10] at h8
      omega
    · rw [← pr_nand, h10, pr_sp ht])

def cutR (L : List Nat) (k : Int) (s : Nat) : Int := min (rk L s : Int) k
theorem cut_same {m r : Nat} (hm : m ≤ 8) {L : List Nat} (hne : L ≠ []) (hF : Fam8 L r) (hlt : ∀ b, b ∈ L → b < bit m) {k : Int} (h0 : 0 ≤ k) (hk : k ≤ r) : those m (memB ((those m (indP L)).filter (fun s => decide ((sz s : Int) = k)))) = those m (ofRank m (cutR L k)) := those_mem_eq (fun s hs => by
  have hra := rk_all hne hF hlt
  unfold memB ofRank cutR
  rw [decide_eq_true_eq, decide_eq_true_eq, hra, List.mem_filter, mem_those, decide_eq_true_eq]
  unfold indP
  rw [decide_eq_true_eq]
  have := rk_le L s
  constructor
  · rintro ⟨⟨_, h1⟩, h2⟩; omega
  · rintro ⟨h1, h2⟩; exact ⟨⟨hs, by omega⟩, by omega⟩)

end Go.Proofs.Ytffnpokceomncaa

namespace Go.Proofs.Ytffnpokceomncaa
open Go.RowKit
set_option linter.unusedVariables false

def itr (p : Nat → Nat) : Nat → Nat → Nat
  | 0, v => v
  | k + 1, v => itr p k (p v)
theorem itr_add (p : Nat → Nat) : ∀ k l v, itr p (k + l) v = itr p l (itr p k v)
  | 0, l, v => by rw [Nat.zero_add]; rfl
  | k + 1, l, v => by rw [show k + 1 + l = (k + l) + 1 by omega]; exact itr_add p k l (p v)
theorem itr_fix {p : Nat → Nat} {r : Nat} (h : p r = r) : ∀ k, itr p k r = r
  | 0 => rfl
  | k + 1 => by show itr p k (p r) = r; rw [h]; exact itr_fix h k
/-- r is v's last name -/
def Rt (p : Nat → Nat) (v r : Nat) : Prop := p r = r ∧ ∃ k, itr p k v = r
theorem Rt.self {p : Nat → Nat} {v : Nat} (h : p v = v) : Rt p v v := ⟨h, 0, rfl⟩
theorem Rt.one {p : Nat → Nat} {v r r' : Nat} (h : Rt p v r) (h' : Rt p v r') : r = r' := by
  obtain ⟨f, k, rfl⟩ := h
  obtain ⟨f', l, rfl⟩ := h'
  by_cases c : k ≤ l
  · have e : itr p l v = itr p k v := by rw [show l = k + (l - k) by omega, itr_add, itr_fix f]
    exact e.symm
  · have e : itr p k v = itr p l v := by rw [show k = l + (k - l) by omega, itr_add, itr_fix f']
    exact e
theorem Rt.step {p : Nat → Nat} {v r : Nat} (h : Rt p v r) : Rt p (p v) r := by
  obtain ⟨f, k, e⟩ := h
  cases k with
  | zero => have e : v = r := e; subst e; rw [f]; exact ⟨f, 0, rfl⟩
  | succ k => exact ⟨f, k, e⟩
theorem Rt.back {p : Nat → Nat} {v r : Nat} (h : Rt p (p v) r) : Rt p v r := by
  obtain ⟨f, k, e⟩ := h
  exact ⟨f, k + 1, e⟩
/-- a forest of names whose trees are the parts of J -/
structure UF (n : Nat) (p : Nat → Nat) (J : Nat → Nat → Prop) : Prop where
  lt : ∀ j, j < n → p j < n
  wf : ∃ d : Nat → Nat, ∀ j, j < n → p j ≠ j → d (p j) < d j
  jn : ∀ i j, i < n → j < n → (J i j ↔ ∃ r, Rt p i r ∧ Rt p j r)
theorem root_ex {n : Nat} {p : Nat → Nat} (hlt : ∀ j, j < n → p j < n) {d : Nat → Nat} (hd : ∀ j, j < n → p j ≠ j → d (p j) < d j) : ∀ k v, v < n → d v ≤ k → ∃ r, r < n ∧ Rt p v r := by
  intro k
  induction k with
  | zero =>
    intro v hv hk
    by_cases c : p v = v
    · exact ⟨v, hv, Rt.self c⟩
    · have := hd v hv c; omega
  | succ k ih =>
    intro v hv hk
    by_cases c : p v = v
    · exact ⟨v, hv, Rt.self c⟩
    · have := hd v hv c
      obtain ⟨r, hr, h⟩ := ih (p v) (hlt v hv) (by omega)
      exact ⟨r, hr, h.back⟩
theorem UF.root {n : Nat} {p : Nat → Nat} {J : Nat → Nat → Prop} (h : UF n p J) {v : Nat} (hv : v < n) : ∃ r, r < n ∧ Rt p v r := by
  obtain ⟨d, hd⟩ := h.wf
  exact root_ex h.lt hd (d v) v hv (Nat.le_refl _)
theorem UF.start (n : Nat) {J : Nat → Nat → Prop} (hJ : ∀ i j, i < n → j < n → (J i j ↔ i = j)) : UF n (fun j => j) J := by
  refine ⟨fun j h => h, ⟨fun _ => 0, fun j _ h => absurd rfl h⟩, fun i j hi hj => ?_⟩
  rw [hJ i j hi hj]
  constructor
  · intro h; subst h; exact ⟨i, Rt.self rfl, Rt.self rfl⟩
  · rintro ⟨r, h1, h2⟩
    exact ((Rt.self (p := fun j => j) (v := i) rfl).one h1).trans ((Rt.self (p := fun j => j) (v := j) rfl).one h2).symm
/-- a hangs on b from now on -/
def hang (p : Nat → Nat) (a b : Nat) : Nat → Nat := fun j => if j = a then b else p j
theorem hang_rt {p : Nat → Nat} {a b : Nat} (ha : p a = a) (hb : p b = b) (hne : a ≠ b) : ∀ k v r, itr p k v = r → p r = r → Rt (hang p a b) v (if r = a then b else r) := by
  have hbb : hang p a b b = b := by unfold hang; rw [if_neg (fun c => hne c.symm), hb]
  have hab : hang p a b a = b := by unfold hang; rw [if_pos rfl]
  intro k
  induction k with
  | zero =>
    intro v r e hr
    have e : v = r := e
    subst e
    by_cases c : v = a
    · subst c; rw [if_pos rfl]
      exact Rt.back (by rw [hab]; exact Rt.self hbb)
    · rw [if_neg c]
      exact Rt.self (by unfold hang; rw [if_neg c, hr])
  | succ k ih =>
    intro v r e hr
    have h := ih (p v) r e hr
    by_cases c : v = a
    · subst c; rw [ha] at h; exact h
    · exact Rt.back (by rw [show hang p a b v = p v by unfold hang; rw [if_neg c]]; exact h)
theorem UF.join {n : Nat} {p : Nat → Nat} {J J' : Nat → Nat → Prop} {A B a b : Nat} (h : UF n p J) (hA : A < n) (hB : B < n) (hb : b < n) (ra : Rt p A a) (rb : Rt p B b) (hne : a ≠ b) (hJ : ∀ i j, i < n → j < n → (J' i j ↔ J i j ∨ (J i A ∧ J j B) ∨ (J i B ∧ J j A))) : UF n (hang p a b) J' := by
  have hpa := ra.1
  have hpb := rb.1
  refine ⟨fun j hj => ?_, ?_, fun i j hi hj => ?_⟩
  · unfold hang; split
    · exact hb
    · exact h.lt j hj
  · obtain ⟨d, hd⟩ := h.wf
    classical
    refine ⟨fun j => if Rt p j a then d j + d b + 1 else d j, fun j hj hpj => ?_⟩
    have hnb : ¬ Rt p b a := fun c => hne (c.one (Rt.self hpb))
    by_cases c : j = a
    · subst c
      show (if Rt p (hang p j b j) j then _ else _) < (if Rt p j j then _ else _)
      rw [show hang p j b j = b by unfold hang; rw [if_pos rfl], if_neg hnb, if_pos (Rt.self hpa)]
      omega
    · have e : hang p a b j = p j := by unfold hang; rw [if_neg c]
      rw [e] at hpj
      have := hd j hj hpj
      show (if Rt p (hang p a b j) a then _ else _) < (if Rt p j a then _ else _)
      rw [e]
      by_cases c2 : Rt p j a
      · rw [if_pos c2.step, if_pos c2]; omega
      · rw [if_neg (fun c3 => c2 c3.back), if_neg c2]; exact this
  · obtain ⟨ri, hri, hi'⟩ := h.root hi
    obtain ⟨rj, hrj, hj'⟩ := h.root hj
    have key : ∀ {x y rx ry : Nat}, x < n → y < n → Rt p x rx → Rt p y ry → (J x y ↔ rx = ry) := fun hx hy h1 h2 => by
      rw [h.jn _ _ hx hy]
      constructor
      · rintro ⟨r, g1, g2⟩; exact (h1.one g1).trans (h2.one g2).symm
      · intro e; subst e; exact ⟨_, h1, h2⟩
    have ti := hang_rt hpa hpb hne _ i ri hi'.2.choose_spec hi'.1
    have tj := hang_rt hpa hpb hne _ j rj hj'.2.choose_spec hj'.1
    rw [hJ i j hi hj, key hi hj hi' hj', key hi hA hi' ra, key hj hB hj' rb, key hi hB hi' rb, key hj hA hj' ra]
    constructor
    · intro c
      refine ⟨_, ti, ?_⟩
      have : (if ri = a then b else ri) = (if rj = a then b else rj) := by
        rcases c with c | ⟨c1, c2⟩ | ⟨c1, c2⟩
        · rw [c]
        · rw [if_pos c1, if_neg (by rw [c2]; exact fun c => hne c.symm), c2]
        · rw [if_neg (by rw [c1]; exact fun c => hne c.symm), if_pos c2, c1]
      rw [this]; exact tj
    · rintro ⟨r, g1, g2⟩
      have e := (ti.one g1).trans (tj.one g2).symm
      by_cases c1 : ri = a
      · by_cases c2 : rj = a
        · exact .inl (c1.trans c2.symm)
        · rw [if_pos c1, if_neg c2] at e
          exact .inr (.inl ⟨c1, e.symm⟩)
      · by_cases c2 : rj = a
        · rw [if_neg c1, if_pos c2] at e
          exact .inr (.inr ⟨e, c2⟩)
        · rw [if_neg c1, if_neg c2] at e
          exact .inl e

/-- of how many parts -/
def rz (n : Nat) (es : List (Int × Int)) (x : Nat) : Nat := cntTo (lblT es x n) n
theorem rz_is {n : Nat} {es : List (Int × Int)} (hG : Grf n es) {x R : Nat} (hR : Reps n es x R) : rz n es x = sz R := isle_is hG hR
/-- the first k of s -/
def upto (s k : Nat) : Nat := s &&& (bit k - 1)
theorem upto_testBit (s k i : Nat) : (upto s k).testBit i = (s.testBit i && decide (i < k)) := by
  unfold upto; rw [Nat.testBit_and, testBit_all]
theorem upto_zero (s : Nat) : upto s 0 = 0 := Nat.eq_of_testBit_eq (fun i => by rw [upto_testBit]; simp)
theorem upto_yes {s k : Nat} (h : s.testBit k = true) : upto s (k + 1) = upto s k ||| bit k := Nat.eq_of_testBit_eq (fun i => by
  rw [Nat.testBit_or, upto_testBit, upto_testBit, testBit_bit]
  by_cases c : k = i
  · subst c; rw [h]; simp
  · rw [decide_eq_false c, Bool.or_false, show decide (i < k + 1) = decide (i < k) from decide_eq_decide.2 (by omega)])
theorem upto_no {s k : Nat} (h : s.testBit k = false) : upto s (k + 1) = upto s k := Nat.eq_of_testBit_eq (fun i => by
  rw [upto_testBit, upto_testBit]
  by_cases c : k = i
  · subst c; rw [h]; simp
  · rw [show decide (i < k + 1) = decide (i < k) from decide_eq_decide.2 (by omega)])
theorem upto_all {s m : Nat} (hs : s < bit m) : upto s m = s := Nat.eq_of_testBit_eq (fun i => by
  rw [upto_testBit]
  by_cases c : i < m
  · rw [decide_eq_true c, Bool.and_true]
  · rw [decide_eq_false c, Bool.and_false]
    exact (Nat.testBit_lt_two_pow (Nat.lt_of_lt_of_le hs (Nat.pow_le_pow_right (by decide) (by omega)))).symm)
/-- parts and edges, of the first k -/
def fsum (n : Nat) (es : List (Int × Int)) (s k : Nat) : Nat := rz n es (upto s k) + sz (upto s k)
/-- no ring -/
def forB (n : Nat) (es : List (Int × Int)) (s : Nat) : Bool := decide (rz n es s + sz s = n)
theorem fsum_zero {n : Nat} {es : List (Int × Int)} (hG : Grf n es) (s : Nat) : fsum n es s 0 = n := by
  unfold fsum
  rw [upto_zero]
  obtain ⟨R, hR⟩ := Reps.ex n es 0
  have hn8 : n ≤ 8 := by have := hG.n7; omega
  rw [rz_is hG hR, Reps.none hn8 hR, sz_all hn8, sz_zero]; rfl
theorem fsum_no {n : Nat} {es : List (Int × Int)} {s k : Nat} (h : s.testBit k = false) : fsum n es s (k + 1) = fsum n es s k := by
  unfold fsum; rw [upto_no h]
theorem fsum_yes {n : Nat} {es : List (Int × Int)} (hG : Grf n es) {s k : Nat} (hk : k < es.length) (hk8 : k < 8) (h : s.testBit k = true) (hj : ¬ Jn es (upto s k) (vA es k) (vB es k)) : fsum n es s (k + 1) = fsum n es s k := by
  unfold fsum
  rw [upto_yes h, sz_add hk8 (by rw [upto_testBit]; simp)]
  obtain ⟨R, hR⟩ := Reps.ex n es (upto s k)
  obtain ⟨R', hR'⟩ := Reps.ex n es (upto s k ||| bit k)
  have hn8 : n ≤ 8 := by have := hG.n7; omega
  have := Reps.less hG.ends hk hn8 (hG.lt k hk).1 (hG.lt k hk).2 hj hR hR'
  rw [rz_is hG hR, rz_is hG hR']; omega
theorem fsum_ring {n : Nat} {es : List (Int × Int)} (hG : Grf n es) {s k : Nat} (hk8 : k < 8) (h : s.testBit k = true) (hj : Jn es (upto s k) (vA es k) (vB es k)) : fsum n es s (k + 1) = fsum n es s k + 1 := by
  unfold fsum
  rw [upto_yes h, sz_add hk8 (by rw [upto_testBit]; simp)]
  obtain ⟨R, hR⟩ := Reps.ex n es (upto s k)
  obtain ⟨R', hR'⟩ := Reps.ex n es (upto s k ||| bit k)
  rw [rz_is hG hR, rz_is hG hR', Reps.same hj hR hR']; omega
theorem fsum_mono {n : Nat} {es : List (Int × Int)} (hG : Grf n es) {s k : Nat} (h8 : es.length ≤ 8) : ∀ l, k ≤ l → l ≤ es.length → fsum n es s k ≤ fsum n es s l
  | 0, hkl, _ => by rw [show k = 0 by omega]; exact Nat.le_refl _
  | l + 1, hkl, hl => by
    by_cases c : k = l + 1
    · rw [c]; exact Nat.le_refl _
    · refine Nat.le_trans (fsum_mono hG h8 l (by omega) (by omega)) ?_
      cases hb : s.testBit l
      · rw [fsum_no hb]; exact Nat.le_refl _
      · by_cases hj : Jn es (upto s l) (vA es l) (vB es l)
        · rw [fsum_ring hG (by omega) hb hj]; omega
        · rw [fsum_yes hG (by omega) (by omega) hb hj]; exact Nat.le_refl _
theorem forB_ring {n : Nat} {es : List (Int × Int)} (hG : Grf n es) {s k : Nat} (h8 : es.length ≤ 8) (hs : s < bit es.length) (hk : k < es.length) (h0 : fsum n es s k = n) (h : s.testBit k = true) (hj : Jn es (upto s k) (vA es k) (vB es k)) : forB n es s = false := by
  have h1 := fsum_ring hG (by omega) h hj
  have h2 := fsum_mono hG (s := s) (k := k + 1) h8 es.length (by omega) (Nat.le_refl _)
  have h3 : fsum n es s es.length = rz n es s + sz s := by unfold fsum; rw [upto_all hs]
  exact decide_eq_false (by omega)
theorem forB_end {n : Nat} {es : List (Int × Int)} {s : Nat} (hs : s < bit es.length) (h0 : fsum n es s es.length = n) : forB n es s = true := by
  have h3 : fsum n es s es.length = rz n es s + sz s := by unfold fsum; rw [upto_all hs]
  exact decide_eq_true (by omega)
theorem Jn.none {es : List (Int × Int)} {i j : Nat} : Jn es 0 i j ↔ i = j := by
  constructor
  · intro h
    have := h (bit i) (fun k _ c => by rw [Nat.zero_testBit] at c; cases c)
    rw [testBit_bit, testBit_bit, decide_eq_true rfl] at this
    exact of_decide_eq_true this.symm
  · rintro rfl; exact Jn.refl _ _ _
theorem Jn.step {n : Nat} {es : List (Int × Int)} (hG : Grf n es) {x e i j : Nat} (hel : e < es.length) (hi : i < n) (hj : j < n) : Jn es (x ||| bit e) i j ↔ Jn es x i j ∨ (Jn es x i (vA es e) ∧ Jn es x j (vB es e)) ∨ (Jn es x i (vB es e) ∧ Jn es x j (vA es e)) := by
  have hn := hG.n7
  constructor
  · exact Jn.more hG.ends hel (by omega) (by omega)
  · have hm : ∀ {a b}, Jn es x a b → Jn es (x ||| bit e) a b := fun h => Jn.mono (sub_or x (bit e)) h
    have he : Jn es (x ||| bit e) (vA es e) (vB es e) := Jn.edge hel (by rw [Nat.testBit_or, testBit_bit]; simp)
    rintro (h | ⟨h1, h2⟩ | ⟨h1, h2⟩)
    · exact hm h
    · exact ((hm h1).trans he).trans (hm h2).symm
    · exact ((hm h1).trans he.symm).trans (hm h2).symm

end Go.Proofs.Ytffnpokceomncaa

namespace Go.Proofs.Ytffnpokceomncaa
set_option linter.unusedVariables false

structure RkF (n : Nat) (ρ : Nat → Nat) : Prop where
  zero : ρ 0 = 0
  step : ∀ s i, s < bit n → i < n → ρ s ≤ ρ (s ||| bit i) ∧ ρ (s ||| bit i) ≤ ρ s + 1
  clos : ∀ s u i, s < bit n → u < bit n → i < n → sub s u → ρ (s ||| bit i) = ρ s → ρ (u ||| bit i) = ρ u

theorem lt_bitN {s n : Nat} (h : ∀ i, n ≤ i → s.testBit i = false) : s < bit n := by
  unfold bit
  exact Nat.lt_pow_two_of_testBit s (fun i hi => h i hi)
theorem bitN_lt {s n i : Nat} (h : s < bit n) (hi : n ≤ i) : s.testBit i = false := by
  unfold bit at h
  exact Nat.testBit_lt_two_pow (Nat.lt_of_lt_of_le h (Nat.pow_le_pow_right (by decide) hi))
theorem bitN_pos (n : Nat) : 0 < bit n := by unfold bit; exact Nat.two_pow_pos n
theorem or_bitN {s n i : Nat} (h : s < bit n) (hi : i < n) : s ||| bit i < bit n := lt_bitN (fun k hk => by
  rw [Nat.testBit_or, bitN_lt h hk, testBit_bit]
  simp; omega)
theorem or_ltN {s t n : Nat} (h : s < bit n) (ht : t < bit n) : s ||| t < bit n := lt_bitN (fun k hk => by
  rw [Nat.testBit_or, bitN_lt h hk, bitN_lt ht hk]; rfl)
theorem upto_lt {s n k : Nat} (h : s < bit n) : upto s k < bit n := lt_bitN (fun i hi => by
  rw [upto_testBit, bitN_lt h hi]; rfl)
theorem or_in {s i : Nat} (h : s.testBit i = true) : s ||| bit i = s := Nat.eq_of_testBit_eq (fun k => by
  rw [Nat.testBit_or, testBit_bit]
  by_cases e : i = k
  · subst e; rw [h]; simp
  · simp [e])
namespace RkF
variable {n : Nat} {ρ : Nat → Nat}
theorem le_sz (h : RkF n ρ) (hn : n ≤ 8) {s : Nat} (hs : s < bit n) : ρ s ≤ sz s := by
  have key : ∀ k, k ≤ n → ρ (upto s k) ≤ sz (upto s k) := by
    intro k
    induction k with
    | zero => intro _; rw [upto_zero, h.zero]; exact Nat.zero_le _
    | succ k ih =>
      intro hk
      have ih' := ih (by omega)
      cases hb : s.testBit k
      · rw [upto_no hb]; exact ih'
      · rw [upto_yes hb]
        have h1 := (h.step (upto s k) k (upto_lt hs) (by omega)).2
        have h2 := sz_add (a := upto s k) (i := k) (by omega) (by rw [upto_testBit]; simp)
        omega
  have := key n (Nat.le_refl _)
  rwa [upto_all hs] at this
theorem mono (h : RkF n ρ) {s t : Nat} (hs : s < bit n) (ht : t < bit n) (hst : sub s t) : ρ s ≤ ρ t := by
  have key : ∀ k, k ≤ n → ρ s ≤ ρ (s ||| upto t k) := by
    intro k
    induction k with
    | zero => intro _; rw [upto_zero, Nat.or_zero]; exact Nat.le_refl _
    | succ k ih =>
      intro hk
      have ih' := ih (by omega)
      cases hb : t.testBit k
      · rw [upto_no hb]; exact ih'
      · rw [upto_yes hb, ← Nat.or_assoc]
        have h1 := (h.step (s ||| upto t k) k (or_ltN hs (upto_lt ht)) (by omega)).1
        omega
  have := key n (Nat.le_refl _)
  rw [upto_all ht] at this
  rwa [show s ||| t = t from Nat.eq_of_testBit_eq (fun i => by
    rw [Nat.testBit_or]
    cases e : s.testBit i
    · rfl
    · rw [hst i e]; rfl)] at this
theorem greatest (h : RkF n ρ) (hn : n ≤ 8) : ∃ s, s < bit n ∧ ρ s = sz s ∧ ρ s = ρ (bit n - 1) := by
  have key : ∀ k, k ≤ n → ∃ s, s < bit k ∧ ρ s = sz s ∧ ∀ i, i < k → ρ (s ||| bit i) = ρ s := by
    intro k
    induction k with
    | zero => intro _; exact ⟨0, by decide, by rw [h.zero]; decide, fun i hi => by omega⟩
    | succ k ih =>
      intro hk
      obtain ⟨s, h1, h2, h3⟩ := ih (by omega)
      have hsk : s.testBit k = false := bitN_lt h1 (Nat.le_refl _)
      have hsn : s < bit n := lt_bitN (fun i hi => bitN_lt h1 (by omega))
      have hs1 : s < bit (k + 1) := lt_bitN (fun i hi => bitN_lt h1 (by omega))
      by_cases e : ρ (s ||| bit k) = ρ s
      · exact ⟨s, hs1, h2, fun i hi => by
          by_cases d : i = k
          · subst d; exact e
          · exact h3 i (by omega)⟩
      · have hst := h.step s k hsn (by omega)
        refine ⟨s ||| bit k, or_bitN hs1 (by omega), ?_, fun i hi => ?_⟩
        · rw [sz_add (by omega) hsk]; omega
        · by_cases d : i = k
          · subst d
            rw [or_in (by rw [Nat.testBit_or, testBit_bit]; simp)]
          · exact h.clos s (s ||| bit k) i hsn (or_bitN hsn (by omega)) (by omega) (fun x hx => by rw [Nat.testBit_or, hx]; rfl) (h3 i (by omega))
  obtain ⟨s, h1, h2, h3⟩ := key n (Nat.le_refl _)
  have all : ∀ k, k ≤ n → ρ (s ||| upto (bit n - 1) k) = ρ s := by
    intro k
    induction k with
    | zero => intro _; rw [upto_zero, Nat.or_zero]
    | succ k ih =>
      intro hk
      have ih' := ih (by omega)
      have hb : (bit n - 1).testBit k = true := by rw [testBit_all]; simp; omega
      have hlt : bit n - 1 < bit n := by have := bitN_pos n; omega
      rw [upto_yes hb, ← Nat.or_assoc, h.clos s (s ||| upto (bit n - 1) k) k h1 (or_ltN h1 (upto_lt hlt)) (by omega) (fun x hx => by rw [Nat.testBit_or, hx]; rfl) (h3 k (by omega)), ih']
  refine ⟨s, h1, h2, ?_⟩
  have hlt : bit n - 1 < bit n := by have := bitN_pos n; omega
  have := all n (Nat.le_refl _)
  rw [upto_all hlt, show s ||| (bit n - 1) = bit n - 1 from Nat.eq_of_testBit_eq (fun i => by
    rw [Nat.testBit_or, testBit_all]
    by_cases c : i < n
    · simp [c]
    · simp [c, bitN_lt h1 (show n ≤ i by omega)])] at this
  exact this.symm
/-- THE BASES -/
theorem bases (h : RkF n ρ) (hn : n ≤ 8) : biggest (those n (fun s => decide (ρ s = sz s))) = those n (ofRank n (fun s => (ρ s : Int))) := by
  rw [biggest_eq]
  have hlt : bit n - 1 < bit n := by have := bitN_pos n; omega
  have hM : mostTo (those n (fun s => decide (ρ s = sz s))) (those n (fun s => decide (ρ s = sz s))).length = ρ (bit n - 1) := by
    apply Nat.le_antisymm
    · refine mostTo_le_of (fun t ht => ?_) _ (Nat.le_refl _)
      obtain ⟨h1, h2⟩ := mem_those.1 ht
      have h3 : ρ t = sz t := by simpa using h2
      rw [← h3]
      exact h.mono h1 hlt (fun i hi => by
        rw [testBit_all]
        apply Classical.byContradiction
        intro hc
        rw [bitN_lt h1 (by simpa using hc)] at hi
        cases hi)
    · obtain ⟨s, h1, h2, h3⟩ := h.greatest hn
      have hm : s ∈ those n (fun s => decide (ρ s = sz s)) := mem_those.2 ⟨h1, by simpa using h2⟩
      obtain ⟨k, hk, e⟩ := List.getElem_of_mem hm
      have := mostTo_ge (those n (fun s => decide (ρ s = sz s))) hk
      rw [List.getD_eq_getElem?_getD, List.getElem?_eq_getElem hk, Option.getD_some, e] at this
      omega
  rw [hM]
  unfold those
  rw [List.filter_filter]
  refine List.filter_congr (fun s hs => ?_)
  unfold ofRank
  rw [Bool.eq_iff_iff]
  simp only [Bool.and_eq_true, beq_iff_eq, decide_eq_true_eq]
  omega
end RkF

/-! ### graphs -/
theorem grf_key {n : Nat} {es : List (Int × Int)} (hG : Grf n es) (s : Nat) {i : Nat} (hi : i < es.length) : (Jn es s (vA es i) (vB es i) → rz n es (s ||| bit i) = rz n es s) ∧ (¬ Jn es s (vA es i) (vB es i) → rz n es (s ||| bit i) + 1 = rz n es s) := by
  obtain ⟨R, hR⟩ := Reps.ex n es s
  obtain ⟨R', hR'⟩ := Reps.ex n es (s ||| bit i)
  have hn8 : n ≤ 8 := by have := hG.n7; omega
  rw [rz_is hG hR, rz_is hG hR']
  refine ⟨fun hj => by rw [Reps.same hj hR hR'], fun hj => ?_⟩
  have := Reps.less hG.ends hi hn8 (hG.lt i hi).1 (hG.lt i hi).2 hj hR hR'
  omega
theorem rz_le (n : Nat) (es : List (Int × Int)) (s : Nat) : rz n es s ≤ n := cntTo_le _ _
theorem grf_rk {n : Nat} {es : List (Int × Int)} (hG : Grf n es) : RkF es.length (fun s => n - rz n es s) where
  zero := by
    have := fsum_zero hG 0
    unfold fsum at this
    rw [upto_zero, sz_zero] at this
    show n - rz n es 0 = 0
    omega
  step := fun s i hs hi => by
    have hk := grf_key hG s hi
    have h1 := rz_le n es s
    show n - rz n es s ≤ n - rz n es (s ||| bit i) ∧ n - rz n es (s ||| bit i) ≤ n - rz n es s + 1
    by_cases hj : Jn es s (vA es i) (vB es i)
    · rw [hk.1 hj]; omega
    · have := hk.2 hj; omega
  clos := fun s u i hs hu hi hsu e => by
    have hk := grf_key hG s hi
    have h1 := rz_le n es s
    have e' : n - rz n es (s ||| bit i) = n - rz n es s := e
    show n - rz n es (u ||| bit i) = n - rz n es u
    by_cases hj : Jn es s (vA es i) (vB es i)
    · rw [(grf_key hG u hi).1 (hj.mono hsu)]
    · have := hk.2 hj; omega
theorem graph_bases {n : Nat} {es : List (Int × Int)} (hG : Grf n es) (h8 : es.length ≤ 8) : biggest (those es.length (forB n es)) = those es.length (ofRank es.length (fun s => (n : Int) - (rz n es s : Int))) := by
  have h1 := (grf_rk hG).bases h8
  rw [show those es.length (forB n es) = those es.length (fun s => decide (n - rz n es s = sz s)) from those_congr (fun s hs => by
    unfold forB
    rw [decide_eq_decide]
    have := rz_le n es s
    omega), h1]
  refine those_congr (fun s hs => ?_)
  unfold ofRank
  rw [decide_eq_decide]
  dsimp only
  have h2 := rz_le n es s
  have h3 := rz_le n es (bit es.length - 1)
  omega

/-! ### so many of n -/
theorem uni_bases {n r : Nat} (hn : n ≤ 8) (hr : r ≤ n) : those n (fun s => decide (sz s = r)) = those n (ofRank n (fun s => (min r (sz s) : Nat))) := by
  refine those_congr (fun s hs => ?_)
  unfold ofRank
  rw [decide_eq_decide]
  dsimp only
  rw [sz_full hn]
  omega

end Go.Proofs.Ytffnpokceomncaa
