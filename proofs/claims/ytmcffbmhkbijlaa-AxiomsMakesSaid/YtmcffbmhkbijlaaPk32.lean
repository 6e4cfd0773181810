
/-
  Matroids from flats, plainly: heights are ranks. No program in sight.
  The flats of a matroid, plainly: what rotaref.OfFlats asks of them. No program in sight.
-/
import Derived.Test.YtmcffbmhkbijlaaPk30
import Derived.Test.YtmcffbmhkbijlaaPk17
namespace Go.Proofs.Ytmcffbmhkbijlaa
set_option linter.unusedVariables false

theorem sub_leO {a b : Nat} (h : sub a b) : a ≤ b := by
  have : a ||| b = b := or_sub h
  rw [← this]; exact Nat.left_le_or
/-- the least flat that has a set -/
def hulTo (n : Nat) (l : List Nat) (s : Nat) : Nat → Nat
  | 0 => bit n - 1
  | k + 1 => if s ||| l.getD k 0 = l.getD k 0 then hulTo n l s k &&& l.getD k 0 else hulTo n l s k
def hul (n : Nat) (l : List Nat) (s : Nat) : Nat := hulTo n l s l.length
theorem hulTo_testBit (n : Nat) (l : List Nat) (s i : Nat) : ∀ k, (hulTo n l s k).testBit i = true ↔ i < n ∧ ∀ j, j < k → sub s (l.getD j 0) → (l.getD j 0).testBit i = true := by
  intro k
  induction k with
  | zero => simp only [hulTo, testBit_all, decide_eq_true_eq]; exact ⟨fun h => ⟨h, fun j hj => by omega⟩, fun h => h.1⟩
  | succ k ih =>
    simp only [hulTo]
    by_cases c : s ||| l.getD k 0 = l.getD k 0
    · rw [if_pos c, Nat.testBit_and, Bool.and_eq_true, ih]
      constructor
      · rintro ⟨⟨h1, h2⟩, h3⟩
        refine ⟨h1, fun j hj hs => ?_⟩
        by_cases e : j = k
        · subst e; exact h3
        · exact h2 j (by omega) hs
      · rintro ⟨h1, h2⟩
        exact ⟨⟨h1, fun j hj => h2 j (by omega)⟩, h2 k (by omega) (or_eq_sub.1 c)⟩
    · rw [if_neg c, ih]
      constructor
      · rintro ⟨h1, h2⟩
        refine ⟨h1, fun j hj hs => ?_⟩
        by_cases e : j = k
        · subst e; exact absurd (or_eq_sub.2 hs) c
        · exact h2 j (by omega) hs
      · rintro ⟨h1, h2⟩
        exact ⟨h1, fun j hj => h2 j (by omega)⟩
theorem hul_iff {n : Nat} {l : List Nat} {s i : Nat} : (hul n l s).testBit i = true ↔ i < n ∧ ∀ F, F ∈ l → sub s F → F.testBit i = true := by
  unfold hul
  rw [hulTo_testBit]
  constructor
  · rintro ⟨h1, h2⟩
    refine ⟨h1, fun F hF hs => ?_⟩
    obtain ⟨j, hj, rfl⟩ := mem_getDN.1 hF
    exact h2 j hj hs
  · rintro ⟨h1, h2⟩
    exact ⟨h1, fun j hj hs => h2 _ (mem_getDN.2 ⟨j, hj, rfl⟩) hs⟩
theorem hul_lt (n : Nat) (l : List Nat) (s : Nat) : hul n l s < bit n := lt_bitM (fun i hi => by
  cases e : (hul n l s).testBit i
  · rfl
  · have := (hul_iff.1 e).1; omega)
theorem hulTo_lt (n : Nat) (l : List Nat) (s k : Nat) : hulTo n l s k < bit n := lt_bitM (fun i hi => by
  cases e : (hulTo n l s k).testBit i
  · rfl
  · have := ((hulTo_testBit n l s i k).1 e).1; omega)
theorem hul_sup {n : Nat} {l : List Nat} {s : Nat} (hs : s < bit n) : sub s (hul n l s) := fun i hi => hul_iff.2 ⟨bitM_in hs hi, fun F _ hF => hF i hi⟩
theorem hul_in {n : Nat} {l : List Nat} {s F : Nat} (hF : F ∈ l) (hs : sub s F) : sub (hul n l s) F := fun i hi => (hul_iff.1 hi).2 F hF hs
theorem hul_self {n : Nat} {l : List Nat} {F : Nat} (hF : F ∈ l) (hlt : F < bit n) : hul n l F = F := sub_antisymm (hul_in hF (sub_refl F)) (hul_sup hlt)
theorem hul_mem {n : Nat} {l : List Nat} (hall : bit n - 1 ∈ l) (hI : ∀ a, a ∈ l → ∀ b, b ∈ l → a &&& b ∈ l) (s : Nat) : hul n l s ∈ l := by
  have : ∀ k, k ≤ l.length → hulTo n l s k ∈ l := by
    intro k
    induction k with
    | zero => intro _; exact hall
    | succ k ih =>
      intro hk
      simp only [hulTo]
      split
      · exact hI _ (ih (by omega)) _ (mem_getDN.2 ⟨k, by omega, rfl⟩)
      · exact ih (by omega)
  exact this _ (Nat.le_refl _)
/-- what axioms.OfFlats asks of a set -/
def PF (n : Nat) (l : List Nat) (s : Nat) : Bool := (List.range n).all (fun i => !(s.testBit i && (hul n l (nand s (bit i))).testBit i))
theorem PF_iff {n : Nat} {l : List Nat} {s : Nat} (hs : s < bit n) : PF n l s = true ↔ ∀ i, s.testBit i = true → (hul n l (nand s (bit i))).testBit i = false := by
  unfold PF
  rw [List.all_eq_true]
  constructor
  · intro h i hi
    have := h i (List.mem_range.2 (bitM_in hs hi))
    rw [hi] at this
    simpa using this
  · intro h i hi
    cases e : s.testBit i
    · rfl
    · rw [h i e]; rfl
/-- the greatest of some numbers -/
def mxT (g : Nat → Nat) : Nat → Nat
  | 0 => 0
  | k + 1 => max (mxT g k) (g k)
theorem mxT_ge {g : Nat → Nat} {k i : Nat} (h : i < k) : g i ≤ mxT g k := by
  induction k with
  | zero => omega
  | succ k ih =>
    show _ ≤ max _ _
    by_cases e : i = k
    · subst e; omega
    · have := ih (by omega); omega
theorem mxT_le {g : Nat → Nat} {k M : Nat} (h : ∀ i, i < k → g i ≤ M) : mxT g k ≤ M := by
  induction k with
  | zero => exact Nat.zero_le _
  | succ k ih =>
    have := ih (fun i hi => h i (by omega))
    have := h k (by omega)
    show max _ _ ≤ M
    omega
/-- heights -/
def HtIs (l : List Nat) (A : Nat → Nat) : Prop := ∀ i, i < l.length → A i = mxT (fun j => if l.getD j 0 ||| l.getD i 0 = l.getD i 0 then A j + 1 else 0) i
/-- the height of the least flat with a set -/
def atTo (l : List Nat) (A : Nat → Nat) (h : Nat) : Nat → Nat
  | 0 => 0
  | k + 1 => if l.getD k 0 = h then A k else atTo l A h k
def rkA (n : Nat) (l : List Nat) (A : Nat → Nat) (s : Nat) : Int := ((atTo l A (hul n l s) l.length : Nat) : Int)
/-- what is above a flat, the least of it, and what these have together -/
def abv (l : List Nat) (a : Nat) : List Nat := l.filter (fun x => decide (a ≠ x ∧ a ||| x = x))
def nxt (n : Nat) (l : List Nat) (a : Nat) : List Nat := those n (leastB (abv l a))
def seenT (a : Nat) (N : List Nat) : Nat → Nat
  | 0 => a
  | k + 1 => seenT a N k ||| N.getD k 0
theorem seenT_testBit (a : Nat) (N : List Nat) (i : Nat) : ∀ k, (seenT a N k).testBit i = true ↔ a.testBit i = true ∨ ∃ j, j < k ∧ (N.getD j 0).testBit i = true := by
  intro k
  induction k with
  | zero => simp only [seenT]; exact ⟨.inl, fun h => h.elim id (fun ⟨j, hj, _⟩ => by omega)⟩
  | succ k ih =>
    simp only [seenT]
    rw [Nat.testBit_or, Bool.or_eq_true, ih]
    constructor
    · rintro ((h | ⟨j, hj, h⟩) | h)
      · exact .inl h
      · exact .inr ⟨j, by omega, h⟩
      · exact .inr ⟨k, by omega, h⟩
    · rintro (h | ⟨j, hj, h⟩)
      · exact .inl (.inl h)
      · by_cases e : j = k
        · subst e; exact .inr h
        · exact .inl (.inr ⟨j, by omega, h⟩)
def CovOk (n : Nat) (l : List Nat) (a : Nat) : Prop := (∀ j, j < (nxt n l a).length → (nxt n l a).getD j 0 &&& seenT a (nxt n l a) j = a) ∧ seenT a (nxt n l a) (nxt n l a).length = bit n - 1
/-- what flats must have -/
structure FAx (n : Nat) (l : List Nat) : Prop where
  all : bit n - 1 ∈ l
  inter : ∀ a, a ∈ l → ∀ b, b ∈ l → a &&& b ∈ l
  cov : ∀ a, a ∈ l → CovOk n l a
section
variable {n : Nat} {l : List Nat} (hl : l = those n (memB l))
include hl
theorem fl_lt {c : Nat} (hc : c ∈ l) : c < bit n := by rw [hl] at hc; exact (mem_those.1 hc).1
theorem fl_rise {i j : Nat} (hij : i < j) (hj : j < l.length) : l.getD i 0 < l.getD j 0 := by
  have h1 : j < (those n (memB l)).length := by rw [← hl]; exact hj
  have := those_rise hij h1
  rwa [← hl] at this
theorem fl_inj {i j : Nat} (hi : i < l.length) (hj : j < l.length) (h : l.getD i 0 = l.getD j 0) : i = j := by
  rcases Nat.lt_trichotomy i j with c | c | c
  · have := fl_rise hl c hj; omega
  · exact c
  · have := fl_rise hl c hi; omega
theorem atTo_at (A : Nat → Nat) {i : Nat} (hi : i < l.length) : ∀ k, i < k → k ≤ l.length → atTo l A (l.getD i 0) k = A i := by
  intro k
  induction k with
  | zero => intro h; omega
  | succ k ih =>
    intro h1 h2
    simp only [atTo]
    by_cases e : l.getD k 0 = l.getD i 0
    · rw [if_pos e, fl_inj hl (by omega) hi e]
    · rw [if_neg e]
      exact ih (by by_cases c : i = k; · subst c; exact absurd rfl e
                   · omega) (by omega)
theorem ht_lt {A : Nat → Nat} (hA : HtIs l A) {i j : Nat} (hi : i < l.length) (hj : j < l.length) (hs : sub (l.getD j 0) (l.getD i 0)) (hne : l.getD j 0 ≠ l.getD i 0) : A j < A i := by
  have hji : j < i := by
    rcases Nat.lt_trichotomy j i with c | c | c
    · exact c
    · subst c; exact absurd rfl hne
    · have := fl_rise hl c hj
      have := sub_leO hs
      omega
  have := mxT_ge (g := fun j => if l.getD j 0 ||| l.getD i 0 = l.getD i 0 then A j + 1 else 0) hji
  rw [← hA i hi] at this
  rw [if_pos (or_eq_sub.2 hs)] at this
  omega
theorem rkA_at (A : Nat → Nat) {s i : Nat} (hi : i < l.length) (h : hul n l s = l.getD i 0) : rkA n l A s = A i := by
  unfold rkA
  rw [h, atTo_at hl A hi l.length hi (Nat.le_refl _)]
/-- ranks stand still just if the closure has the element -/
theorem rkA_same {A : Nat → Nat} (hA : HtIs l A) (hall : bit n - 1 ∈ l) (hI : ∀ a, a ∈ l → ∀ b, b ∈ l → a &&& b ∈ l) {s i : Nat} (hs : s < bit n) (hi : i < n) : rkA n l A (s ||| bit i) = rkA n l A s ↔ (hul n l s).testBit i = true := by
  obtain ⟨p, hp, ep⟩ := mem_getDN.1 (hul_mem hall hI s)
  obtain ⟨q, hq, eq⟩ := mem_getDN.1 (hul_mem hall hI (s ||| bit i))
  have hsi := orM_bit hs hi
  rw [rkA_at hl A hp ep.symm, rkA_at hl A hq eq.symm]
  have hsub : sub (hul n l s) (hul n l (s ||| bit i)) := hul_in (hul_mem hall hI _) (sub_trans (sub_orM s _) (hul_sup hsi))
  constructor
  · intro h
    cases e : (hul n l s).testBit i
    · exfalso
      have := ht_lt hl hA hq hp (by rw [ep, eq]; exact hsub) (fun c => by
        rw [ep, eq] at c
        have : (hul n l (s ||| bit i)).testBit i = true := hul_sup hsi i (by rw [or_bit_testBit]; simp)
        rw [← c, e] at this; cases this)
      omega
    · rfl
  · intro h
    have : hul n l (s ||| bit i) = hul n l s := sub_antisymm (hul_in (hul_mem hall hI _) (fun j hj => by
      rw [or_bit_testBit, Bool.or_eq_true, decide_eq_true_eq] at hj
      rcases hj with h1 | h1
      · exact hul_sup hs j h1
      · rw [← h1]; exact h)) hsub
    have : p = q := fl_inj hl hp hq (by rw [ep, eq, this])
    rw [this]
end
/-- a set of which each element adds to the others is independent -/
theorem RkM.adds {n : Nat} {ρ : Nat → Nat} (h : RkM n ρ) {s : Nat} (hs : s < bit n) (ha : ∀ i, s.testBit i = true → ρ (nand s (bit i) ||| bit i) ≠ ρ (nand s (bit i))) : ρ s = sz s := by
  have key : ∀ k, k ≤ n → ρ (upM s k) = sz (upM s k) := by
    intro k
    induction k with
    | zero => intro _; rw [upM_zero, h.zero, sz_zero]
    | succ k ih =>
      intro hk
      have ih' := ih (by omega)
      cases hb : s.testBit k
      · rw [upM_no hb]; exact ih'
      · have hno : (upM s k).testBit k = false := by rw [upM_testBit]; simp
        have h1 := h.step (upM s k) k (upM_lt hs) (by omega)
        have h2 : ρ (upM s k ||| bit k) ≠ ρ (upM s k) := fun e => ha k hb (h.clos (upM s k) _ k (upM_lt hs) (nand_lt_bit _ hs) (by omega) (fun i hi => by
          rw [upM_testBit] at hi
          simp only [Bool.and_eq_true, decide_eq_true_eq] at hi
          rw [nand_testBit_bit, hi.1]
          have : ¬ k = i := by omega
          simp [this]) e)
        rw [upM_yes hb, sz_add (by have := h.n8; omega) hno]
        omega
  have := key n (Nat.le_refl _)
  rwa [upM_all hs] at this
theorem RkM.loses {n : Nat} {ρ : Nat → Nat} (h : RkM n ρ) {s i : Nat} (hs : s < bit n) (hi : s.testBit i = true) (he : ρ s = sz s) : ρ (nand s (bit i) ||| bit i) ≠ ρ (nand s (bit i)) := by
  have h1 := h.ind_sub hs (nand_bit_sub s i) he
  have hin := bitM_in hs hi
  have h2 := sz_less (show i < 8 by have := h.n8; omega) hi
  rw [nand_or_bit hi, h1, he]
  omega
/-- sets that axioms.OfFlats takes are those of their own height -/
theorem PF_PR {n : Nat} {l : List Nat} {A : Nat → Nat} (hn : n ≤ 8) (hl : l = those n (memB l)) (hA : HtIs l A) (hall : bit n - 1 ∈ l) (hI : ∀ a, a ∈ l → ∀ b, b ∈ l → a &&& b ∈ l) (hR : RAx n (rkA n l A)) {s : Nat} (hs : s < bit n) : PF n l s = PR (rkA n l A) s := by
  have hk := hR.rkM hn
  have e1 : ∀ t i, t < bit n → i < n → ((rkA n l A (t ||| bit i)).toNat = (rkA n l A t).toNat ↔ (hul n l t).testBit i = true) := fun t i ht hi => by
    rw [← rkA_same hl hA hall hI ht hi]
    have := hR.nonneg ht
    have := hR.nonneg (orM_bit ht hi)
    omega
  have h0 := hR.nonneg hs
  rw [Bool.eq_iff_iff, PF_iff hs]
  unfold PR
  rw [decide_eq_true_eq]
  constructor
  · intro h
    have := hk.adds hs (fun i hi c => by
      have h1 := (e1 _ i (nand_lt_bit (bit i) hs) (bitM_in hs hi)).1 c
      rw [h i hi] at h1; cases h1)
    change (rkA n l A s).toNat = sz s at this
    omega
  · intro h i hi
    have h2 := hk.loses hs hi (show (rkA n l A s).toNat = sz s by omega)
    cases e : (hul n l (nand s (bit i))).testBit i
    · rfl
    · exact absurd ((e1 _ i (nand_lt_bit (bit i) hs) (bitM_in hs hi)).2 e) h2
theorem flat_same2 {n : Nat} {l : List Nat} {A : Nat → Nat} (hn : n ≤ 8) (hl : l = those n (memB l)) (hA : HtIs l A) (hF : FAx n l) (hR : RAx n (rkA n l A)) : big n (PF n l) = big n (PR (rkA n l A)) := big_congr (fun s hs => PF_PR hn hl hA hF.all hF.inter hR hs)
theorem flat_to {n : Nat} {l : List Nat} {A : Nat → Nat} (hn : n ≤ 8) (hl : l = those n (memB l)) (hA : HtIs l A) (hF : FAx n l) (hR : RAx n (rkA n l A)) : (∃ r, MatL n (big n (PF n l)) r) ∧ those n (flatP n (big n (PF n l))) = l := by
  rw [flat_same2 hn hl hA hF hR]
  refine ⟨hR.mat hn, ?_⟩
  conv => rhs; rw [hl]
  refine those_mem_eq (fun s hs => ?_)
  rw [flatP_iff, memB_iff]
  have hk : ∀ i, i < n → (rk (big n (PR (rkA n l A))) (s ||| bit i) = rk (big n (PR (rkA n l A))) s ↔ (hul n l s).testBit i = true) := fun i hi => by
    rw [← rkA_same hl hA hF.all hF.inter hs hi, ← hR.rk hn hs, ← hR.rk hn (orM_bit hs hi)]
    omega
  constructor
  · intro h
    have : hul n l s = s := sub_antisymm (fun i hi => by
      have hin := bitM_in (hul_lt n l s) hi
      cases e : s.testBit i
      · exact absurd ((hk i hin).2 hi) (h i hin e)
      · rfl) (hul_sup hs)
    rw [← this]
    exact hul_mem hF.all hF.inter s
  · intro hm i hi hsi c
    have := (hk i hi).1 c
    rw [hul_self hm hs, hsi] at this
    cases this
end Go.Proofs.Ytmcffbmhkbijlaa

namespace Go.Proofs.Ytmcffbmhkbijlaa
set_option linter.unusedVariables false

theorem mem_abv {l : List Nat} {a x : Nat} : x ∈ abv l a ↔ x ∈ l ∧ a ≠ x ∧ sub a x := by
  unfold abv
  rw [List.mem_filter, decide_eq_true_eq, or_eq_sub]
theorem mem_nxt {n : Nat} {l : List Nat} {a x : Nat} : x ∈ nxt n l a ↔ x < bit n ∧ x ∈ abv l a ∧ ∀ y, y ∈ abv l a → sub y x → y = x := by
  unfold nxt
  rw [mem_those, leastB_iff]
section
variable {n r : Nat} {L l : List Nat} (h : MatL n L r) (hl : l = those n (memB l)) (he : those n (flatP n L) = l)
include h hl he
theorem fl_mem {s : Nat} (hs : s < bit n) : s ∈ l ↔ Flat n L s := by
  have _ := h
  have _ := hl
  rw [← flatP_iff]
  have : flatP n L s = true ↔ s ∈ those n (flatP n L) := by rw [mem_those]; exact ⟨fun x => ⟨hs, x⟩, fun x => x.2⟩
  rw [this, he]
theorem fl_clo {s : Nat} (hs : s < bit n) : clo n L s ∈ l := (fl_mem h hl he (clo_lt L hs)).2 (clo_flat h.n8 h.ne h.fam h.exch hs)
theorem fl_hul {s : Nat} (hs : s < bit n) : hul n l s = clo n L s := sub_antisymm (hul_in (fl_clo h hl he hs) (clo_sup n L s)) (fun i hi => hul_iff.2 ⟨bitM_in (clo_lt L hs) hi, fun F hF hsF => clo_min h.n8 h.ne h.fam h.exch hs (fl_lt hl hF) ((fl_mem h hl he (fl_lt hl hF)).1 hF) hsF i hi⟩)
theorem fl_less {a b : Nat} (ha : a ∈ l) (hb : b ∈ l) (hs : sub a b) (hne : a ≠ b) : rk L a + 1 ≤ rk L b := by
  have ha' := fl_lt hl ha
  have hb' := fl_lt hl hb
  have hba : ¬ sub b a := fun c => hne (sub_antisymm hs c)
  obtain ⟨e, e1, e2⟩ := exists_diff hba
  have hen := bitM_in hb' e1
  have h1 := (fl_mem h hl he ha').1 ha e hen e2
  have h2 := (h.rkM.step a e ha' hen).1
  have h3 : rk L (a ||| bit e) ≤ rk L b := rk_mono h.ne (fun i hi => by
    rw [or_bit_testBit, Bool.or_eq_true, decide_eq_true_eq] at hi
    rcases hi with h4 | h4
    · exact hs i h4
    · rw [← h4]; exact e1)
  omega
theorem fl_ht {A : Nat → Nat} (hA : HtIs l A) : ∀ i, i < l.length → A i = rk L (l.getD i 0) := by
  intro i
  induction i using Nat.strongRecOn with
  | ind i ih =>
  intro hi
  have hFm : l.getD i 0 ∈ l := mem_getDN.2 ⟨i, hi, rfl⟩
  have hF := fl_lt hl hFm
  rw [hA i hi]
  apply Nat.le_antisymm
  · refine mxT_le (fun j hj => ?_)
    split
    · rename_i c
      rw [ih j hj (by omega)]
      exact fl_less h hl he (mem_getDN.2 ⟨j, by omega, rfl⟩) hFm (or_eq_sub.1 c) (fun e => by have := fl_rise hl hj hi; omega)
    · exact Nat.zero_le _
  · by_cases h0 : rk L (l.getD i 0) = 0
    · omega
    obtain ⟨b, hb, eb⟩ := rk_at h.ne (l.getD i 0)
    generalize hG : l.getD i 0 = F at *
    have hI : F &&& b < bit n := and_lt_bit b hF
    have hInd : Ind L (F &&& b) := ⟨b, hb, sub_and_right F b⟩
    have hne : ¬ sub (F &&& b) 0 := fun c => by have := sz_mono c; rw [sz_zero] at this; omega
    obtain ⟨x, x1, _⟩ := exists_diff hne
    have hxn := bitM_in hI x1
    have hz := sz_less (show x < 8 by have := h.n8; omega) x1
    have hX := nand_lt_bit (bit x) hI
    have hr : rk L (clo n L (nand (F &&& b) (bit x))) + 1 = rk L F := by
      rw [rk_clo h.n8 h.ne h.fam h.exch hX, rk_self (hInd.down (nand_bit_sub _ _))]
      omega
    obtain ⟨j, hj, ej⟩ := mem_getDN.1 (fl_clo h hl he hX)
    have hsub : sub (clo n L (nand (F &&& b) (bit x))) F := clo_min h.n8 h.ne h.fam h.exch hX hF ((fl_mem h hl he hF).1 hFm) (sub_trans (nand_bit_sub _ _) (sub_and_left F b))
    have hji : j < i := by
      rcases Nat.lt_trichotomy j i with c | c | c
      · exact c
      · subst c; rw [hG] at ej; rw [← ej] at hr; omega
      · have h5 := fl_rise hl c hj
        have := sub_leO hsub
        rw [ej, hG] at h5; omega
    have h6 := mxT_ge (g := fun j => if l.getD j 0 ||| F = F then A j + 1 else 0) hji
    have h7 : (if l.getD j 0 ||| F = F then A j + 1 else 0) = A j + 1 := if_pos (or_eq_sub.2 (by rw [ej]; exact hsub))
    have h8 := ih j hji hj
    rw [ej] at h8
    have h6' : (if l.getD j 0 ||| F = F then A j + 1 else 0) ≤ mxT (fun j => if l.getD j 0 ||| F = F then A j + 1 else 0) i := h6
    rw [h7] at h6'
    omega
theorem fl_rkA {A : Nat → Nat} (hA : HtIs l A) {s : Nat} (hs : s < bit n) : ((rk L s : Nat) : Int) = rkA n l A s := by
  obtain ⟨p, hp, ep⟩ := mem_getDN.1 (fl_clo h hl he hs)
  rw [rkA_at hl A hp (by rw [fl_hul h hl he hs, ep]), fl_ht h hl he hA p hp, ep, rk_clo h.n8 h.ne h.fam h.exch hs]
theorem fl_inter {a b : Nat} (ha : a ∈ l) (hb : b ∈ l) : a &&& b ∈ l := by
  have ha' := fl_lt hl ha
  have hb' := fl_lt hl hb
  have hI : a &&& b < bit n := and_lt_bit b ha'
  refine (fl_mem h hl he hI).2 (fun i hi hn c => ?_)
  rw [Nat.testBit_and] at hn
  cases e : a.testBit i
  · exact (fl_mem h hl he ha').1 ha i hi e (h.rkM.clos _ a i hI ha' hi (sub_and_left a b) c)
  · have e2 : b.testBit i = false := by rw [e] at hn; simpa using hn
    exact (fl_mem h hl he hb').1 hb i hi e2 (h.rkM.clos _ b i hI hb' hi (sub_and_right a b) c)
theorem fl_cov {a : Nat} (ha : a ∈ l) : CovOk n l a := by
  have ha' := fl_lt hl ha
  have hN : ∀ k, k < (nxt n l a).length → (nxt n l a).getD k 0 ∈ nxt n l a := fun k hk => by simp [hk]
  have hinj : ∀ j k, k < j → j < (nxt n l a).length → (nxt n l a).getD k 0 ≠ (nxt n l a).getD j 0 := fun j k hkj hj e => by
    have : (nxt n l a).getD k 0 < (nxt n l a).getD j 0 := by unfold nxt at hj ⊢; exact those_rise hkj hj
    omega
  constructor
  · intro j hj
    obtain ⟨j1, j2, j3⟩ := mem_nxt.1 (hN j hj)
    obtain ⟨j4, j5, j6⟩ := mem_abv.1 j2
    refine Nat.eq_of_testBit_eq (fun i => ?_)
    rw [Nat.testBit_and, Bool.eq_iff_iff, Bool.and_eq_true, seenT_testBit]
    constructor
    · rintro ⟨b1, b2 | ⟨k, hk, b2⟩⟩
      · exact b2
      · obtain ⟨k1, k2, k3⟩ := mem_nxt.1 (hN k (by omega))
        obtain ⟨k4, k5, k6⟩ := mem_abv.1 k2
        by_cases hz : a = (nxt n l a).getD j 0 &&& (nxt n l a).getD k 0
        · rw [hz, Nat.testBit_and, b1, b2]; rfl
        · exfalso
          have hzm : (nxt n l a).getD j 0 &&& (nxt n l a).getD k 0 ∈ abv l a := mem_abv.2 ⟨fl_inter h hl he j4 k4, hz, fun q hq => by rw [Nat.testBit_and, j6 q hq, k6 q hq]; rfl⟩
          have h1 := j3 _ hzm (sub_and_left _ _)
          have h2 : sub ((nxt n l a).getD j 0) ((nxt n l a).getD k 0) := by
            rw [← h1]; exact sub_and_right _ _
          exact hinj j k hk hj (k3 _ j2 h2).symm
    · intro b1
      exact ⟨j6 i b1, .inl b1⟩
  · refine Nat.eq_of_testBit_eq (fun i => ?_)
    rw [Bool.eq_iff_iff, seenT_testBit, testBit_all, decide_eq_true_eq]
    constructor
    · rintro (b1 | ⟨k, hk, b1⟩)
      · exact bitM_in ha' b1
      · exact bitM_in (mem_nxt.1 (hN k hk)).1 b1
    · intro hi
      cases e : a.testBit i
      · right
        have hai := orM_bit ha' hi
        have hX := fl_clo h hl he hai
        have hXl := clo_lt L hai
        have hXi : (clo n L (a ||| bit i)).testBit i = true := clo_sup n L _ i (by rw [or_bit_testBit]; simp)
        have hmem : clo n L (a ||| bit i) ∈ nxt n l a := mem_nxt.2 ⟨hXl, mem_abv.2 ⟨hX, (fun c => by rw [← c, e] at hXi; cases hXi), sub_trans (sub_orM a _) (clo_sup n L _)⟩, fun y hy hyX => by
          obtain ⟨y1, y2, y3⟩ := mem_abv.1 hy
          have hy' := fl_lt hl y1
          have hya : ¬ sub y a := fun c => y2 (sub_antisymm y3 c)
          obtain ⟨g, g1, g2⟩ := exists_diff hya
          have hgn := bitM_in hy' g1
          have h1 : rk L (a ||| bit i ||| bit g) = rk L (a ||| bit i) := by
            rcases (cloTo_testBit L (a ||| bit i) n g).1 (hyX g g1) with h2 | h2
            · rw [or_same h2]
            · exact h2.2
          have h2 := (fl_mem h hl he ha').1 ha g hgn g2
          have h3 := h.rkM.exch ha' hi hgn h1 h2
          have h4 : sub (a ||| bit g) y := fun q hq => by
            rw [or_bit_testBit, Bool.or_eq_true, decide_eq_true_eq] at hq
            rcases hq with h5 | h5
            · exact y3 q h5
            · rw [← h5]; exact g1
          have h5 : y.testBit i = true := by
            have h6 := clo_min h.n8 h.ne h.fam h.exch (orM_bit ha' hgn) hy' ((fl_mem h hl he hy').1 y1) h4
            exact h6 i ((cloTo_testBit L (a ||| bit g) n i).2 (.inr ⟨hi, h3⟩))
          refine sub_antisymm hyX (clo_min h.n8 h.ne h.fam h.exch hai hy' ((fl_mem h hl he hy').1 y1) (fun q hq => ?_))
          rw [or_bit_testBit, Bool.or_eq_true, decide_eq_true_eq] at hq
          rcases hq with h7 | h7
          · exact y3 q h7
          · rw [← h7]; exact h5⟩
        obtain ⟨k, hk, ek⟩ := mem_getDN.1 hmem
        exact ⟨k, hk, by rw [ek]; exact hXi⟩
      · exact .inl rfl
theorem fl_ax : FAx n l where
  all := (fl_mem h hl he (all_lt n)).2 (fun i hi c => by rw [testBit_all] at c; simp [hi] at c)
  inter := fun a ha b hb => fl_inter h hl he ha hb
  cov := fun a ha => fl_cov h hl he ha
end
/-- THE LAW OF FLATS -/
theorem flat_law {n : Nat} {l : List Nat} {A : Nat → Nat} (hn : n ≤ 8) (hl : l = those n (memB l)) (hA : HtIs l A) : (FAx n l ∧ RAx n (rkA n l A)) ↔ (∃ r, MatL n (big n (PF n l)) r) ∧ those n (flatP n (big n (PF n l))) = l := by
  constructor
  · rintro ⟨h1, h2⟩
    exact flat_to hn hl hA h1 h2
  · rintro ⟨⟨r, hM⟩, he⟩
    exact ⟨fl_ax hM hl he, hM.rax (fun s hs => fl_rkA hM hl he hA hs)⟩
end Go.Proofs.Ytmcffbmhkbijlaa
