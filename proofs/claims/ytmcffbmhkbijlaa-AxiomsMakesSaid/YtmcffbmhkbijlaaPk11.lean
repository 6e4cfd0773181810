
/-
  Orders of elements, plainly: images of sets, sums that orders do not change, searches that prune. No program in sight.
  rotaref.Spread, minors.pressed.
  rotaref.Image, slices.Equal.
-/
import Derived.Test.YtmcffbmhkbijlaaPk07
import Derived.Test.YtmcffbmhkbijlaaPk10
import Derived.Test.YtmcffbmhkbijlaaPk02
namespace Go.Proofs.Ytmcffbmhkbijlaa
set_option linter.unusedVariables false

/-! ### one for one -/
theorem isum_one1 {f : Nat → Int} {n : Nat} (h0 : ∀ i, i < n → f i = 0 ∨ f i = 1) (h1 : ∀ i j, i < n → j < n → f i = 1 → f j = 1 → i = j) : 0 ≤ isum f n ∧ isum f n ≤ 1 := by
  induction n with
  | zero => simp [isum]
  | succ n ih =>
    have := ih (fun i hi => h0 i (by omega)) (fun i j hi hj => h1 i j (by omega) (by omega))
    simp only [isum]
    rcases h0 n (by omega) with h | h
    · omega
    · have hz : isum f n = 0 := isum_zero (fun i hi => by
        rcases h0 i (by omega) with g | g
        · exact g
        · have := h1 i n (by omega) (by omega) g h; omega)
      omega
theorem isum_le_all {f g : Nat → Int} {n : Nat} (h : ∀ i, i < n → f i ≤ g i) : isum f n ≤ isum g n := by
  induction n with
  | zero => exact Int.le_refl _
  | succ n ih =>
    have h1 := ih (fun i hi => h i (by omega))
    have h2 := h n (by omega)
    simp only [isum]; omega
theorem isum_eq_all {f g : Nat → Int} {n : Nat} (h : ∀ i, i < n → f i ≤ g i) (he : isum g n ≤ isum f n) : ∀ i, i < n → f i = g i := by
  induction n with
  | zero => intro i hi; omega
  | succ n ih =>
    intro i hi
    have h1 := isum_le_all (n := n) (fun i hi => h i (by omega))
    have h2 := h n (by omega)
    simp only [isum] at he
    by_cases e : i = n
    · subst e; omega
    · exact ih (fun i hi => h i (by omega)) (by omega) i (by omega)
theorem isum_const (c : Int) (n : Nat) : isum (fun _ => c) n = n * c := by
  induction n with
  | zero => simp [isum]
  | succ n ih => simp only [isum]; rw [ih, Int.natCast_add, Int.add_mul]; simp
/-- a step that hits no number twice hits each -/
theorem onto_of_inj {N : Nat} {σ : Nat → Nat} (hσ : ∀ i, i < N → σ i < N) (inj : ∀ i j, i < N → j < N → σ i = σ j → i = j) {j : Nat} (hj : j < N) : ∃ i, i < N ∧ σ i = j := by
  have hc : ∀ j, j < N → isum (fun i => if j = σ i then (1 : Int) else 0) N ≤ 1 := fun j _ => (isum_one1 (fun i _ => by split <;> simp) (fun a b ha hb h1 h2 => by
    have e1 : j = σ a := Classical.byContradiction fun c => by rw [if_neg c] at h1; cases h1
    have e2 : j = σ b := Classical.byContradiction fun c => by rw [if_neg c] at h2; cases h2
    exact inj a b ha hb (e1.symm.trans e2))).2
  have hs : isum (fun _ => (1 : Int)) N ≤ isum (fun j => isum (fun i => if j = σ i then (1 : Int) else 0) N) N := by
    rw [isum_swap]
    refine isum_le_all (fun i hi => ?_)
    exact Int.le_of_eq (isum_pick (g := fun _ => (1 : Int)) (hσ i hi)).symm
  have h1 := isum_eq_all hc hs j hj
  apply Classical.byContradiction
  intro h
  have h0 : isum (fun i => if j = σ i then (1 : Int) else 0) N = 0 := isum_zero (fun i hi => if_neg (fun e => h ⟨i, hi, e.symm⟩))
  rw [h0] at h1
  cases h1
/-- a sum, taken in another order -/
theorem isum_perm {N : Nat} {σ : Nat → Nat} (hσ : ∀ i, i < N → σ i < N) (inj : ∀ i j, i < N → j < N → σ i = σ j → i = j) (f : Nat → Int) : isum (fun i => f (σ i)) N = isum f N := by
  have e1 : isum (fun i => f (σ i)) N = isum (fun i => isum (fun j => if j = σ i then f j else 0) N) N := isum_congr (fun i hi => (isum_pick (g := f) (hσ i hi)).symm)
  rw [e1, isum_swap]
  refine isum_congr (fun j hj => ?_)
  obtain ⟨i0, hi0, e0⟩ := onto_of_inj hσ inj hj
  rw [isum_congr (g := fun i => if i = i0 then f j else 0) (fun i hi => by
    by_cases c : i = i0
    · rw [if_pos c, if_pos (by rw [c, e0])]
    · rw [if_neg c, if_neg (fun e => c (inj i i0 hi hi0 (by rw [← e, e0])))])]
  exact isum_pick (g := fun _ => f j) hi0

/-! ### images -/
def imgTo (q : List Nat) (s : Nat) : Nat → Nat
  | 0 => 0
  | k + 1 => if s.testBit k = true then imgTo q s k ||| bit (q.getD k 0) else imgTo q s k
def img (q : List Nat) (s : Nat) : Nat := imgTo q s q.length
theorem imgTo_testBit (q : List Nat) (s : Nat) (j : Nat) : ∀ k, (imgTo q s k).testBit j = true ↔ ∃ i, i < k ∧ s.testBit i = true ∧ q.getD i 0 = j := by
  intro k
  induction k with
  | zero => simp [imgTo]
  | succ k ih =>
    unfold imgTo
    by_cases c : s.testBit k = true
    · rw [if_pos c, or_bit_testBit, Bool.or_eq_true, ih, decide_eq_true_eq]
      constructor
      · rintro (⟨i, h1, h2, h3⟩ | h)
        · exact ⟨i, by omega, h2, h3⟩
        · exact ⟨k, by omega, c, h⟩
      · rintro ⟨i, h1, h2, h3⟩
        by_cases e : i = k
        · subst e; exact .inr h3
        · exact .inl ⟨i, by omega, h2, h3⟩
    · rw [if_neg c, ih]
      constructor
      · rintro ⟨i, h1, h2⟩; exact ⟨i, by omega, h2⟩
      · rintro ⟨i, h1, h2, h3⟩
        by_cases e : i = k
        · subst e; exact absurd h2 c
        · exact ⟨i, by omega, h2, h3⟩
theorem img_testBit (q : List Nat) (s j : Nat) : (img q s).testBit j = true ↔ ∃ i, i < q.length ∧ s.testBit i = true ∧ q.getD i 0 = j := imgTo_testBit q s j _
theorem getD_snocP_lt {p : List Nat} {k i : Nat} (h : i < p.length) : (p ++ [k]).getD i 0 = p.getD i 0 := by
  rw [List.getD_eq_getElem?_getD, List.getD_eq_getElem?_getD, List.getElem?_append_left h]
theorem getD_snocP_eq (p : List Nat) (k : Nat) : (p ++ [k]).getD p.length 0 = k := by
  rw [List.getD_eq_getElem?_getD, List.getElem?_append_right (Nat.le_refl _)]; simp
theorem imgTo_lt {q : List Nat} {n : Nat} (s : Nat) {k : Nat} (h : ∀ i, i < k → q.getD i 0 < n) : imgTo q s k < bit n := by
  induction k with
  | zero => exact Nat.two_pow_pos n
  | succ k ih =>
    unfold imgTo
    have := ih (fun i hi => h i (by omega))
    split
    · exact or_lt_bit this (bit_lt_bit (h k (by omega)))
    · exact this

/-- an order of n elements -/
structure Pm (n : Nat) (q : List Nat) : Prop where
  len : q.length = n
  lt : ∀ i, i < n → q.getD i 0 < n
  inj : ∀ i j, i < n → j < n → q.getD i 0 = q.getD j 0 → i = j
namespace Pm
variable {n : Nat} {q : List Nat}
theorem onto (h : Pm n q) {j : Nat} (hj : j < n) : ∃ i, i < n ∧ q.getD i 0 = j := onto_of_inj (σ := fun i => q.getD i 0) h.lt h.inj hj
theorem img_lt (h : Pm n q) (s : Nat) : img q s < bit n := imgTo_lt s (fun i hi => h.lt i (by rw [h.len] at hi; exact hi))
theorem img_at (h : Pm n q) (s : Nat) {i : Nat} (hi : i < n) : (img q s).testBit (q.getD i 0) = s.testBit i := by
  rw [Bool.eq_iff_iff, img_testBit, h.len]
  constructor
  · rintro ⟨j, h1, h2, h3⟩
    have := h.inj j i h1 hi h3
    subst this; exact h2
  · intro hs; exact ⟨i, hi, hs, rfl⟩
theorem ext (h : Pm n q) {a b : Nat} (ha : a < bit n) (hb : b < bit n) (he : ∀ i, i < n → a.testBit (q.getD i 0) = b.testBit (q.getD i 0)) : a = b := by
  apply Nat.eq_of_testBit_eq
  intro j
  by_cases hj : j < n
  · obtain ⟨i, hi, e⟩ := h.onto hj
    rw [← e]; exact he i hi
  · rw [bit_hi ha (by omega), bit_hi hb (by omega)]
theorem img_inj (h : Pm n q) {s t : Nat} (hs : s < bit n) (ht : t < bit n) (he : img q s = img q t) : s = t := by
  apply Nat.eq_of_testBit_eq
  intro i
  by_cases hi : i < n
  · rw [← h.img_at s hi, ← h.img_at t hi, he]
  · rw [bit_hi hs (by omega), bit_hi ht (by omega)]
theorem img_onto (h : Pm n q) {t : Nat} (ht : t < bit n) : ∃ s, s < bit n ∧ img q s = t :=
  onto_of_inj (σ := img q) (fun s _ => h.img_lt s) (fun s t hs ht e => h.img_inj hs ht e) ht
theorem img_and (h : Pm n q) (s t : Nat) : img q (s &&& t) = img q s &&& img q t := by
  refine h.ext (h.img_lt _) (Nat.lt_of_le_of_lt Nat.and_le_left (h.img_lt s)) (fun i hi => ?_)
  rw [Nat.testBit_and, h.img_at _ hi, h.img_at _ hi, h.img_at _ hi, Nat.testBit_and]
theorem img_or (h : Pm n q) (s t : Nat) : img q (s ||| t) = img q s ||| img q t := by
  refine h.ext (h.img_lt _) (or_lt_bit (h.img_lt s) (h.img_lt t)) (fun i hi => ?_)
  rw [Nat.testBit_or, h.img_at _ hi, h.img_at _ hi, h.img_at _ hi, Nat.testBit_or]
theorem img_nand (h : Pm n q) (s t : Nat) : img q (nand s t) = nand (img q s) (img q t) := by
  refine h.ext (h.img_lt _) (nand_lt _ _ _ (h.img_lt s)) (fun i hi => ?_)
  rw [nand_testBit, h.img_at _ hi, h.img_at _ hi, h.img_at _ hi, nand_testBit]
theorem img_bit (h : Pm n q) {i : Nat} (hi : i < n) : img q (bit i) = bit (q.getD i 0) := by
  refine h.ext (h.img_lt _) (bit_lt_bit (h.lt i hi)) (fun j hj => ?_)
  rw [h.img_at _ hj, testBit_bit, testBit_bit]
  by_cases e : i = j
  · subst e; simp
  · have : ¬ q.getD i 0 = q.getD j 0 := fun c => e (h.inj i j hi hj c)
    rw [decide_eq_false e, decide_eq_false this]
theorem img_all (h : Pm n q) : img q (bit n - 1) = bit n - 1 := by
  refine h.ext (h.img_lt _) (all_lt n) (fun i hi => ?_)
  rw [h.img_at _ hi, testBit_all, testBit_all, decide_eq_true hi, decide_eq_true (h.lt i hi)]
theorem img_zero (h : Pm n q) : img q 0 = 0 := by
  refine h.ext (h.img_lt _) (Nat.two_pow_pos n) (fun i hi => ?_)
  rw [h.img_at _ hi, Nat.zero_testBit, Nat.zero_testBit]
theorem img_sub (h : Pm n q) {s t : Nat} (hst : sub s t) : sub (img q s) (img q t) := fun j hj => by
  obtain ⟨i, h1, h2, h3⟩ := (img_testBit q s j).1 hj
  exact (img_testBit q t j).2 ⟨i, h1, hst i h2, h3⟩
theorem sub_img (h : Pm n q) {s t : Nat} (hs : s < bit n) (hst : sub (img q s) (img q t)) : sub s t := fun i hi => by
  have hin : i < n := by
    by_cases c : i < n
    · exact c
    · rw [bit_hi hs (by omega)] at hi; cases hi
  rw [← h.img_at t hin]
  exact hst _ (by rw [h.img_at s hin]; exact hi)
end Pm
theorem sz_isumS {n s : Nat} (hn : n ≤ 8) (hs : s < bit n) : (sz s : Int) = isum (fun v => if s.testBit v = true then (1 : Int) else 0) n := by
  have h1 : ∀ k, ((elemsTo s k).length : Int) = isum (fun v => if s.testBit v = true then (1 : Int) else 0) k := by
    intro k
    induction k with
    | zero => rfl
    | succ k ih =>
      rw [elemsTo_step]
      simp only [isum]
      by_cases c : s.testBit k = true
      · rw [if_pos c, if_pos c, List.length_append, ← ih]; simp
      · rw [if_neg c, if_neg c, ih]; omega
  have h2 := h1 8
  rw [isum_tail (n := n) (fun j hj _ => by rw [bit_hi hs hj]; rfl) hn] at h2
  exact h2
theorem Pm.img_sz {n : Nat} {q : List Nat} (h : Pm n q) (hn : n ≤ 8) {s : Nat} (hs : s < bit n) : sz (img q s) = sz s := by
  have h1 := sz_isumS hn (h.img_lt s)
  have h2 := sz_isumS hn hs
  rw [← isum_perm (σ := fun i => q.getD i 0) h.lt h.inj] at h1
  rw [isum_congr (g := fun v => if s.testBit v = true then (1 : Int) else 0) (fun i hi => by rw [h.img_at s hi])] at h1
  omega

/-! ### searches -/
def srch (n : Nat) (ok : List Nat → Nat → Bool) (fin : List Nat → Bool) : Nat → List Nat → List (List Nat)
  | 0, p => if fin p = true then [p] else []
  | d + 1, p => (List.range n).flatMap (fun k => if p.contains k = false ∧ ok p k = true then srch n ok fin d (p ++ [k]) else [])
/-- what a search has found when it has tried the first K -/
def srchTo (n : Nat) (ok : List Nat → Nat → Bool) (fin : List Nat → Bool) (d : Nat) (p : List Nat) : Nat → List (List Nat)
  | 0 => []
  | K + 1 => srchTo n ok fin d p K ++ (if p.contains K = false ∧ ok p K = true then srch n ok fin d (p ++ [K]) else [])
theorem srchTo_all (n : Nat) (ok : List Nat → Nat → Bool) (fin : List Nat → Bool) (d : Nat) (p : List Nat) : srchTo n ok fin d p n = srch n ok fin (d + 1) p := by
  have h : ∀ K, srchTo n ok fin d p K = (List.range K).flatMap (fun k => if p.contains k = false ∧ ok p k = true then srch n ok fin d (p ++ [k]) else []) := by
    intro K
    induction K with
    | zero => rfl
    | succ K ih => rw [srchTo, ih, List.range_succ, List.flatMap_append]; simp
  exact h n
/-- each step of a list, from the m-th on, and its end -/
def GoodS (ok : List Nat → Nat → Bool) (fin : List Nat → Bool) (m : Nat) (q : List Nat) : Prop := (∀ j, m ≤ j → j < q.length → ok (q.take j) (q.getD j 0) = true) ∧ fin q = true
theorem take_pre {p q : List Nat} (h : p <+: q) : q.take p.length = p := by
  obtain ⟨t, rfl⟩ := h
  simp
theorem pre_at {p q : List Nat} {k : Nat} (h : (p ++ [k]) <+: q) : q.getD p.length 0 = k ∧ p.length < q.length := by
  obtain ⟨t, rfl⟩ := h
  constructor
  · rw [List.getD_eq_getElem?_getD]
    simp
  · simp
theorem GoodS.step {ok : List Nat → Nat → Bool} {fin : List Nat → Bool} {p q : List Nat} {k : Nat} (h : (p ++ [k]) <+: q) : GoodS ok fin p.length q ↔ ok p k = true ∧ GoodS ok fin (p ++ [k]).length q := by
  obtain ⟨h1, h2⟩ := pre_at h
  have h3 : q.take p.length = p := take_pre (List.IsPrefix.trans (List.prefix_append p [k]) h)
  have hl : (p ++ [k]).length = p.length + 1 := by simp
  rw [hl]
  constructor
  · rintro ⟨g, f⟩
    refine ⟨?_, fun j hj hq => g j (by omega) hq, f⟩
    have := g p.length (Nat.le_refl _) h2
    rwa [h3, h1] at this
  · rintro ⟨g0, g, f⟩
    refine ⟨fun j hj hq => ?_, f⟩
    by_cases e : j = p.length
    · subst e; rw [h3, h1]; exact g0
    · exact g j (by omega) hq
/-- a row of different numbers below n -/
structure Pre (n : Nat) (p : List Nat) : Prop where
  lt : ∀ i, i < p.length → p.getD i 0 < n
  inj : ∀ i j, i < p.length → j < p.length → p.getD i 0 = p.getD j 0 → i = j
theorem Pre.nil (n : Nat) : Pre n [] := ⟨fun i h => by simp at h, fun i j h => by simp at h⟩
theorem mem_getDN {l : List Nat} {x : Nat} : x ∈ l ↔ ∃ j, j < l.length ∧ l.getD j 0 = x := by
  constructor
  · intro h
    obtain ⟨i, hi, e⟩ := List.getElem_of_mem h
    exact ⟨i, hi, by simp [hi, e]⟩
  · rintro ⟨j, hj, rfl⟩
    simp [hj]
theorem Pre.snoc {n k : Nat} {p : List Nat} (h : Pre n p) (hk : k < n) (hc : p.contains k = false) : Pre n (p ++ [k]) := by
  have hc' : ¬ k ∈ p := by
    intro hm
    rw [List.contains_iff_mem.2 hm] at hc
    cases hc
  refine ⟨fun i hi => ?_, fun i j hi hj e => ?_⟩
  · by_cases c : i < p.length
    · rw [getD_snocP_lt c]; exact h.lt i c
    · have : i = p.length := by simp at hi; omega
      subst this; rw [getD_snocP_eq]; exact hk
  · simp at hi hj
    by_cases c : i < p.length <;> by_cases d : j < p.length
    · rw [getD_snocP_lt c, getD_snocP_lt d] at e; exact h.inj i j c d e
    · have : j = p.length := by omega
      subst this
      rw [getD_snocP_lt c, getD_snocP_eq] at e
      exact absurd (mem_getDN.2 ⟨i, c, e⟩) hc'
    · have : i = p.length := by omega
      subst this
      rw [getD_snocP_lt d, getD_snocP_eq] at e
      exact absurd (mem_getDN.2 ⟨j, d, e.symm⟩) hc'
    · omega
theorem Pre.pm {n : Nat} {q : List Nat} (h : Pre n q) (hl : q.length = n) : Pm n q := ⟨hl, fun i hi => h.lt i (by omega), fun i j hi hj e => h.inj i j (by omega) (by omega) e⟩
/-- what a search finds -/
theorem mem_srch {n : Nat} {ok : List Nat → Nat → Bool} {fin : List Nat → Bool} : ∀ d p q, Pre n p → (q ∈ srch n ok fin d p ↔ p <+: q ∧ q.length = p.length + d ∧ Pre n q ∧ GoodS ok fin p.length q) := by
  intro d
  induction d with
  | zero =>
    intro p q hp
    unfold srch
    constructor
    · intro h
      split at h
      case isTrue c =>
        have e : q = p := by simpa using h
        subst e
        exact ⟨List.prefix_refl q, rfl, hp, fun j hj hq => by omega, c⟩
      case isFalse c => simp at h
    · rintro ⟨h1, h2, h3, h4⟩
      have e : p = q := h1.eq_of_length (by omega)
      subst e
      rw [if_pos h4.2]; simp
  | succ d ih =>
    intro p q hp
    unfold srch
    rw [List.mem_flatMap]
    constructor
    · rintro ⟨k, hk, h⟩
      rw [List.mem_range] at hk
      split at h
      case isTrue c =>
        obtain ⟨g1, g2, g3, g4⟩ := (ih (p ++ [k]) q (hp.snoc hk c.1)).1 h
        have hl : (p ++ [k]).length = p.length + 1 := by simp
        exact ⟨List.IsPrefix.trans (List.prefix_append p [k]) g1, by omega, g3, (GoodS.step g1).2 ⟨c.2, g4⟩⟩
      case isFalse c => simp at h
    · rintro ⟨h1, h2, h3, h4⟩
      have hlt : p.length < q.length := by omega
      have hpk : (p ++ [q.getD p.length 0]) <+: q := by
        obtain ⟨t, rfl⟩ := h1
        cases t with
        | nil => simp at hlt
        | cons x t =>
          refine ⟨t, ?_⟩
          have : (p ++ x :: t).getD p.length 0 = x := by rw [List.getD_eq_getElem?_getD]; simp
          rw [this]; simp
      have hc : p.contains (q.getD p.length 0) = false := by
        apply Bool.eq_false_iff.2
        intro c
        obtain ⟨j, hj, e⟩ := mem_getDN.1 (List.contains_iff_mem.1 c)
        have e2 : q.getD j 0 = p.getD j 0 := by
          obtain ⟨t, rfl⟩ := h1
          rw [List.getD_eq_getElem?_getD, List.getD_eq_getElem?_getD, List.getElem?_append_left hj]
        have := h3.inj j p.length (by omega) hlt (by rw [e2, e])
        omega
      obtain ⟨s1, s2⟩ := (GoodS.step hpk).1 h4
      refine ⟨q.getD p.length 0, List.mem_range.2 (h3.lt _ hlt), ?_⟩
      rw [if_pos ⟨hc, s1⟩]
      refine (ih _ q (hp.snoc (h3.lt _ hlt) hc)).2 ⟨hpk, ?_, h3, s2⟩
      simp; omega
/-- two searches of the same end find the same, in the same order -/
theorem srch_same {n : Nat} {ok1 ok2 : List Nat → Nat → Bool} {fin1 fin2 : List Nat → Bool} : ∀ d p, Pre n p → (∀ q, p <+: q → q.length = p.length + d → Pre n q → (GoodS ok1 fin1 p.length q ↔ GoodS ok2 fin2 p.length q)) → srch n ok1 fin1 d p = srch n ok2 fin2 d p := by
  intro d
  induction d with
  | zero =>
    intro p hp H
    unfold srch
    have := H p (List.prefix_refl p) rfl hp
    have e : fin1 p = true ↔ fin2 p = true := ⟨fun h => (this.1 ⟨fun j hj hq => by omega, h⟩).2, fun h => (this.2 ⟨fun j hj hq => by omega, h⟩).2⟩
    by_cases c : fin1 p = true
    · rw [if_pos c, if_pos (e.1 c)]
    · rw [if_neg c, if_neg (fun h => c (e.2 h))]
  | succ d ih =>
    intro p hp H
    unfold srch
    have key : ∀ k, k < n → (if p.contains k = false ∧ ok1 p k = true then srch n ok1 fin1 d (p ++ [k]) else []) = (if p.contains k = false ∧ ok2 p k = true then srch n ok2 fin2 d (p ++ [k]) else []) := by
      intro k hk
      by_cases hc : p.contains k = false
      · have hl : (p ++ [k]).length = p.length + 1 := by simp
        have hpk := hp.snoc hk hc
        have H2 : ∀ q, (p ++ [k]) <+: q → q.length = (p ++ [k]).length + d → Pre n q → ((ok1 p k = true ∧ GoodS ok1 fin1 (p ++ [k]).length q) ↔ (ok2 p k = true ∧ GoodS ok2 fin2 (p ++ [k]).length q)) := fun q hq hql hqp => by
          rw [← GoodS.step hq, ← GoodS.step hq]
          exact H q (List.IsPrefix.trans (List.prefix_append p [k]) hq) (by omega) hqp
        have nil : ∀ (okA : List Nat → Nat → Bool) (finA : List Nat → Bool), (∀ q, (p ++ [k]) <+: q → q.length = (p ++ [k]).length + d → Pre n q → ¬ GoodS okA finA (p ++ [k]).length q) → srch n okA finA d (p ++ [k]) = [] := fun okA finA h => by
          apply List.eq_nil_iff_forall_not_mem.2
          intro q hq
          obtain ⟨g1, g2, g3, g4⟩ := (mem_srch d _ q hpk).1 hq
          exact h q g1 g2 g3 g4
        by_cases c1 : ok1 p k = true <;> by_cases c2 : ok2 p k = true
        · rw [if_pos ⟨hc, c1⟩, if_pos ⟨hc, c2⟩]
          refine ih _ hpk (fun q hq hql hqp => ?_)
          have := H2 q hq hql hqp
          exact ⟨fun g => (this.1 ⟨c1, g⟩).2, fun g => (this.2 ⟨c2, g⟩).2⟩
        · rw [if_pos ⟨hc, c1⟩, if_neg (fun h => c2 h.2)]
          exact nil _ _ (fun q hq hql hqp g => c2 ((H2 q hq hql hqp).1 ⟨c1, g⟩).1)
        · rw [if_neg (fun h => c1 h.2), if_pos ⟨hc, c2⟩]
          exact (nil _ _ (fun q hq hql hqp g => c1 ((H2 q hq hql hqp).2 ⟨c2, g⟩).1)).symm
        · rw [if_neg (fun h => c1 h.2), if_neg (fun h => c2 h.2)]
      · rw [if_neg (fun h => hc h.1), if_neg (fun h => hc h.1)]
    have : ∀ N, N ≤ n → (List.range N).flatMap (fun k => if p.contains k = false ∧ ok1 p k = true then srch n ok1 fin1 d (p ++ [k]) else []) = (List.range N).flatMap (fun k => if p.contains k = false ∧ ok2 p k = true then srch n ok2 fin2 d (p ++ [k]) else []) := by
      intro N
      induction N with
      | zero => intro _; rfl
      | succ N ihN =>
        intro h
        rw [List.range_succ, List.flatMap_append, List.flatMap_append, ihN (by omega)]
        simp only [List.flatMap_cons, List.flatMap_nil, List.append_nil]
        rw [key N (by omega)]
    exact this n (Nat.le_refl _)
end Go.Proofs.Ytmcffbmhkbijlaa

namespace Go.Proofs.Ytmcffbmhkbijlaa
open Go.RowKit
set_option linter.unusedVariables false

theorem shr_and (x k : Nat) (hx : x < 256) : bits .and .i64 ((x : Int) / 2 ^ k) 1 = (((x.testBit k).toNat : Nat) : Int) := by
  have e1 : ((x : Int) / 2 ^ k) = ((x / 2 ^ k : Nat) : Int) := by simp
  have h1 : x / 2 ^ k ≤ x := Nat.div_le_self _ _
  rw [e1]
  have := i64_and (x / 2 ^ k) 1 (by omega) (by omega)
  rw [show ((1 : Nat) : Int) = 1 from rfl] at this
  rw [this, Nat.and_one_is_mod, Nat.toNat_testBit]

end Go.Proofs.Ytmcffbmhkbijlaa

namespace Go.Proofs.Ytmcffbmhkbijlaa
open Go.RowKit
set_option linter.unusedVariables false

/-- the image of the first k elements of a list -/
def imgE (q E : List Nat) : Nat → Nat
  | 0 => 0
  | k + 1 => imgE q E k ||| bit (q.getD (E.getD k 0) 0)
theorem imgE_testBit (q E : List Nat) (j : Nat) : ∀ k, (imgE q E k).testBit j = true ↔ ∃ t, t < k ∧ q.getD (E.getD t 0) 0 = j := by
  intro k
  induction k with
  | zero => simp [imgE]
  | succ k ih =>
    simp only [imgE]
    rw [or_bit_testBit, Bool.or_eq_true, ih, decide_eq_true_eq]
    constructor
    · rintro (⟨t, h1, h2⟩ | h)
      · exact ⟨t, by omega, h2⟩
      · exact ⟨k, by omega, h⟩
    · rintro ⟨t, h1, h2⟩
      by_cases e : t = k
      · subst e; exact .inr h2
      · exact .inl ⟨t, by omega, h2⟩
theorem imgE_all {q : List Nat} {s : Nat} (h8 : q.length ≤ 8) (hs : s < bit q.length) : imgE q (elems s) (elems s).length = img q s := by
  apply Nat.eq_of_testBit_eq
  intro j
  rw [Bool.eq_iff_iff, imgE_testBit, img_testBit]
  have hm : ∀ i, i ∈ elems s ↔ i < 8 ∧ s.testBit i = true := fun i => by
    unfold elems
    rw [List.mem_filter, List.mem_range]
  constructor
  · rintro ⟨t, h1, h2⟩
    have h3 : (elems s).getD t 0 ∈ elems s := by simp [h1]
    have h4 := (hm _).1 h3
    refine ⟨(elems s).getD t 0, ?_, h4.2, h2⟩
    by_cases c : (elems s).getD t 0 < q.length
    · exact c
    · rw [bit_hi hs (by omega)] at h4; cases h4.2
  · rintro ⟨i, h1, h2, h3⟩
    obtain ⟨t, ht, e⟩ := List.getElem_of_mem ((hm i).2 ⟨by omega, h2⟩)
    exact ⟨t, ht, by rw [show (elems s).getD t 0 = i by simp [ht, e]]; exact h3⟩
theorem imgE_lt {q E : List Nat} {k : Nat} (h : ∀ t, t < k → q.getD (E.getD t 0) 0 < 8) : imgE q E k < 256 := by
  induction k with
  | zero => show 0 < 256; omega
  | succ k ih =>
    simp only [imgE]
    exact or_lt _ _ (ih (fun t ht => h t (by omega))) (by have := bit_lt _ (h k (by omega)); omega)

set_option maxRecDepth 100000 in
set_option maxHeartbeats 8000000 in
theorem c_equalI {B : Nat} {W : World} (u : Later B W) (n : Nat) (f g : Nat → Int) (a b : Option Addr) (cap capb : Nat) (h1 : IntsAt B W a (tabL n f)) (h2 : IntsAt B W b (tabL n g)) (hn : n ≤ 1048576) (r : Bool) (hr : r = true ↔ ∀ t, t < n → f t = g t) :
    Calls Try.prog 34 #[.slice a n cap, .slice b n capb] u.val (Ret B W (.bool r)) := by
  have H1 := Lib.hid h1
  have H2 := Lib.hid h2
  have HR := Lib.hid hr
  have d0 : ((n : Int) != (n : Int)) = false := by simp
  clear h1 h2 hr
  go_enter Try.func34, Try.ntmps34
  go_wp2
  go_loopw [13] (fun i wr => ∃ (k : Nat) (v : Later B W), k ≤ n ∧ i = .int .i64 k ∧ wr = v.val ∧ Hid (∀ t, t < k → f t = g t)) (fun i _ => n - (intOf i).toNat)
  case atStart => exact ⟨0, u, by omega, rfl, rfl, Lib.hid (fun t ht => by omega)⟩
  case round =>
    clear u
    obtain ⟨k, v, hk, rfl, rfl, HN⟩ := hrel
    by_cases hlt : k < n
    · obtain ⟨b1, o1, rfl, hb1, hc1⟩ := H1.out.at (k := k) (by rw [tabL_len]; exact hlt)
      obtain ⟨b2, o2, rfl, hb2, hc2⟩ := H2.out.at (k := k) (by rw [tabL_len]; exact hlt)
      have c1 : ∀ w : Later B W, w.val.cell? ⟨b1, o1 + k, none⟩ = some (.int .i64 (f k)) := fun w => by rw [← tabL_getD (A := f) hlt]; exact hc1 w k (by rw [tabL_len]; exact hlt)
      have c2 : ∀ w : Later B W, w.val.cell? ⟨b2, o2 + k, none⟩ = some (.int .i64 (g k)) := fun w => by rw [← tabL_getD (A := g) hlt]; exact hc2 w k (by rw [tabL_len]; exact hlt)
      have HY : Hid (f k = g k → ∀ t, t < k + 1 → f t = g t) := Lib.hid (fun h t ht => by
        by_cases e : t = k
        · subst e; exact h
        · exact HN.out t (by omega))
      have HNo : Hid (f k ≠ g k → r = false) := Lib.hid (fun h => by
        cases hrr : r
        · rfl
        · exact absurd (HR.out.1 hrr k hlt) h)
      clear hc1 hc2
      generalize f k = x at *
      generalize g k = z at *
      rcases ieq x z with ⟨hc, e1, e2⟩ | ⟨hc, e1, e2⟩
      · have HN2 := Lib.hid (HY.out hc)
        clear HY HNo hc HN
        go_upto_region 6 with fail
        refine wp_region_later v (by kernel_rfl) (by kernel_rfl) (fun _ => ?_)
        repeat (first | go_big_quiet_step ((fail)) | (refine wpQuiet_step (fun K hK => ?_); go_simp; refine ⟨_, fun _ => rfl, ?_⟩; refine hK _ ?_; clear hK K))
        refine wpQuiet_nil ?_
        intro v
        go_wp2
        go_roundw
        case rel => exact ⟨k + 1, v, by omega, by go_num, by first | rfl | trivial, HN2⟩
        case measure => simp [intOf]; omega
      · have HF := Lib.hid (HNo.out hc)
        clear HY HNo hc HN
        go_upto_region 6 with fail
        refine wp_region_later v (by kernel_rfl) (by kernel_rfl) (fun _ => ?_)
        repeat (first | go_big_quiet_step ((fail)) | (refine wpQuiet_step (fun K hK => ?_); go_simp; refine ⟨_, fun _ => rfl, ?_⟩; refine hK _ ?_; clear hK K))
        refine wpQuiet_nil ?_
        intro v
        go_wp2
        go_ret
        exact Ret.mk v (vbool HF.out.symm)
    · have hke : k = n := by omega
      subst hke
      have HT : Hid (r = true) := Lib.hid (HR.out.2 HN.out)
      go_wp2
      go_ret
      exact Ret.mk v (vbool HT.out.symm)
end Go.Proofs.Ytmcffbmhkbijlaa
