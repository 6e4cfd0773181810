
/-
  minors.Dual.
  The elements of a set as a rising list. No program in sight.
  Elements that stand for sets of a list, plainly: HALL's theorem; the greatest sets of those that are good.
-/
import Derived.Test.YtmcffbmhkbijlaaPk13
import Derived.Test.YtmcffbmhkbijlaaPk05
import Derived.Test.YtmcffbmhkbijlaaPk02
import Derived.Test.YtmcffbmhkbijlaaPk03
namespace Go.Proofs.Ytmcffbmhkbijlaa
open Go.RowKit
set_option linter.unusedVariables false

/-- a matroid whose bases lie in a row of the call's own, and an error -/
def MatTO (B : Nat) (n : Int) (xs : List Int) (er : Int) (v : Value) (w : World) : Prop := ∃ ad cp, v = .tuple #[.agg #[.int .i64 n, .slice ad xs.length cp], .int .i64 er] ∧ Own B w ad cp xs
theorem MatTO.no {B : Nat} {e : Int} {w : World} : MatTO B 0 [] e (.tuple #[.agg #[.int .i64 0, .slice none 0 0], .int .i64 e]) w := ⟨none, 0, rfl, Own.nil _ _⟩
theorem take_map_step (f : Nat → Nat) (L : List Nat) {k : Nat} (hk : k < L.length) : (L.take (k + 1)).map f = (L.take k).map f ++ [f (L.getD k 0)] := by
  rw [List.take_add_one, List.getElem?_eq_getElem hk, List.map_append]
  have : L.getD k 0 = L[k] := by simp [hk]
  rw [this]
  rfl

end Go.Proofs.Ytmcffbmhkbijlaa

namespace Go.Proofs.Ytmcffbmhkbijlaa
open Go.RowKit
set_option linter.unusedVariables false

theorem elems_first {s o : Nat} (ho : o < 8) (h : s.testBit o = true) (hmin : ∀ i, i < 8 → s.testBit i = true → o ≤ i) : (elems s)[0]? = some o := by
  rw [← List.head?_eq_getElem?]
  unfold elems
  rw [List.head?_filter, List.find?_range_eq_some]
  refine ⟨h, by simpa using ho, fun j hj => ?_⟩
  cases c : s.testBit j
  · rfl
  · have := hmin j (by omega) c; omega
theorem mem_elems {s x : Nat} : x ∈ elems s ↔ x < 8 ∧ s.testBit x = true := by simp [elems]
theorem elems_rise (s : Nat) {i j : Nat} (hij : i < j) (hj : j < (elems s).length) : (elems s).getD i 0 < (elems s).getD j 0 := by
  have hp : List.Pairwise (· < ·) (elems s) := (List.pairwise_lt_range).filter _
  have := List.pairwise_iff_getElem.1 hp i j (by omega) hj hij
  have a : (elems s).getD i 0 = (elems s)[i] := by simp [show i < (elems s).length by omega]
  have b : (elems s).getD j 0 = (elems s)[j] := by simp [hj]
  rw [a, b]; exact this
theorem elems_mem (s : Nat) {i : Nat} (h : i < (elems s).length) : (elems s).getD i 0 < 8 ∧ s.testBit ((elems s).getD i 0) = true := by
  have : (elems s).getD i 0 = (elems s)[i] := by simp [h]
  rw [this]
  exact mem_elems.1 (List.getElem_mem h)
theorem elems_at {s d : Nat} (hd : d < 8) (h : s.testBit d = true) : ∃ j, j < (elems s).length ∧ (elems s).getD j 0 = d ∧ ∀ i, i < j → (elems s).getD i 0 < d := by
  obtain ⟨j, hj, e⟩ := List.getElem_of_mem (mem_elems.2 ⟨hd, h⟩)
  have e2 : (elems s).getD j 0 = d := by simp [hj, e]
  exact ⟨j, hj, e2, fun i hi => by rw [← e2]; exact elems_rise s hi hj⟩

end Go.Proofs.Ytmcffbmhkbijlaa

namespace Go.Proofs.Ytmcffbmhkbijlaa
set_option linter.unusedVariables false

theorem and_ne_iff {a b : Nat} : a &&& b ≠ 0 ↔ ∃ i, a.testBit i = true ∧ b.testBit i = true := by
  constructor
  · intro h
    refine Classical.byContradiction fun c => h (and_eq_zero_iff.2 (fun i hi => ?_))
    cases e : b.testBit i
    · rfl
    · exact absurd ⟨i, hi, e⟩ c
  · rintro ⟨i, h1, h2⟩ h
    have := and_eq_zero_iff.1 h i h1
    rw [h2] at this; cases this
/-- the places of the sets that meet t -/
def nbT (l : List Nat) (t : Nat) : Nat → Nat
  | 0 => 0
  | k + 1 => if l.getD k 0 &&& t ≠ 0 then nbT l t k ||| bit k else nbT l t k
def ctT (l : List Nat) (t : Nat) : Nat → Nat
  | 0 => 0
  | k + 1 => if l.getD k 0 &&& t ≠ 0 then ctT l t k + 1 else ctT l t k
theorem or_bit_tb (a k i : Nat) : (a ||| bit k).testBit i = (a.testBit i || decide (k = i)) := by rw [Nat.testBit_or, testBit_bit]
theorem nbT_testBit (l : List Nat) (t i : Nat) : ∀ k, (nbT l t k).testBit i = true ↔ i < k ∧ l.getD i 0 &&& t ≠ 0
  | 0 => by simp [nbT]
  | k + 1 => by
    have ih := nbT_testBit l t i k
    rw [nbT]
    split
    · rename_i h
      rw [or_bit_tb, Bool.or_eq_true, ih, decide_eq_true_eq]
      constructor
      · rintro (h1 | rfl)
        · exact ⟨by omega, h1.2⟩
        · exact ⟨by omega, h⟩
      · rintro ⟨h1, h2⟩
        by_cases e : k = i
        · exact .inr e
        · exact .inl ⟨by omega, h2⟩
    · rename_i h
      rw [ih]
      constructor
      · rintro ⟨h1, h2⟩; exact ⟨by omega, h2⟩
      · rintro ⟨h1, h2⟩
        by_cases e : i = k
        · subst e; exact absurd h2 h
        · exact ⟨by omega, h2⟩
theorem nbT_lt (l : List Nat) (t : Nat) : ∀ k, k ≤ 8 → nbT l t k < 256
  | 0, _ => by show (0 : Nat) < 256; decide
  | k + 1, hk => by
    have ih := nbT_lt l t k (by omega)
    rw [nbT]
    split
    · exact or_lt _ _ ih (bit_lt256 k (by omega))
    · exact ih
theorem ct_sz (l : List Nat) (t : Nat) : ∀ k, k ≤ 8 → ctT l t k = sz (nbT l t k)
  | 0, _ => by rw [ctT, nbT, sz_zero]
  | k + 1, hk => by
    have ih := ct_sz l t k (by omega)
    rw [ctT, nbT]
    split
    · rw [sz_add (by omega), ih]
      rw [Bool.eq_false_iff]; intro c
      have := ((nbT_testBit l t k k).1 c).1
      omega
    · exact ih
def nb (l : List Nat) (t : Nat) : Nat := nbT l t l.length
theorem nb_testBit {l : List Nat} {t i : Nat} : (nb l t).testBit i = true ↔ i < l.length ∧ l.getD i 0 &&& t ≠ 0 := nbT_testBit l t i _
theorem nb_mono {l : List Nat} {a b : Nat} (h : sub a b) : sub (nb l a) (nb l b) := fun i hi => by
  rw [nb_testBit, and_ne_iff] at hi ⊢
  obtain ⟨h1, j, h2, h3⟩ := hi
  exact ⟨h1, j, h2, h j h3⟩
theorem nb_or {l : List Nat} {a b i : Nat} (h : (nb l (a ||| b)).testBit i = true) : (nb l a).testBit i = true ∨ (nb l b).testBit i = true := by
  rw [nb_testBit, and_ne_iff] at h
  obtain ⟨h1, j, h2, h3⟩ := h
  rw [Nat.testBit_or, Bool.or_eq_true] at h3
  rcases h3 with h3 | h3
  · exact .inl (nb_testBit.2 ⟨h1, and_ne_iff.2 ⟨j, h2, h3⟩⟩)
  · exact .inr (nb_testBit.2 ⟨h1, and_ne_iff.2 ⟨j, h2, h3⟩⟩)
/-- HALL's condition, some places being taken -/
def HallC (l : List Nat) (s u : Nat) : Prop := ∀ t, t < 256 → sub t s → sz t ≤ sz (nand (nb l t) u)
/-- the search -/
def chs (l : List Nat) : List Nat → Nat → Bool
  | [], _ => true
  | x :: xs, u => (List.range l.length).any (fun i => !u.testBit i && (l.getD i 0).testBit x && chs l xs (u ||| bit i))

theorem tight_join {l : List Nat} {s u a b : Nat} (hH : HallC l s u) (ha8 : a < 256) (hb8 : b < 256) (ha : sub a s) (hb : sub b s) (ta : sz (nand (nb l a) u) ≤ sz a) (tb : sz (nand (nb l b) u) ≤ sz b) : sz (nand (nb l (a ||| b)) u) ≤ sz (a ||| b) := by
  have h1 := sz_incl a b
  have h2 := sz_incl (nand (nb l a) u) (nand (nb l b) u)
  have h3 := hH (a &&& b) (Nat.lt_of_le_of_lt Nat.and_le_left ha8) (fun i hi => by rw [Nat.testBit_and, Bool.and_eq_true] at hi; exact ha i hi.1)
  have h4 : sz (nand (nb l (a &&& b)) u) ≤ sz (nand (nb l a) u &&& nand (nb l b) u) := sz_mono (fun i hi => by
    rw [nand_testBit, Bool.and_eq_true] at hi
    rw [Nat.testBit_and, nand_testBit, nand_testBit, nb_mono (l := l) (fun j hj => by rw [Nat.testBit_and, Bool.and_eq_true] at hj; exact hj.1) i hi.1, nb_mono (l := l) (fun j hj => by rw [Nat.testBit_and, Bool.and_eq_true] at hj; exact hj.2) i hi.1, hi.2]
    rfl)
  have h5 : sz (nand (nb l (a ||| b)) u) ≤ sz (nand (nb l a) u ||| nand (nb l b) u) := sz_mono (fun i hi => by
    rw [nand_testBit, Bool.and_eq_true] at hi
    rw [Nat.testBit_or, nand_testBit, nand_testBit, hi.2, Bool.and_true, Bool.and_true, Bool.or_eq_true]
    exact nb_or hi.1)
  omega

theorem hall_step {l : List Nat} {s s' u d : Nat} (hl : l.length ≤ 8) (hs : s < 256) (hd : d < 8) (hsd : s.testBit d = true) (hs' : ∀ i, s'.testBit i = true ↔ s.testBit i = true ∧ i ≠ d) :
    HallC l s u ↔ ∃ i, i < l.length ∧ u.testBit i = false ∧ (l.getD i 0).testBit d = true ∧ HallC l s' (u ||| bit i) := by
  constructor
  · intro hH
    refine Classical.byContradiction fun hno => ?_
    have hbad : ∀ i, i < l.length → u.testBit i = false → (l.getD i 0).testBit d = true → ∃ t, t < 256 ∧ sub t s' ∧ sz (nand (nb l t) u) ≤ sz t ∧ (nb l t).testBit i = true := fun i hi h1 h2 => by
      have h3 : ¬ HallC l s' (u ||| bit i) := fun c => hno ⟨i, hi, h1, h2, c⟩
      have h3' : ∃ t, t < 256 ∧ sub t s' ∧ ¬ sz t ≤ sz (nand (nb l t) (u ||| bit i)) := Classical.byContradiction fun c => h3 (fun t ht hts => Classical.byContradiction fun e => c ⟨t, ht, hts, e⟩)
      obtain ⟨t, ht, hts, h4⟩ := h3'
      have h5 := hH t ht (fun j hj => ((hs' j).1 (hts j hj)).1)
      have h6 : sub (nand (nb l t) u) (nand (nb l t) (u ||| bit i) ||| bit i) := fun j hj => by
        rw [nand_testBit, Bool.and_eq_true] at hj
        rw [or_bit_tb, nand_testBit, or_bit_tb, hj.1]
        by_cases e : i = j
        · simp [e]
        · simp only [e, decide_false, Bool.or_false]
          exact hj.2
      have h7 := sz_mono h6
      have h8 := sz_add_le (a := nand (nb l t) (u ||| bit i)) (i := i) (by omega)
      refine ⟨t, ht, hts, by omega, ?_⟩
      cases e : (nb l t).testBit i
      · exfalso
        have : sub (nand (nb l t) u) (nand (nb l t) (u ||| bit i)) := fun j hj => by
          rw [nand_testBit, Bool.and_eq_true] at hj
          rw [nand_testBit, or_bit_tb, hj.1]
          by_cases e2 : i = j
          · subst e2; rw [hj.1] at e; cases e
          · simp only [e2, decide_false, Bool.or_false]
            exact hj.2
        have := sz_mono this
        omega
      · rfl
    have key : ∀ j, j ≤ l.length → ∃ T, T < 256 ∧ sub T s' ∧ sz (nand (nb l T) u) ≤ sz T ∧ ∀ i, i < j → u.testBit i = false → (l.getD i 0).testBit d = true → (nb l T).testBit i = true := by
      intro j
      induction j with
      | zero =>
        intro _
        refine ⟨0, by decide, fun i hi => by simp at hi, ?_, fun i hi => by omega⟩
        have : nand (nb l 0) u = 0 := by
          apply Nat.eq_of_testBit_eq
          intro i
          rw [nand_testBit, Nat.zero_testBit]
          have : (nb l 0).testBit i = false := by
            rw [Bool.eq_false_iff]; intro c
            exact (nb_testBit.1 c).2 (Nat.and_zero _)
          rw [this]; rfl
        rw [this]; exact Nat.le_refl _
      | succ j ih =>
        intro hj
        obtain ⟨T, h1, h2, h3, h4⟩ := ih (by omega)
        by_cases c : u.testBit j = false ∧ (l.getD j 0).testBit d = true
        · obtain ⟨t, k1, k2, k3, k4⟩ := hbad j (by omega) c.1 c.2
          have e1 : sub T s := fun i hi => ((hs' i).1 (h2 i hi)).1
          have e2 : sub t s := fun i hi => ((hs' i).1 (k2 i hi)).1
          refine ⟨T ||| t, or_lt _ _ h1 k1, fun i hi => ?_, tight_join hH h1 k1 e1 e2 h3 k3, fun i hi hu hx => ?_⟩
          · rw [Nat.testBit_or, Bool.or_eq_true] at hi
            exact hi.elim (h2 i) (k2 i)
          · by_cases e : i = j
            · subst e
              exact nb_mono (l := l) (fun q hq => by rw [Nat.testBit_or, hq, Bool.or_true]) i k4
            · exact nb_mono (l := l) (fun q hq => by rw [Nat.testBit_or, hq, Bool.true_or]) i (h4 i (by omega) hu hx)
        · refine ⟨T, h1, h2, h3, fun i hi hu hx => ?_⟩
          by_cases e : i = j
          · subst e; exact absurd ⟨hu, hx⟩ c
          · exact h4 i (by omega) hu hx
    obtain ⟨T, h1, h2, h3, h4⟩ := key l.length (Nat.le_refl _)
    have hTd : T.testBit d = false := by
      rw [Bool.eq_false_iff]; intro c
      exact ((hs' d).1 (h2 d c)).2 rfl
    have h5 := hH (T ||| bit d) (or_lt _ _ h1 (bit_lt256 d hd)) (fun i hi => by
      rw [or_bit_tb, Bool.or_eq_true, decide_eq_true_eq] at hi
      rcases hi with hi | rfl
      · exact ((hs' i).1 (h2 i hi)).1
      · exact hsd)
    rw [sz_add hd hTd] at h5
    have h6 : sz (nand (nb l (T ||| bit d)) u) ≤ sz (nand (nb l T) u) := sz_mono (fun i hi => by
      rw [nand_testBit, Bool.and_eq_true, Bool.not_eq_true'] at hi
      rw [nand_testBit, hi.2, Bool.not_false, Bool.and_true]
      rcases nb_or hi.1 with c | c
      · exact c
      · rw [nb_testBit, and_ne_iff] at c
        obtain ⟨c1, j, c2, c3⟩ := c
        rw [testBit_bit, decide_eq_true_eq] at c3
        subst c3
        exact h4 i c1 hi.2 c2)
    omega
  · rintro ⟨i, hi, hu, hx, hH⟩ t ht hts
    by_cases c : t.testBit d = true
    · have h1 := sz_less hd c
      have h2 := hH (nand t (bit d)) (nand_lt _ _ 8 ht) (fun j hj => by
        rw [nand_testBit, testBit_bit, Bool.and_eq_true, Bool.not_eq_true', decide_eq_false_iff_not] at hj
        exact (hs' j).2 ⟨hts j hj.1, fun e => hj.2 e.symm⟩)
      have h3 : (nand (nb l (nand t (bit d))) (u ||| bit i)).testBit i = false := by
        rw [nand_testBit, or_bit_tb]; simp
      have h4 := sz_add (by omega : i < 8) h3
      have h5 : sub (nand (nb l (nand t (bit d))) (u ||| bit i) ||| bit i) (nand (nb l t) u) := fun j hj => by
        rw [or_bit_tb, Bool.or_eq_true, decide_eq_true_eq] at hj
        rcases hj with hj | rfl
        · rw [nand_testBit, or_bit_tb, Bool.and_eq_true, Bool.not_eq_true', Bool.or_eq_false_iff] at hj
          rw [nand_testBit, hj.2.1, Bool.not_false, Bool.and_true]
          exact nb_mono (l := l) (fun q hq => by rw [nand_testBit, Bool.and_eq_true] at hq; exact hq.1) j hj.1
        · rw [nand_testBit, hu, Bool.not_false, Bool.and_true]
          exact nb_testBit.2 ⟨hi, and_ne_iff.2 ⟨d, hx, c⟩⟩
      have h6 := sz_mono h5
      omega
    · have h2 := hH t ht (fun j hj => (hs' j).2 ⟨hts j hj, fun e => c (by rw [← e]; exact hj)⟩)
      have h6 : sub (nand (nb l t) (u ||| bit i)) (nand (nb l t) u) := fun j hj => by
        rw [nand_testBit, or_bit_tb, Bool.and_eq_true, Bool.not_eq_true', Bool.or_eq_false_iff] at hj
        rw [nand_testBit, hj.1, hj.2.1]; rfl
      have := sz_mono h6
      omega

theorem elems_lowK : ∀ a : Fin 256, a.val ≠ 0 → ∃ d : Fin 8, elems a.val = d.val :: elems (drop1 a.val) ∧ low a.val = bit d.val ∧ drop1 a.val < a.val := by decide +kernel
theorem elems_openK {a : Nat} (h8 : a < 256) (h : a ≠ 0) : ∃ d, d < 8 ∧ elems a = d :: elems (drop1 a) ∧ low a = bit d ∧ drop1 a < a := by
  obtain ⟨d, h1, h2, h3⟩ := elems_lowK ⟨a, h8⟩ h
  exact ⟨d.val, d.isLt, h1, h2, h3⟩
theorem hall_iff {l : List Nat} (hl : l.length ≤ 8) : ∀ k s u, s < 256 → s ≤ k → (chs l (elems s) u = true ↔ HallC l s u) := by
  intro k
  induction k with
  | zero =>
    intro s u hs hk
    have : s = 0 := by omega
    subst this
    have e : elems 0 = [] := by decide
    rw [e]
    constructor
    · intro _ t ht hts
      have : t = 0 := eq_zero_of_bits ht (fun i hi => by
        rw [Bool.eq_false_iff]; intro c
        have := hts i c
        simp at this)
      subst this
      rw [sz_zero]; exact Nat.zero_le _
    · intro _; rfl
  | succ k ih =>
    intro s u hs hk
    by_cases h0 : s = 0
    · subst h0; exact ih 0 u hs (by omega)
    · obtain ⟨e, he8, hlow, hte, hdb, hmin, hdl⟩ := low_facts s hs h0
      obtain ⟨d, hd8, hel2, hlow2, hdl2⟩ := elems_openK hs h0
      have hde : d = e := by
        have h := congrArg (fun x => x.testBit d) (hlow2.symm.trans hlow)
        simp only [testBit_bit, decide_true] at h
        exact (of_decide_eq_true h.symm).symm
      subst hde
      have hdlt := drop1_lt s hs
      have hs' : ∀ i, (drop1 s).testBit i = true ↔ s.testBit i = true ∧ i ≠ d := fun i => by
        by_cases hi : i < 8
        · rw [hdb i hi]; simp
        · constructor
          · intro c; exact absurd (lt_of_testBit hdlt c) hi
          · intro c; exact absurd (lt_of_testBit hs c.1) hi
      rw [hall_step hl hs he8 hte hs', hel2, chs, List.any_eq_true]
      constructor
      · rintro ⟨i, hi, h⟩
        rw [List.mem_range] at hi
        simp only [Bool.and_eq_true, Bool.not_eq_true'] at h
        exact ⟨i, hi, h.1.1, h.1.2, (ih (drop1 s) (u ||| bit i) hdlt (by omega)).1 h.2⟩
      · rintro ⟨i, hi, h1, h2, h3⟩
        refine ⟨i, List.mem_range.2 hi, ?_⟩
        simp only [Bool.and_eq_true, Bool.not_eq_true']
        exact ⟨⟨h1, h2⟩, (ih (drop1 s) (u ||| bit i) hdlt (by omega)).2 h3⟩
/-- the reference's test -/
def hallB (l : List Nat) (s : Nat) : Bool := (List.range (s + 1)).all (fun t => decide (t = 0) || !decide (t ||| s = s) || decide (sz t ≤ ctT l t l.length))
theorem hall_same {l : List Nat} (hl : l.length ≤ 8) {s : Nat} (hs : s < 256) : chs l (elems s) 0 = hallB l s := by
  rw [Bool.eq_iff_iff, hall_iff hl s s 0 hs (Nat.le_refl _)]
  unfold hallB HallC
  rw [List.all_eq_true]
  have hn : ∀ t, nand (nb l t) 0 = nb l t := fun t => by
    apply Nat.eq_of_testBit_eq
    intro i
    rw [nand_testBit]; simp
  constructor
  · intro h t ht
    rw [List.mem_range] at ht
    rw [Bool.or_eq_true, Bool.or_eq_true, decide_eq_true_eq, Bool.not_eq_true', decide_eq_false_iff_not, decide_eq_true_eq]
    by_cases c : t ||| s = s
    · right
      have := h t (by omega) (or_eq_iff.1 c)
      rw [hn] at this
      rw [ct_sz l t _ hl]; exact this
    · exact .inl (.inr c)
  · intro h t ht hts
    have hle : t ≤ s := Nat.le_of_lt_succ (Nat.lt_succ_of_le (by
      have e := or_eq_iff.2 hts
      rw [← e]; exact Nat.left_le_or))
    have := h t (List.mem_range.2 (by omega))
    rw [Bool.or_eq_true, Bool.or_eq_true, decide_eq_true_eq, Bool.not_eq_true', decide_eq_false_iff_not, decide_eq_true_eq] at this
    rw [hn]
    rcases this with (h1 | h1) | h1
    · subst h1; rw [sz_zero]; exact Nat.zero_le _
    · exact absurd (or_eq_iff.2 hts) h1
    · rw [ct_sz l t _ hl] at h1; exact h1

end Go.Proofs.Ytmcffbmhkbijlaa
