
/-
  A family, opened: its sets as whole numbers, rising, few.
  Greedy bases, plainly: orders of elements, the order by weight, the basis that comes first.
-/
import Derived.Test.YtenbeiafdiifgaaPk11
import Derived.Test.YtenbeiafdiifgaaPk18
import Derived.Test.YtenbeiafdiifgaaPk33
namespace Go.Proofs.Ytenbeiafdiifgaa
open Go.RowKit
set_option linter.unusedVariables false

theorem fam_pw {m : Nat} {L : List Nat} (h : isFam (m : Int) (ints L)) : L.Pairwise (· < ·) := by
  have hr := h.2.2.rising
  rw [List.pairwise_iff_getElem]
  intro i j hi hj hij
  have := hr i j hij (by rw [ints_len]; exact hj)
  rw [ints_getD, ints_getD] at this
  have e1 : L.getD i 0 = L[i] := by simp [hi]
  have e2 : L.getD j 0 = L[j] := by simp [hj]
  rw [e1, e2] at this
  omega
theorem fam_le {m : Nat} {L : List Nat} (hm : m ≤ 8) (h : isFam (m : Int) (ints L)) : L.length ≤ bit m := by
  have hb := bit_le m hm
  obtain ⟨_, _, hf⟩ := h
  have key : ∀ i, i < L.length → i ≤ L.getD i 0 := by
    intro i
    induction i with
    | zero => intro _; omega
    | succ i ih =>
      intro hi
      have h1 := ih (by omega)
      have h2 := (hf (i + 1) (by rw [ints_len]; exact hi)).2.2 (by omega)
      rw [ints_getD, ints_getD, show i + 1 - 1 = i from rfl] at h2
      omega
  by_cases hz : L.length = 0
  · omega
  · have h3 := key (L.length - 1) (by omega)
    have h4 := (hf (L.length - 1) (by rw [ints_len]; omega)).2.1
    rw [ints_getD, all_nat] at h4
    omega
theorem fam_open {n : Int} {l : List Int} (h : isFam n l) : ∃ (m : Nat) (L : List Nat), n = (m : Int) ∧ m ≤ 8 ∧ l = ints L ∧ (∀ b, b ∈ L → b < bit m) ∧ L.Pairwise (· < ·) ∧ L.length ≤ 256 ∧ isFam (m : Int) (ints L) := by
  obtain ⟨m, rfl⟩ := Int.eq_ofNat_of_zero_le h.1
  have hl := fam_ints h
  have hm : m ≤ 8 := by have := h.2.1; omega
  have hb := bit_le m hm
  have h2 : isFam (m : Int) (ints (toN l)) := by rw [hl]; exact h
  have hlt := fam_lt h
  exact ⟨m, toN l, rfl, hm, hl.symm, by simpa using hlt, fam_pw h2, by have := fam_le hm h2; omega, h2⟩

end Go.Proofs.Ytenbeiafdiifgaa

namespace Go.Proofs.Ytenbeiafdiifgaa
set_option linter.unusedVariables false

/-! ### orders of all elements -/
/-- the elements below m that stand among the first k -/
def seenTo (m : Nat) (p : List Int) : Nat → Nat
  | 0 => 0
  | k + 1 => if 0 ≤ p.getD k 0 ∧ p.getD k 0 < m then seenTo m p k ||| bit (p.getD k 0).toNat else seenTo m p k
theorem seenTo_lt {m : Nat} (hm : m ≤ 8) (p : List Int) (k : Nat) : seenTo m p k < bit m := by
  have hb := bit_le m hm
  induction k with
  | zero => show 0 < bit m; omega
  | succ k ih =>
    unfold seenTo
    split
    · rename_i h
      exact or_lt_bit ih (bit_lt_bit (by omega))
    · exact ih
theorem seenTo_iff {m : Nat} (p : List Int) (k i : Nat) (hi : i < m) : (seenTo m p k).testBit i = true ↔ ∃ j, j < k ∧ p.getD j 0 = i := by
  induction k with
  | zero =>
    show Nat.testBit 0 i = true ↔ _
    simp
  | succ k ih =>
    unfold seenTo
    split
    · rename_i h
      rw [or_bit_testBit, Bool.or_eq_true, ih, decide_eq_true_eq]
      constructor
      · rintro (⟨j, hj, e⟩ | e)
        · exact ⟨j, by omega, e⟩
        · exact ⟨k, by omega, by omega⟩
      · rintro ⟨j, hj, e⟩
        by_cases c : j = k
        · subst c; exact .inr (by omega)
        · exact .inl ⟨j, by omega, e⟩
    · rename_i h
      rw [ih]
      constructor
      · rintro ⟨j, hj, e⟩; exact ⟨j, by omega, e⟩
      · rintro ⟨j, hj, e⟩
        by_cases c : j = k
        · subst c; exact absurd ⟨by omega, by omega⟩ h
        · exact ⟨j, by omega, e⟩
/-- all of the first k are elements, no one twice -/
def newTo (m : Nat) (p : List Int) (k : Nat) : Prop := ∀ j, j < k → 0 ≤ p.getD j 0 ∧ p.getD j 0 < m ∧ ∀ i, i < j → p.getD i 0 ≠ p.getD j 0
theorem newTo_sz {m : Nat} (hm : m ≤ 8) {p : List Int} {k : Nat} (h : newTo m p k) : sz (seenTo m p k) = k := by
  induction k with
  | zero => exact sz_zero
  | succ k ih =>
    have h1 := h k (by omega)
    have ih := ih (fun j hj => h j (by omega))
    unfold seenTo
    rw [if_pos ⟨h1.1, h1.2.1⟩, sz_add (by omega), ih]
    rw [Bool.eq_false_iff]
    intro hc
    obtain ⟨j, hj, e⟩ := (seenTo_iff p k (p.getD k 0).toNat (by omega)).1 hc
    exact h1.2.2 j hj (by omega)
theorem seenTo_sz_le (m : Nat) (hm : m ≤ 8) (p : List Int) (k : Nat) : sz (seenTo m p k) ≤ k := by
  induction k with
  | zero => exact Nat.le_of_eq sz_zero
  | succ k ih =>
    unfold seenTo
    split
    · rename_i h
      have := @sz_add_le (seenTo m p k) (p.getD k 0).toNat (by omega)
      omega
    · omega
theorem newTo_of_sz {m : Nat} (hm : m ≤ 8) {p : List Int} {k : Nat} (h : sz (seenTo m p k) = k) : newTo m p k := by
  induction k with
  | zero => intro j hj; omega
  | succ k ih =>
    have hk := seenTo_sz_le m hm p k
    unfold seenTo at h
    split at h
    · rename_i hr
      have h2 := @sz_add_le (seenTo m p k) (p.getD k 0).toNat (by omega)
      have ih := ih (by omega)
      intro j hj
      by_cases c : j = k
      · subst c
        refine ⟨hr.1, hr.2, fun i hi e => ?_⟩
        have hb : (seenTo m p j).testBit (p.getD j 0).toNat = true := (seenTo_iff p j _ (by omega)).2 ⟨i, hi, by omega⟩
        rw [or_same hb] at h
        omega
      · exact ih j (by omega)
    · omega
/-- an order of all elements -/
def isOrd (m : Nat) (p : List Int) : Prop := p.length = m ∧ ∀ i : Nat, i < m → (i : Int) ∈ p
instance (m : Nat) (p : List Int) : Decidable (isOrd m p) := by unfold isOrd; infer_instance
theorem mem_getDI {l : List Int} {x : Int} : x ∈ l ↔ ∃ j, j < l.length ∧ l.getD j 0 = x := by
  constructor
  · intro h
    obtain ⟨i, hi, e⟩ := List.getElem_of_mem h
    exact ⟨i, hi, by simp [hi, e]⟩
  · rintro ⟨j, hj, rfl⟩; simp [hj]
theorem isOrd_iff {m : Nat} (hm : m ≤ 8) {p : List Int} : isOrd m p ↔ p.length = m ∧ newTo m p m := by
  have hb := bit_le m hm
  constructor
  · rintro ⟨hl, h⟩
    refine ⟨hl, newTo_of_sz hm ?_⟩
    have : seenTo m p m = bit m - 1 := eq_of_bits (by have := seenTo_lt hm p m; omega) (by omega) (fun i hi => by
      rw [testBit_all, Bool.eq_iff_iff, decide_eq_true_eq]
      constructor
      · intro hc
        exact lt_m_of_testBit (seenTo_lt hm p m) hc
      · intro him
        obtain ⟨j, hj, e⟩ := mem_getDI.1 (h i him)
        exact (seenTo_iff p m i him).2 ⟨j, by omega, e⟩)
    rw [this, sz_full hm]
  · rintro ⟨hl, h⟩
    refine ⟨hl, fun i hi => ?_⟩
    have hs := newTo_sz hm h
    have : seenTo m p m = bit m - 1 := eq_of_sub_sz (by have := seenTo_lt hm p m; omega) (by omega) (fun j hj => by
      rw [testBit_all, decide_eq_true_eq]
      exact lt_m_of_testBit (seenTo_lt hm p m) hj) (by rw [sz_full hm]; omega)
    have hb2 : (seenTo m p m).testBit i = true := by rw [this, testBit_all, decide_eq_true_eq]; exact hi
    obtain ⟨j, hj, e⟩ := (seenTo_iff p m i hi).1 hb2
    exact mem_getDI.2 ⟨j, by omega, e⟩
/-- opened: whole numbers, each one once -/
theorem isOrd_open {m : Nat} (hm : m ≤ 8) {p : List Int} (h : isOrd m p) : ∃ O : List Nat, p = ints O ∧ O.length = m ∧ (∀ j, j < m → O.getD j 0 < m) ∧ (∀ i j, i < j → j < m → O.getD i 0 ≠ O.getD j 0) ∧ (∀ i, i < m → ∃ j, j < m ∧ O.getD j 0 = i) := by
  obtain ⟨hl, hn⟩ := (isOrd_iff hm).1 h
  have h0 : ∀ i, i < p.length → 0 ≤ p.getD i 0 := fun i hi => (hn i (by omega)).1
  refine ⟨toN p, (ints_toN h0).symm, by rw [toN_len]; exact hl, fun j hj => ?_, fun i j hij hj => ?_, fun i hi => ?_⟩
  · rw [toN_getD]; have := hn j hj; omega
  · rw [toN_getD, toN_getD]
    have h1 := hn j hj
    have h2 := hn i (by omega)
    have := h1.2.2 i hij
    omega
  · obtain ⟨j, hj, e⟩ := mem_getDI.1 (h.2 i hi)
    exact ⟨j, by omega, by rw [toN_getD, e]; omega⟩

/-! ### taken in an order -/
def takTo (L O : List Nat) : Nat → Nat
  | 0 => 0
  | k + 1 => if rk L (takTo L O k) < rk L (takTo L O k ||| bit (O.getD k 0)) then takTo L O k ||| bit (O.getD k 0) else takTo L O k
theorem takTo_succ (L O : List Nat) (k : Nat) : takTo L O (k + 1) = if rk L (takTo L O k) < rk L (takTo L O k ||| bit (O.getD k 0)) then takTo L O k ||| bit (O.getD k 0) else takTo L O k := rfl
theorem takTo_lt {m : Nat} {L O : List Nat} (hO : ∀ j, j < m → O.getD j 0 < m) : ∀ k, k ≤ m → takTo L O k < bit m
  | 0, _ => Nat.one_le_two_pow
  | k + 1, hk => by
    have ih := takTo_lt (L := L) hO k (by omega)
    rw [takTo_succ]
    split
    · exact or_lt_bit ih (bit_lt_bit (hO k (by omega)))
    · exact ih
theorem takTo_mono {L O : List Nat} {j : Nat} : ∀ k, j ≤ k → sub (takTo L O j) (takTo L O k)
  | 0, h => by
    have : j = 0 := by omega
    subst this; exact fun i h => h
  | k + 1, h => by
    by_cases e : j = k + 1
    · subst e; exact fun i h => h
    · have ih := takTo_mono (L := L) (O := O) (j := j) k (by omega)
      by_cases hc : rk L (takTo L O k) < rk L (takTo L O k ||| bit (O.getD k 0))
      · have e2 : takTo L O (k + 1) = takTo L O k ||| bit (O.getD k 0) := by rw [takTo_succ, if_pos hc]
        rw [e2]; exact sub_trans ih (sub_or_left _ _)
      · have e2 : takTo L O (k + 1) = takTo L O k := by rw [takTo_succ, if_neg hc]
        rw [e2]; exact ih
theorem takTo_from {L O : List Nat} {i : Nat} : ∀ k, (takTo L O k).testBit i = true → ∃ j, j < k ∧ O.getD j 0 = i ∧ rk L (takTo L O j) < rk L (takTo L O j ||| bit i)
  | 0, h => by
    have h : Nat.testBit 0 i = true := h
    simp at h
  | k + 1, h => by
    rw [takTo_succ] at h
    split at h
    · rename_i hc
      rw [or_bit_testBit, Bool.or_eq_true, decide_eq_true_eq] at h
      rcases h with h | h
      · obtain ⟨j, hj, e⟩ := takTo_from k h
        exact ⟨j, by omega, e⟩
      · subst h
        exact ⟨k, by omega, rfl, hc⟩
    · obtain ⟨j, hj, e⟩ := takTo_from k h
      exact ⟨j, by omega, e⟩
theorem takTo_ind {m : Nat} (hm : m ≤ 8) {L O : List Nat} (hne : L ≠ []) (hO : ∀ j, j < m → O.getD j 0 < m) : ∀ k, k ≤ m → Ind L (takTo L O k)
  | 0, _ => by
    obtain ⟨b, hb⟩ := List.exists_mem_of_ne_nil L hne
    exact ⟨b, hb, fun i h => by have h : Nat.testBit 0 i = true := h; simp at h⟩
  | k + 1, hk => by
    have hb := bit_le m hm
    have ih := takTo_ind hm hne hO k (by omega)
    have h8 := takTo_lt (L := L) hO k (by omega)
    have h9 := takTo_lt (L := L) hO (k + 1) hk
    rw [takTo_succ] at h9 ⊢
    split
    · rename_i hc
      rw [if_pos hc] at h9
      rw [ind_rk hne (by omega)]
      have h1 := rk_self ih
      have h2 := @sz_add_le (takTo L O k) (O.getD k 0) (by have := hO k (by omega); omega)
      have h3 := rk_le L (takTo L O k ||| bit (O.getD k 0))
      omega
    · exact ih
/-- what is taken is a basis -/
theorem takTo_basis {m r : Nat} (hm : m ≤ 8) {L O : List Nat} (hne : L ≠ []) (hF : Fam8 L r) (hE : Exch L) (hlt : ∀ b, b ∈ L → b < bit m) (hO : ∀ j, j < m → O.getD j 0 < m) (hall : ∀ i, i < m → ∃ j, j < m ∧ O.getD j 0 = i) : takTo L O m ∈ L := by
  have hb := bit_le m hm
  have hI := takTo_ind hm hne hO m (Nat.le_refl _)
  have h8 := takTo_lt (L := L) hO m (Nat.le_refl _)
  obtain ⟨B1, hB1, hs1⟩ := hI
  have hz1 : sz B1 = r := hF.eq B1 hB1
  have hle : sz (takTo L O m) ≤ r := by have := sz_mono hs1; omega
  refine mem_of_ind_sz hF (by omega) ⟨B1, hB1, hs1⟩ ?_
  apply Classical.byContradiction
  intro hn
  obtain ⟨y, hy8, hyB, hyG, hInd⟩ := augment hF hE (I := takTo L O m) (J := B1) (by omega) _ B1 B1 hB1 hB1 hs1 (fun i h => h) rfl
  have hym : y < m := lt_m_of_testBit (hlt B1 hB1) hyB
  obtain ⟨j, hj, e⟩ := hall y hym
  have hsub := takTo_mono (L := L) (O := O) (j := j) m (by omega)
  have hIj : Ind L (takTo L O j ||| bit y) := hInd.down (fun i hi => by
    rw [or_bit_testBit, Bool.or_eq_true] at hi ⊢
    exact hi.imp (hsub i) id)
  have hyj : (takTo L O j).testBit y = false := by
    rw [Bool.eq_false_iff]; intro hc
    rw [hsub y hc] at hyG; cases hyG
  have h1 := rk_self hIj
  rw [sz_add hy8 hyj] at h1
  have h2 := rk_le L (takTo L O j)
  have hacc : takTo L O (j + 1) = takTo L O j ||| bit y := by
    rw [takTo_succ, e, if_pos (by omega)]
  have h3 := takTo_mono (L := L) (O := O) (j := j + 1) m (by omega) y (by rw [hacc, or_bit_testBit]; simp)
  rw [h3] at hyG; cases hyG

/-! ### lists, by their first difference -/
def lexc : List Int → List Int → Int
  | [], [] => 0
  | [], _ :: _ => -1
  | _ :: _, [] => 1
  | a :: x, b :: y => if a < b then -1 else if b < a then 1 else lexc x y
theorem lexc_self : ∀ x : List Int, lexc x x = 0
  | [] => rfl
  | a :: x => by
    show (if a < a then (-1 : Int) else if a < a then 1 else lexc x x) = 0
    rw [if_neg (by omega), if_neg (by omega)]
    exact lexc_self x
theorem lexc_append (p x y : List Int) : lexc (p ++ x) (p ++ y) = lexc x y := by
  induction p with
  | nil => rfl
  | cons a p ih =>
    show (if a < a then (-1 : Int) else if a < a then 1 else lexc (p ++ x) (p ++ y)) = _
    rw [if_neg (by omega), if_neg (by omega)]
    exact ih
/-- where a set's elements stand in an order -/
def plc (O : List Nat) (s : Nat) : List Nat := (List.range O.length).filter (fun i => s.testBit (O.getD i 0))
def plcTo (O : List Nat) (s k : Nat) : List Nat := (List.range k).filter (fun i => s.testBit (O.getD i 0))
theorem plcTo_step (O : List Nat) (s k : Nat) : plcTo O s (k + 1) = if s.testBit (O.getD k 0) = true then plcTo O s k ++ [k] else plcTo O s k := by
  unfold plcTo
  rw [List.range_succ, List.filter_append]
  by_cases h : s.testBit (O.getD k 0) = true
  · simp only [List.filter_cons, List.filter_nil, h, if_true]
  · simp only [List.filter_cons, List.filter_nil, h, if_false, List.append_nil, Bool.false_eq_true]
theorem plcTo_len (O : List Nat) (s k : Nat) : (plcTo O s k).length ≤ k := by
  have := List.length_filter_le (fun i => s.testBit (O.getD i 0)) (List.range k)
  simpa [plcTo] using this
theorem plc_split (O : List Nat) (s : Nat) {t : Nat} (ht : t ≤ O.length) : plc O s = plcTo O s t ++ ((List.range (O.length - t)).map (fun i => t + i)).filter (fun i => s.testBit (O.getD i 0)) := by
  unfold plc plcTo
  rw [← List.filter_append]
  congr 1
  have : O.length = t + (O.length - t) := by omega
  conv => lhs; rw [this, List.range_add]
theorem plcTo_congr {O : List Nat} {s s' t : Nat} (h : ∀ i, i < t → s.testBit (O.getD i 0) = s'.testBit (O.getD i 0)) : plcTo O s t = plcTo O s' t := by
  unfold plcTo
  exact List.filter_congr (fun i hi => h i (by simpa using hi))
/-- of two sets: the first place at which they differ; the one that has the element comes first, unless the other one lies within it -/
theorem lex_first {O : List Nat} {s s' t : Nat} (ht : t < O.length) (h : ∀ i, i < t → s.testBit (O.getD i 0) = s'.testBit (O.getD i 0)) (h1 : s.testBit (O.getD t 0) = true) (h2 : s'.testBit (O.getD t 0) = false) (hmore : ∃ q, t < q ∧ q < O.length ∧ s'.testBit (O.getD q 0) = true) :
    lexc (ints (plc O s)) (ints (plc O s')) = -1 ∧ lexc (ints (plc O s')) (ints (plc O s)) = 1 := by
  rw [plc_split O s (Nat.le_of_lt ht), plc_split O s' (Nat.le_of_lt ht), plcTo_congr h]
  obtain ⟨q, hq1, hq2, hq3⟩ := hmore
  have hn : O.length - t = (O.length - t - 1) + 1 := by omega
  rw [hn, List.range_succ_eq_map, List.map_cons, Nat.add_zero]
  rw [List.filter_cons_of_pos (by simpa using h1), List.filter_cons_of_neg (by rw [h2]; decide)]
  have hmem : q ∈ (((List.range (O.length - t - 1)).map Nat.succ).map (fun i => t + i)).filter (fun i => s'.testBit (O.getD i 0)) := by
    rw [List.mem_filter, List.mem_map]
    refine ⟨⟨q - t, List.mem_map.2 ⟨q - t - 1, by simp; omega, by omega⟩, by omega⟩, hq3⟩
  have hgt : ∀ x, x ∈ (((List.range (O.length - t - 1)).map Nat.succ).map (fun i => t + i)).filter (fun i => s'.testBit (O.getD i 0)) → t < x := by
    intro x hx
    obtain ⟨hx, _⟩ := List.mem_filter.1 hx
    obtain ⟨y, hy, rfl⟩ := List.mem_map.1 hx
    obtain ⟨z, _, rfl⟩ := List.mem_map.1 hy
    omega
  generalize (((List.range (O.length - t - 1)).map Nat.succ).map (fun i => t + i)).filter (fun i => s'.testBit (O.getD i 0)) = Y at *
  generalize (((List.range (O.length - t - 1)).map Nat.succ).map (fun i => t + i)).filter (fun i => s.testBit (O.getD i 0)) = X at *
  cases Y with
  | nil => cases hmem
  | cons y Y =>
    have hy := hgt y List.mem_cons_self
    have e1 : ints (plcTo O s' t ++ t :: X) = ints (plcTo O s' t) ++ ((t : Int) :: ints X) := by unfold ints; rw [List.map_append, List.map_cons]
    have e2 : ints (plcTo O s' t ++ y :: Y) = ints (plcTo O s' t) ++ ((y : Int) :: ints Y) := by unfold ints; rw [List.map_append, List.map_cons]
    rw [e1, e2, lexc_append, lexc_append]
    refine ⟨?_, ?_⟩
    · show (if (t : Int) < y then (-1 : Int) else _) = -1
      rw [if_pos (by omega)]
    · show (if (y : Int) < t then (-1 : Int) else if (t : Int) < y then 1 else _) = 1
      rw [if_neg (by omega), if_pos (by omega)]
theorem first_diff {P : Nat → Prop} (n : Nat) (h : ∃ i, i < n ∧ P i) : ∃ t, t < n ∧ P t ∧ ∀ i, i < t → ¬ P i := by
  induction n with
  | zero => obtain ⟨i, hi, _⟩ := h; omega
  | succ n ih =>
    by_cases c : ∃ i, i < n ∧ P i
    · obtain ⟨t, h1, h2⟩ := ih c
      exact ⟨t, by omega, h2⟩
    · obtain ⟨i, hi, hp⟩ := h
      have e : i = n := by
        by_cases c2 : i < n
        · exact absurd ⟨i, c2, hp⟩ c
        · omega
      subst e
      exact ⟨i, by omega, hp, fun j hj hpj => c ⟨j, hj, hpj⟩⟩
/-- the basis that is taken comes before every other one -/
theorem greedy_first {m r : Nat} (hm : m ≤ 8) {L O : List Nat} (hne : L ≠ []) (hF : Fam8 L r) (hE : Exch L) (hlt : ∀ b, b ∈ L → b < bit m) (hOl : O.length = m) (hO : ∀ j, j < m → O.getD j 0 < m) (hnd : ∀ i j, i < j → j < m → O.getD i 0 ≠ O.getD j 0) (hall : ∀ i, i < m → ∃ j, j < m ∧ O.getD j 0 = i) {B : Nat} (hB : B ∈ L) (hBG : B ≠ takTo L O m) :
    lexc (ints (plc O (takTo L O m))) (ints (plc O B)) = -1 ∧ lexc (ints (plc O B)) (ints (plc O (takTo L O m))) = 1 := by
  have hb := bit_le m hm
  have hG := takTo_basis hm hne hF hE hlt hO hall
  have hB8 := hlt B hB
  have hG8 := hlt _ hG
  have hszB : sz B = r := hF.eq B hB
  have hszG : sz (takTo L O m) = r := hF.eq _ hG
  obtain ⟨t, htm, hdiff, hsame⟩ := first_diff (P := fun t => (takTo L O m).testBit (O.getD t 0) ≠ B.testBit (O.getD t 0)) m (by
    apply Classical.byContradiction
    intro hn
    refine hBG (eq_of_bits (by omega) (by omega) (fun i hi => ?_))
    by_cases him : i < m
    · obtain ⟨j, hj, e⟩ := hall i him
      apply Classical.byContradiction
      intro hne2
      exact hn ⟨j, hj, by show _ ≠ _; rw [e]; exact fun h => hne2 h.symm⟩
    · have h1 : B.testBit i = false := by
        rw [Bool.eq_false_iff]; intro hc; exact him (lt_m_of_testBit hB8 hc)
      have h2 : (takTo L O m).testBit i = false := by
        rw [Bool.eq_false_iff]; intro hc; exact him (lt_m_of_testBit hG8 hc)
      rw [h1, h2])
  have hsame' : ∀ i, i < t → (takTo L O m).testBit (O.getD i 0) = B.testBit (O.getD i 0) := fun i hi => Classical.byContradiction (hsame i hi)
  have hx8 : O.getD t 0 < 8 := by have := hO t htm; omega
  -- the greedy one has the element
  have hGt : (takTo L O m).testBit (O.getD t 0) = true := by
    apply Classical.byContradiction
    intro hc
    have hc : (takTo L O m).testBit (O.getD t 0) = false := by simpa using hc
    have hBt : B.testBit (O.getD t 0) = true := by
      rw [hc] at hdiff
      cases hv : B.testBit (O.getD t 0)
      · rw [hv] at hdiff; exact absurd rfl hdiff
      · rfl
    have hsub : sub (takTo L O t) B := fun i hi => by
      obtain ⟨j, hj, e, _⟩ := takTo_from t hi
      have h1 := takTo_mono (L := L) (O := O) (j := t) m (by omega) i hi
      have h2 := hsame' j hj
      rw [e, h1] at h2
      exact h2.symm
    have hnot : (takTo L O t).testBit (O.getD t 0) = false := by
      rw [Bool.eq_false_iff]; intro h
      have := takTo_mono (L := L) (O := O) (j := t) m (by omega) _ h
      rw [hc] at this; cases this
    have hI : Ind L (takTo L O t ||| bit (O.getD t 0)) := ⟨B, hB, fun i hi => by
      rw [or_bit_testBit, Bool.or_eq_true, decide_eq_true_eq] at hi
      rcases hi with hi | hi
      · exact hsub i hi
      · rw [← hi]; exact hBt⟩
    have h1 := rk_self hI
    rw [sz_add hx8 hnot] at h1
    have h2 := rk_le L (takTo L O t)
    have hacc : takTo L O (t + 1) = takTo L O t ||| bit (O.getD t 0) := by
      rw [takTo_succ, if_pos (by omega)]
    have h3 := takTo_mono (L := L) (O := O) (j := t + 1) m (by omega) (O.getD t 0) (by rw [hacc, or_bit_testBit]; simp)
    rw [hc] at h3; cases h3
  have hBt : B.testBit (O.getD t 0) = false := by
    rw [Bool.eq_false_iff]; intro h; rw [hGt, h] at hdiff; exact hdiff rfl
  refine lex_first (by omega) hsame' hGt hBt ?_
  apply Classical.byContradiction
  intro hn
  have hsub : sub B (takTo L O m) := fun i hi => by
    have him := lt_m_of_testBit hB8 hi
    obtain ⟨j, hj, e⟩ := hall i him
    by_cases c1 : j < t
    · have := hsame' j c1
      rw [e, hi] at this; exact this
    · by_cases c2 : j = t
      · subst c2; rw [e] at hBt; rw [hi] at hBt; cases hBt
      · exact absurd ⟨j, by omega, by omega, by rw [e]; exact hi⟩ hn
  exact hBG (eq_of_sub_sz (by omega) (by omega) hsub (by omega))

end Go.Proofs.Ytenbeiafdiifgaa
