
/-
  Greedy bases, plainly: orders of elements, the order by weight, the basis that comes first.
  The order by weight, and the steps, plainly.
  greedy.weights, rotaref.Priced, rotalaw.priced, rotaref.IsOrder.
-/
import Derived.Test.YtdcdhdlklppalaaPk11
import Derived.Test.YtdcdhdlklppalaaPk30
import Derived.Test.YtdcdhdlklppalaaPk06
import Derived.Test.YtdcdhdlklppalaaPk05
import Derived.Test.YtdcdhdlklppalaaPk09
import Derived.Test.YtdcdhdlklppalaaPk23
namespace Go.Proofs.Ytdcdhdlklppalaa
set_option linter.unusedVariables false

/-! ### orders of all elements -/
/-- the elements below m that stand among the first k -/
def seenTo (m : Nat) (p : List Int) : Nat → Nat
  | 0 => 0
  | k + 1 => if 0 ≤ p.getD k 0 ∧ p.getD k 0 < m then seenTo m p k ||| bit (p.getD k 0).toNat else seenTo m p k
theorem seenTo_lt {m : Nat} (hm : m ≤ 8) (p : List Int) (k : Nat) : seenTo m p k < bit m := by
  have hb := bit_le m hm
  induction k with
  | zero => show 0 < bit m; omega
  | succ k ih =>
    unfold seenTo
    split
    · rename_i h
      exact or_lt_bit ih (bit_lt_bit (by omega))
    · exact ih
theorem seenTo_iff {m : Nat} (p : List Int) (k i : Nat) (hi : i < m) : (seenTo m p k).testBit i = true ↔ ∃ j, j < k ∧ p.getD j 0 = i := by
  induction k with
  | zero =>
    show Nat.testBit 0 i = true ↔ _
    simp
  | succ k ih =>
    unfold seenTo
    split
    · rename_i h
      rw [or_bit_testBit, Bool.or_eq_true, ih, decide_eq_true_eq]
      constructor
      · rintro (⟨j, hj, e⟩ | e)
        · exact ⟨j, by omega, e⟩
        · exact ⟨k, by omega, by omega⟩
      · rintro ⟨j, hj, e⟩
        by_cases c : j = k
        · subst c; exact .inr (by omega)
        · exact .inl ⟨j, by omega, e⟩
    · rename_i h
      rw [ih]
      constructor
      · rintro ⟨j, hj, e⟩; exact ⟨j, by omega, e⟩
      · rintro ⟨j, hj, e⟩
        by_cases c : j = k
        · subst c; exact absurd ⟨by omega, by omega⟩ h
        · exact ⟨j, by omega, e⟩
/-- all of the first k are elements, no one twice -/
def newTo (m : Nat) (p : List Int) (k : Nat) : Prop := ∀ j, j < k → 0 ≤ p.getD j 0 ∧ p.getD j 0 < m ∧ ∀ i, i < j → p.getD i 0 ≠ p.getD j 0
theorem newTo_sz {m : Nat} (hm : m ≤ 8) {p : List Int} {k : Nat} (h : newTo m p k) : sz (seenTo m p k) = k := by
  induction k with
  | zero => exact sz_zero
  | succ k ih =>
    have h1 := h k (by omega)
    have ih := ih (fun j hj => h j (by omega))
    unfold seenTo
    rw [if_pos ⟨h1.1, h1.2.1⟩, sz_add (by omega), ih]
    rw [Bool.eq_false_iff]
    intro hc
    obtain ⟨j, hj, e⟩ := (seenTo_iff p k (p.getD k 0).toNat (by omega)).1 hc
    exact h1.2.2 j hj (by omega)
theorem seenTo_sz_le (m : Nat) (hm : m ≤ 8) (p : List Int) (k : Nat) : sz (seenTo m p k) ≤ k := by
  induction k with
  | zero => exact Nat.le_of_eq sz_zero
  | succ k ih =>
    unfold seenTo
    split
    · rename_i h
      have := @sz_add_le (seenTo m p k) (p.getD k 0).toNat (by omega)
      omega
    · omega
theorem newTo_of_sz {m : Nat} (hm : m ≤ 8) {p : List Int} {k : Nat} (h : sz (seenTo m p k) = k) : newTo m p k := by
  induction k with
  | zero => intro j hj; omega
  | succ k ih =>
    have hk := seenTo_sz_le m hm p k
    unfold seenTo at h
    split at h
    · rename_i hr
      have h2 := @sz_add_le (seenTo m p k) (p.getD k 0).toNat (by omega)
      have ih := ih (by omega)
      intro j hj
      by_cases c : j = k
      · subst c
        refine ⟨hr.1, hr.2, fun i hi e => ?_⟩
        have hb : (seenTo m p j).testBit (p.getD j 0).toNat = true := (seenTo_iff p j _ (by omega)).2 ⟨i, hi, by omega⟩
        rw [or_same hb] at h
        omega
      · exact ih j (by omega)
    · omega
/-- an order of all elements -/
def isOrd (m : Nat) (p : List Int) : Prop := p.length = m ∧ ∀ i : Nat, i < m → (i : Int) ∈ p
instance (m : Nat) (p : List Int) : Decidable (isOrd m p) := by unfold isOrd; infer_instance
theorem mem_getDI {l : List Int} {x : Int} : x ∈ l ↔ ∃ j, j < l.length ∧ l.getD j 0 = x := by
  constructor
  · intro h
    obtain ⟨i, hi, e⟩ := List.getElem_of_mem h
    exact ⟨i, hi, by simp [hi, e]⟩
  · rintro ⟨j, hj, rfl⟩; simp [hj]
theorem isOrd_iff {m : Nat} (hm : m ≤ 8) {p : List Int} : isOrd m p ↔ p.length = m ∧ newTo m p m := by
  have hb := bit_le m hm
  constructor
  · rintro ⟨hl, h⟩
    refine ⟨hl, newTo_of_sz hm ?_⟩
    have : seenTo m p m = bit m - 1 := eq_of_bits (by have := seenTo_lt hm p m; omega) (by omega) (fun i hi => by
      rw [testBit_all, Bool.eq_iff_iff, decide_eq_true_eq]
      constructor
      · intro hc
        exact lt_m_of_testBit (seenTo_lt hm p m) hc
      · intro him
        obtain ⟨j, hj, e⟩ := mem_getDI.1 (h i him)
        exact (seenTo_iff p m i him).2 ⟨j, by omega, e⟩)
    rw [this, sz_full hm]
  · rintro ⟨hl, h⟩
    refine ⟨hl, fun i hi => ?_⟩
    have hs := newTo_sz hm h
    have : seenTo m p m = bit m - 1 := eq_of_sub_sz (by have := seenTo_lt hm p m; omega) (by omega) (fun j hj => by
      rw [testBit_all, decide_eq_true_eq]
      exact lt_m_of_testBit (seenTo_lt hm p m) hj) (by rw [sz_full hm]; omega)
    have hb2 : (seenTo m p m).testBit i = true := by rw [this, testBit_all, decide_eq_true_eq]; exact hi
    obtain ⟨j, hj, e⟩ := (seenTo_iff p m i hi).1 hb2
    exact mem_getDI.2 ⟨j, by omega, e⟩
/-- opened: whole numbers, each one once -/
theorem isOrd_open {m : Nat} (hm : m ≤ 8) {p : List Int} (h : isOrd m p) : ∃ O : List Nat, p = ints O ∧ O.length = m ∧ (∀ j, j < m → O.getD j 0 < m) ∧ (∀ i j, i < j → j < m → O.getD i 0 ≠ O.getD j 0) ∧ (∀ i, i < m → ∃ j, j < m ∧ O.getD j 0 = i) := by
  obtain ⟨hl, hn⟩ := (isOrd_iff hm).1 h
  have h0 : ∀ i, i < p.length → 0 ≤ p.getD i 0 := fun i hi => (hn i (by omega)).1
  refine ⟨toN p, (ints_toN h0).symm, by rw [toN_len]; exact hl, fun j hj => ?_, fun i j hij hj => ?_, fun i hi => ?_⟩
  · rw [toN_getD]; have := hn j hj; omega
  · rw [toN_getD, toN_getD]
    have h1 := hn j hj
    have h2 := hn i (by omega)
    have := h1.2.2 i hij
    omega
  · obtain ⟨j, hj, e⟩ := mem_getDI.1 (h.2 i hi)
    exact ⟨j, by omega, by rw [toN_getD, e]; omega⟩

/-! ### taken in an order -/
def takTo (L O : List Nat) : Nat → Nat
  | 0 => 0
  | k + 1 => if rk L (takTo L O k) < rk L (takTo L O k ||| bit (O.getD k 0)) then takTo L O k ||| bit (O.getD k 0) else takTo L O k
theorem takTo_succ (L O : List Nat) (k : Nat) : takTo L O (k + 1) = if rk L (takTo L O k) < rk L (takTo L O k ||| bit (O.getD k 0)) then takTo L O k ||| bit (O.getD k 0) else takTo L O k := rfl
theorem takTo_lt {m : Nat} {L O : List Nat} (hO : ∀ j, j < m → O.getD j 0 < m) : ∀ k, k ≤ m → takTo L O k < bit m
  | 0, _ => Nat.one_le_two_pow
  | k + 1, hk => by
    have ih := takTo_lt (L := L) hO k (by omega)
    rw [takTo_succ]
    split
    · exact or_lt_bit ih (bit_lt_bit (hO k (by omega)))
    · exact ih
theorem takTo_mono {L O : List Nat} {j : Nat} : ∀ k, j ≤ k → sub (takTo L O j) (takTo L O k)
  | 0, h => by
    have : j = 0 := by omega
    subst this; exact fun i h => h
  | k + 1, h => by
    by_cases e : j = k + 1
    · subst e; exact fun i h => h
    · have ih := takTo_mono (L := L) (O := O) (j := j) k (by omega)
      by_cases hc : rk L (takTo L O k) < rk L (takTo L O k ||| bit (O.getD k 0))
      · have e2 : takTo L O (k + 1) = takTo L O k ||| bit (O.getD k 0) := by rw [takTo_succ, if_pos hc]
        rw [e2]; exact sub_trans ih (sub_or_left _ _)
      · have e2 : takTo L O (k + 1) = takTo L O k := by rw [takTo_succ, if_neg hc]
        rw [e2]; exact ih
theorem takTo_from {L O : List Nat} {i : Nat} : ∀ k, (takTo L O k).testBit i = true → ∃ j, j < k ∧ O.getD j 0 = i ∧ rk L (takTo L O j) < rk L (takTo L O j ||| bit i)
  | 0, h => by
    have h : Nat.testBit 0 i = true := h
    simp at h
  | k + 1, h => by
    rw [takTo_succ] at h
    split at h
    · rename_i hc
      rw [or_bit_testBit, Bool.or_eq_true, decide_eq_true_eq] at h
      rcases h with h | h
      · obtain ⟨j, hj, e⟩ := takTo_from k h
        exact ⟨j, by omega, e⟩
      · subst h
        exact ⟨k, by omega, rfl, hc⟩
    · obtain ⟨j, hj, e⟩ := takTo_from k h
      exact ⟨j, by omega, e⟩
theorem takTo_ind {m : Nat} (hm : m ≤ 8) {L O : List Nat} (hne : L ≠ []) (hO : ∀ j, j < m → O.getD j 0 < m) : ∀ k, k ≤ m → Ind L (takTo L O k)
  | 0, _ => by
    obtain ⟨b, hb⟩ := List.exists_mem_of_ne_nil L hne
    exact ⟨b, hb, fun i h => by have h : Nat.testBit 0 i = true := h; simp at h⟩
  | k + 1, hk => by
    have hb := bit_le m hm
    have ih := takTo_ind hm hne hO k (by omega)
    have h8 := takTo_lt (L := L) hO k (by omega)
    have h9 := takTo_lt (L := L) hO (k + 1) hk
    rw [takTo_succ] at h9 ⊢
    split
    · rename_i hc
      rw [if_pos hc] at h9
      rw [ind_rk hne (by omega)]
      have h1 := rk_self ih
      have h2 := @sz_add_le (takTo L O k) (O.getD k 0) (by have := hO k (by omega); omega)
      have h3 := rk_le L (takTo L O k ||| bit (O.getD k 0))
      omega
    · exact ih
/-- what is taken is a basis -/
theorem takTo_basis {m r : Nat} (hm : m ≤ 8) {L O : List Nat} (hne : L ≠ []) (hF : Fam8 L r) (hE : Exch L) (hlt : ∀ b, b ∈ L → b < bit m) (hO : ∀ j, j < m → O.getD j 0 < m) (hall : ∀ i, i < m → ∃ j, j < m ∧ O.getD j 0 = i) : takTo L O m ∈ L := by
  have hb := bit_le m hm
  have hI := takTo_ind hm hne hO m (Nat.le_refl _)
  have h8 := takTo_lt (L := L) hO m (Nat.le_refl _)
  obtain ⟨B1, hB1, hs1⟩ := hI
  have hz1 : sz B1 = r := hF.eq B1 hB1
  have hle : sz (takTo L O m) ≤ r := by have := sz_mono hs1; omega
  refine mem_of_ind_sz hF (by omega) ⟨B1, hB1, hs1⟩ ?_
  apply Classical.byContradiction
  intro hn
  obtain ⟨y, hy8, hyB, hyG, hInd⟩ := augment hF hE (I := takTo L O m) (J := B1) (by omega) _ B1 B1 hB1 hB1 hs1 (fun i h => h) rfl
  have hym : y < m := lt_m_of_testBit (hlt B1 hB1) hyB
  obtain ⟨j, hj, e⟩ := hall y hym
  have hsub := takTo_mono (L := L) (O := O) (j := j) m (by omega)
  have hIj : Ind L (takTo L O j ||| bit y) := hInd.down (fun i hi => by
    rw [or_bit_testBit, Bool.or_eq_true] at hi ⊢
    exact hi.imp (hsub i) id)
  have hyj : (takTo L O j).testBit y = false := by
    rw [Bool.eq_false_iff]; intro hc
    rw [hsub y hc] at hyG; cases hyG
  have h1 := rk_self hIj
  rw [sz_add hy8 hyj] at h1
  have h2 := rk_le L (takTo L O j)
  have hacc : takTo L O (j + 1) = takTo L O j ||| bit y := by
    rw [takTo_succ, e, if_pos (by omega)]
  have h3 := takTo_mono (L := L) (O := O) (j := j + 1) m (by omega) y (by rw [hacc, or_bit_testBit]; simp)
  rw [h3] at hyG; cases hyG

/-! ### lists, by their first difference -/
def lexc : List Int → List Int → Int
  | [], [] => 0
  | [], _ :: _ => -1
  | _ :: _, [] => 1
  | a :: x, b :: y => if a < b then -1 else if b < a then 1 else lexc x y
theorem lexc_self : ∀ x : List Int, lexc x x = 0
  | [] => rfl
  | a :: x => by
    show (if a < a then (-1 : Int) else if a < a then 1 else lexc x x) = 0
    rw [if_neg (by omega), if_neg (by omega)]
    exact lexc_self x
theorem lexc_append (p x y : List Int) : lexc (p ++ x) (p ++ y) = lexc x y := by
  induction p with
  | nil => rfl
  | cons a p ih =>
    show (if a < a then (-1 : Int) else if a < a then 1 else lexc (p ++ x) (p ++ y)) = _
    rw [if_neg (by omega), if_neg (by omega)]
    exact ih
/-- where a set's elements stand in an order -/
def plc (O : List Nat) (s : Nat) : List Nat := (List.range O.length).filter (fun i => s.testBit (O.getD i 0))
def plcTo (O : List Nat) (s k : Nat) : List Nat := (List.range k).filter (fun i => s.testBit (O.getD i 0))
theorem plcTo_step (O : List Nat) (s k : Nat) : plcTo O s (k + 1) = if s.testBit (O.getD k 0) = true then plcTo O s k ++ [k] else plcTo O s k := by
  unfold plcTo
  rw [List.range_succ, List.filter_append]
  by_cases h : s.testBit (O.getD k 0) = true
  · simp only [List.filter_cons, List.filter_nil, h, if_true]
  · simp only [List.filter_cons, List.filter_nil, h, if_false, List.append_nil, Bool.false_eq_true]
theorem plcTo_len (O : List Nat) (s k : Nat) : (plcTo O s k).length ≤ k := by
  have := List.length_filter_le (fun i => s.testBit (O.getD i 0)) (List.range k)
  simpa [plcTo] using this
theorem plc_split (O : List Nat) (s : Nat) {t : Nat} (ht : t ≤ O.length) : plc O s = plcTo O s t ++ ((List.range (O.length - t)).map (fun i => t + i)).filter (fun i => s.testBit (O.getD i 0)) := by
  unfold plc plcTo
  rw [← List.filter_append]
  congr 1
  have : O.length = t + (O.length - t) := by omega
  conv => lhs; rw [this, List.range_add]
theorem plcTo_congr {O : List Nat} {s s' t : Nat} (h : ∀ i, i < t → s.testBit (O.getD i 0) = s'.testBit (O.getD i 0)) : plcTo O s t = plcTo O s' t := by
  unfold plcTo
  exact List.filter_congr (fun i hi => h i (by simpa using hi))
/-- of two sets: the first place at which they differ; the one that has the element comes first, unless the other one lies within it -/
theorem lex_first {O : List Nat} {s s' t : Nat} (ht : t < O.length) (h : ∀ i, i < t → s.testBit (O.getD i 0) = s'.testBit (O.getD i 0)) (h1 : s.testBit (O.getD t 0) = true) (h2 : s'.testBit (O.getD t 0) = false) (hmore : ∃ q, t < q ∧ q < O.length ∧ s'.testBit (O.getD q 0) = true) :
    lexc (ints (plc O s)) (ints (plc O s')) = -1 ∧ lexc (ints (plc O s')) (ints (plc O s)) = 1 := by
  rw [plc_split O s (Nat.le_of_lt ht), plc_split O s' (Nat.le_of_lt ht), plcTo_congr h]
  obtain ⟨q, hq1, hq2, hq3⟩ := hmore
  have hn : O.length - t = (O.length - t - 1) + 1 := by omega
  rw [hn, List.range_succ_eq_map, List.map_cons, Nat.add_zero]
  rw [List.filter_cons_of_pos (by simpa using h1), List.filter_cons_of_neg (by rw [h2]; decide)]
  have hmem : q ∈ (((List.range (O.length - t - 1)).map Nat.succ).map (fun i => t + i)).filter (fun i => s'.testBit (O.getD i 0)) := by
    rw [List.mem_filter, List.mem_map]
    refine ⟨⟨q - t, List.mem_map.2 ⟨q - t - 1, by simp; omega, by omega⟩, by omega⟩, hq3⟩
  have hgt : ∀ x, x ∈ (((List.range (O.length - t - 1)).map Nat.succ).map (fun i => t + i)).filter (fun i => s'.testBit (O.getD i 0)) → t < x := by
    intro x hx
    obtain ⟨hx, _⟩ := List.mem_filter.1 hx
    obtain ⟨y, hy, rfl⟩ := List.mem_map.1 hx
    obtain ⟨z, _, rfl⟩ := List.mem_map.1 hy
    omega
  generalize (((List.range (O.length - t - 1)).map Nat.succ).map (fun i => t + i)).filter (fun i => s'.testBit (O.getD i 0)) = Y at *
  generalize (((List.range (O.length - t - 1)).map Nat.succ).map (fun i => t + i)).filter (fun i => s.testBit (O.getD i 0)) = X at *
  cases Y with
  | nil => cases hmem
  | cons y Y =>
    have hy := hgt y List.mem_cons_self
    have e1 : ints (plcTo O s' t ++ t :: X) = ints (plcTo O s' t) ++ ((t : Int) :: ints X) := by unfold ints; rw [List.map_append, List.map_cons]
    have e2 : ints (plcTo O s' t ++ y :: Y) = ints (plcTo O s' t) ++ ((y : Int) :: ints Y) := by unfold ints; rw [List.map_append, List.map_cons]
    rw [e1, e2, lexc_append, lexc_append]
    refine ⟨?_, ?_⟩
    · show (if (t : Int) < y then (-1 : Int) else _) = -1
      rw [if_pos (by omega)]
    · show (if (y : Int) < t then (-1 : Int) else if (t : Int) < y then 1 else _) = 1
      rw [if_neg (by omega), if_pos (by omega)]
theorem first_diff {P : Nat → Prop} (n : Nat) (h : ∃ i, i < n ∧ P i) : ∃ t, t < n ∧ P t ∧ ∀ i, i < t → ¬ P i := by
  induction n with
  | zero => obtain ⟨i, hi, _⟩ := h; omega
  | succ n ih =>
    by_cases c : ∃ i, i < n ∧ P i
    · obtain ⟨t, h1, h2⟩ := ih c
      exact ⟨t, by omega, h2⟩
    · obtain ⟨i, hi, hp⟩ := h
      have e : i = n := by
        by_cases c2 : i < n
        · exact absurd ⟨i, c2, hp⟩ c
        · omega
      subst e
      exact ⟨i, by omega, hp, fun j hj hpj => c ⟨j, hj, hpj⟩⟩
/-- the basis that is taken comes before every other one -/
theorem greedy_first {m r : Nat} (hm : m ≤ 8) {L O : List Nat} (hne : L ≠ []) (hF : Fam8 L r) (hE : Exch L) (hlt : ∀ b, b ∈ L → b < bit m) (hOl : O.length = m) (hO : ∀ j, j < m → O.getD j 0 < m) (hnd : ∀ i j, i < j → j < m → O.getD i 0 ≠ O.getD j 0) (hall : ∀ i, i < m → ∃ j, j < m ∧ O.getD j 0 = i) {B : Nat} (hB : B ∈ L) (hBG : B ≠ takTo L O m) :
    lexc (ints (plc O (takTo L O m))) (ints (plc O B)) = -1 ∧ lexc (ints (plc O B)) (ints (plc O (takTo L O m))) = 1 := by
  have hb := bit_le m hm
  have hG := takTo_basis hm hne hF hE hlt hO hall
  have hB8 := hlt B hB
  have hG8 := hlt _ hG
  have hszB : sz B = r := hF.eq B hB
  have hszG : sz (takTo L O m) = r := hF.eq _ hG
  obtain ⟨t, htm, hdiff, hsame⟩ := first_diff (P := fun t => (takTo L O m).testBit (O.getD t 0) ≠ B.testBit (O.getD t 0)) m (by
    apply Classical.byContradiction
    intro hn
    refine hBG (eq_of_bits (by omega) (by omega) (fun i hi => ?_))
    by_cases him : i < m
    · obtain ⟨j, hj, e⟩ := hall i him
      apply Classical.byContradiction
      intro hne2
      exact hn ⟨j, hj, by show _ ≠ _; rw [e]; exact fun h => hne2 h.symm⟩
    · have h1 : B.testBit i = false := by
        rw [Bool.eq_false_iff]; intro hc; exact him (lt_m_of_testBit hB8 hc)
      have h2 : (takTo L O m).testBit i = false := by
        rw [Bool.eq_false_iff]; intro hc; exact him (lt_m_of_testBit hG8 hc)
      rw [h1, h2])
  have hsame' : ∀ i, i < t → (takTo L O m).testBit (O.getD i 0) = B.testBit (O.getD i 0) := fun i hi => Classical.byContradiction (hsame i hi)
  have hx8 : O.getD t 0 < 8 := by have := hO t htm; omega
  -- the greedy one has the element
  have hGt : (takTo L O m).testBit (O.getD t 0) = true := by
    apply Classical.byContradiction
    intro hc
    have hc : (takTo L O m).testBit (O.getD t 0) = false := by simpa using hc
    have hBt : B.testBit (O.getD t 0) = true := by
      rw [hc] at hdiff
      cases hv : B.testBit (O.getD t 0)
      · rw [hv] at hdiff; exact absurd rfl hdiff
      · rfl
    have hsub : sub (takTo L O t) B := fun i hi => by
      obtain ⟨j, hj, e, _⟩ := takTo_from t hi
      have h1 := takTo_mono (L := L) (O := O) (j := t) m (by omega) i hi
      have h2 := hsame' j hj
      rw [e, h1] at h2
      exact h2.symm
    have hnot : (takTo L O t).testBit (O.getD t 0) = false := by
      rw [Bool.eq_false_iff]; intro h
      have := takTo_mono (L := L) (O := O) (j := t) m (by omega) _ h
      rw [hc] at this; cases this
    have hI : Ind L (takTo L O t ||| bit (O.getD t 0)) := ⟨B, hB, fun i hi => by
      rw [or_bit_testBit, Bool.or_eq_true, decide_eq_true_eq] at hi
      rcases hi with hi | hi
      · exact hsub i hi
      · rw [← hi]; exact hBt⟩
    have h1 := rk_self hI
    rw [sz_add hx8 hnot] at h1
    have h2 := rk_le L (takTo L O t)
    have hacc : takTo L O (t + 1) = takTo L O t ||| bit (O.getD t 0) := by
      rw [takTo_succ, if_pos (by omega)]
    have h3 := takTo_mono (L := L) (O := O) (j := t + 1) m (by omega) (O.getD t 0) (by rw [hacc, or_bit_testBit]; simp)
    rw [hc] at h3; cases h3
  have hBt : B.testBit (O.getD t 0) = false := by
    rw [Bool.eq_false_iff]; intro h; rw [hGt, h] at hdiff; exact hdiff rfl
  refine lex_first (by omega) hsame' hGt hBt ?_
  apply Classical.byContradiction
  intro hn
  have hsub : sub B (takTo L O m) := fun i hi => by
    have him := lt_m_of_testBit hB8 hi
    obtain ⟨j, hj, e⟩ := hall i him
    by_cases c1 : j < t
    · have := hsame' j c1
      rw [e, hi] at this; exact this
    · by_cases c2 : j = t
      · subst c2; rw [e] at hBt; rw [hi] at hBt; cases hBt
      · exact absurd ⟨j, by omega, by omega, by rw [e]; exact hi⟩ hn
  exact hBG (eq_of_sub_sz (by omega) (by omega) hsub (by omega))

end Go.Proofs.Ytdcdhdlklppalaa

namespace Go.Proofs.Ytdcdhdlklppalaa
set_option linter.unusedVariables false

/-! ### the order by weight -/
def before (w : Nat → Int) (a b : Nat) : Prop := w b < w a ∨ (w a = w b ∧ a < b)
def posW (w : Nat → Int) (x : Int) : List Nat → Nat
  | [] => 0
  | e :: R => if x ≤ w e then posW w x R + 1 else 0
theorem posW_le (w : Nat → Int) (x : Int) (R : List Nat) : posW w x R ≤ R.length := by
  induction R with
  | nil => exact Nat.zero_le _
  | cons e R ih =>
    show (if x ≤ w e then posW w x R + 1 else 0) ≤ R.length + 1
    split <;> omega
theorem posW_ge {w : Nat → Int} {x : Int} : ∀ {R : List Nat} {t : Nat}, t < posW w x R → x ≤ w (R.getD t 0)
  | [], t, h => by have h : t < 0 := h; omega
  | e :: R, t, h => by
    have h : t < (if x ≤ w e then posW w x R + 1 else 0) := h
    split at h
    · rename_i hc
      cases t with
      | zero => simpa using hc
      | succ t => simpa using posW_ge (R := R) (t := t) (by omega)
    · omega
theorem posW_lt {w : Nat → Int} {x : Int} : ∀ {R : List Nat}, posW w x R < R.length → w (R.getD (posW w x R) 0) < x
  | [], h => by have h : 0 < 0 := h; omega
  | e :: R, h => by
    by_cases hc : x ≤ w e
    · have e1 : posW w x (e :: R) = posW w x R + 1 := by show (if x ≤ w e then _ else _) = _; rw [if_pos hc]
      rw [e1] at h ⊢
      simpa using posW_lt (R := R) (by simpa using h)
    · have e1 : posW w x (e :: R) = 0 := by show (if x ≤ w e then _ else _) = _; rw [if_neg hc]
      rw [e1]
      simp; omega
theorem posW_unique {w : Nat → Int} {x : Int} {R : List Nat} {k : Nat} (h1 : k ≤ R.length) (h2 : ∀ t, t < k → x ≤ w (R.getD t 0)) (h3 : k < R.length → w (R.getD k 0) < x) : k = posW w x R := by
  apply Classical.byContradiction
  intro hne
  by_cases c : k < posW w x R
  · have a1 := posW_ge c
    have a2 := posW_le w x R
    have a3 := h3 (by omega)
    omega
  · have a1 := posW_lt (w := w) (x := x) (R := R) (by omega)
    have a2 := h2 (posW w x R) (by omega)
    omega
def insAt (R : List Nat) (k x : Nat) : List Nat := R.take k ++ x :: R.drop k
theorem insAt_len {R : List Nat} {k : Nat} (x : Nat) (h : k ≤ R.length) : (insAt R k x).length = R.length + 1 := by
  unfold insAt; simp; omega
theorem insAt_getD {R : List Nat} {k : Nat} (x : Nat) (h : k ≤ R.length) (t : Nat) : (insAt R k x).getD t 0 = if t < k then R.getD t 0 else if t = k then x else R.getD (t - 1) 0 := by
  unfold insAt
  have hl : (R.take k).length = k := by simp; omega
  rw [List.getD_eq_getElem?_getD, List.getElem?_append, hl]
  by_cases c : t < k
  · rw [if_pos c, if_pos c, List.getElem?_take, if_pos c, List.getD_eq_getElem?_getD]
  · rw [if_neg c, if_neg c]
    by_cases c2 : t = k
    · subst c2; simp
    · rw [if_neg c2, show t - k = (t - k - 1) + 1 by omega, List.getElem?_cons_succ, List.getElem?_drop, List.getD_eq_getElem?_getD, show k + (t - k - 1) = t - 1 by omega]
theorem insAt_mem {R : List Nat} {k x y : Nat} : y ∈ insAt R k x ↔ y = x ∨ y ∈ R := by
  unfold insAt
  rw [List.mem_append, List.mem_cons]
  have : y ∈ R ↔ y ∈ R.take k ∨ y ∈ R.drop k := by
    conv => lhs; rw [← List.take_append_drop k R]
    exact List.mem_append
  rw [this]
  constructor
  · rintro (h | h | h)
    · exact .inr (.inl h)
    · exact .inl h
    · exact .inr (.inr h)
  · rintro (h | h | h)
    · exact .inr (.inl h)
    · exact .inl h
    · exact .inr (.inr h)
/-- the first i elements, by weight -/
def rkd (w : Nat → Int) : Nat → List Nat
  | 0 => []
  | i + 1 => insAt (rkd w i) (posW w (w i) (rkd w i)) i
theorem rkd_succ (w : Nat → Int) (i : Nat) : rkd w (i + 1) = insAt (rkd w i) (posW w (w i) (rkd w i)) i := rfl
theorem rkd_len (w : Nat → Int) : ∀ i, (rkd w i).length = i
  | 0 => rfl
  | i + 1 => by rw [rkd_succ, insAt_len _ (posW_le _ _ _), rkd_len w i]
theorem rkd_mem (w : Nat → Int) (x : Nat) : ∀ i, x ∈ rkd w i ↔ x < i
  | 0 => by
    show x ∈ [] ↔ _
    simp
  | i + 1 => by
    rw [rkd_succ, insAt_mem, rkd_mem w x i]; omega
theorem rkd_sorted (w : Nat → Int) : ∀ i, (rkd w i).Pairwise (before w)
  | 0 => List.Pairwise.nil
  | i + 1 => by
    have ih := rkd_sorted w i
    have hlt : ∀ x, x ∈ rkd w i → x < i := fun x hx => (rkd_mem w x i).1 hx
    rw [rkd_succ]
    have hge := fun t => @posW_ge w (w i) (rkd w i) t
    have hlo := @posW_lt w (w i) (rkd w i)
    have hle := posW_le w (w i) (rkd w i)
    generalize posW w (w i) (rkd w i) = k at *
    generalize rkd w i = R at *
    unfold insAt
    rw [List.pairwise_append, List.pairwise_cons]
    have hsp : (R.take k ++ R.drop k).Pairwise (before w) := by rw [List.take_append_drop]; exact ih
    rw [List.pairwise_append] at hsp
    have htake : ∀ x, x ∈ R.take k → w i ≤ w x := by
      intro x hx
      obtain ⟨j, hj, e⟩ := List.getElem_of_mem hx
      have hj' : j < k ∧ j < R.length := by simp at hj; omega
      have := hge j hj'.1
      rw [show R.getD j 0 = x by rw [← e]; simp [hj'.2]] at this
      exact this
    have hdrop : ∀ y, y ∈ R.drop k → w y < w i := by
      intro y hy
      obtain ⟨j, hj, e⟩ := List.getElem_of_mem hy
      have hj' : k + j < R.length := by simp at hj; omega
      have h1 := hlo (by omega)
      have ey : R.getD (k + j) 0 = y := by rw [← e]; simp [hj']
      by_cases c : j = 0
      · subst c
        rw [← ey]; exact h1
      · have h2 := List.pairwise_iff_getElem.1 ih k (k + j) (by omega) hj' (by omega)
        have e1 : R.getD k 0 = R[k] := by simp [show k < R.length by omega]
        have e2 : R.getD (k + j) 0 = R[k + j] := by simp [hj']
        rw [← e1, ← e2, ey] at h2
        rcases h2 with h2 | h2 <;> omega
    refine ⟨hsp.1, ⟨fun y hy => .inl (hdrop y hy), hsp.2.1⟩, fun x hx y hy => ?_⟩
    rcases List.mem_cons.1 hy with rfl | hy
    · have h1 := htake x hx
      have h2 := hlt x (List.mem_of_mem_take hx)
      by_cases c : w y = w x
      · exact .inr ⟨c.symm, h2⟩
      · exact .inl (by omega)
    · exact hsp.2.2 x hx y hy
theorem rkd_mono {w : Nat → Int} {i s t : Nat} (hst : s ≤ t) (ht : t < i) : w ((rkd w i).getD t 0) ≤ w ((rkd w i).getD s 0) := by
  by_cases e : s = t
  · subst e; exact Int.le_refl _
  · have hl := rkd_len w i
    have h2 := List.pairwise_iff_getElem.1 (rkd_sorted w i) s t (by omega) (by omega) (by omega)
    have e1 : (rkd w i).getD s 0 = (rkd w i)[s]'(by omega) := by simp [show s < (rkd w i).length by omega]
    have e2 : (rkd w i).getD t 0 = (rkd w i)[t]'(by omega) := by simp [show t < (rkd w i).length by omega]
    rw [e1, e2]
    rcases h2 with h2 | h2 <;> omega
theorem rkd_isOrd (w : Nat → Int) (m : Nat) : isOrd m (ints (rkd w m)) :=
  ⟨by rw [ints_len, rkd_len], fun i hi => mem_ints2.2 ⟨i, (rkd_mem w i m).2 hi, rfl⟩⟩

/-! the same by shifting: what the row holds -/
def tblW (w : Nat → Int) (i t : Nat) : Nat := if t < i then (rkd w i).getD t 0 else t
def midW (w : Nat → Int) (i j t : Nat) : Nat := if t < j then (rkd w i).getD t 0 else if t = j then i else if t ≤ i then (rkd w i).getD (t - 1) 0 else t
theorem midW_start (w : Nat → Int) (i t : Nat) : midW w i i t = tblW w i t := by
  unfold midW tblW
  by_cases c : t < i
  · rw [if_pos c, if_pos c]
  · rw [if_neg c, if_neg c]
    by_cases c2 : t = i
    · rw [if_pos c2]; exact c2.symm
    · rw [if_neg c2, if_neg (by omega)]
theorem midW_at (w : Nat → Int) (i j : Nat) : midW w i j j = i := by
  unfold midW; rw [if_neg (Nat.lt_irrefl _), if_pos rfl]
theorem midW_prev (w : Nat → Int) (i : Nat) {j : Nat} (h : 0 < j) : midW w i j (j - 1) = (rkd w i).getD (j - 1) 0 := by
  unfold midW; rw [if_pos (by omega)]
theorem midW_swap (w : Nat → Int) {i j : Nat} (h0 : 0 < j) (hj : j ≤ i) (t : Nat) : midW w i (j - 1) t = if t = j - 1 then i else if t = j then (rkd w i).getD (j - 1) 0 else midW w i j t := by
  unfold midW
  by_cases c1 : t = j - 1
  · rw [if_pos c1, if_neg (show ¬ t < j - 1 by omega), if_pos c1]
  · by_cases c2 : t = j
    · have a1 : ¬ t < j - 1 := by omega
      have a2 : t ≤ i := by omega
      simp only [c1, a1, a2, if_true, if_false]
      rw [if_pos c2, c2]
    · by_cases c3 : t < j
      · have a1 : t < j - 1 := by omega
        simp only [c1, c2, c3, a1, if_true, if_false]
      · have a1 : ¬ t < j - 1 := by omega
        simp only [c1, c2, c3, a1, if_true, if_false]
theorem midW_end {w : Nat → Int} {i j : Nat} (hj : j ≤ i) (h1 : ∀ t, j ≤ t → t < i → w ((rkd w i).getD t 0) < w i) (h2 : 0 < j → w i ≤ w ((rkd w i).getD (j - 1) 0)) (t : Nat) : midW w i j t = tblW w (i + 1) t := by
  have hl := rkd_len w i
  have hp : j = posW w (w i) (rkd w i) := posW_unique (by omega) (fun s hs => by
    have a1 := h2 (by omega)
    have a2 := rkd_mono (w := w) (i := i) (s := s) (t := j - 1) (by omega) (by omega)
    omega) (fun h => h1 j (Nat.le_refl _) (by omega))
  unfold tblW
  by_cases c : t < i + 1
  · rw [if_pos c, rkd_succ, ← hp, insAt_getD _ (by omega)]
    unfold midW
    by_cases c1 : t < j
    · rw [if_pos c1, if_pos c1]
    · rw [if_neg c1, if_neg c1]
      by_cases c2 : t = j
      · rw [if_pos c2, if_pos c2]
      · rw [if_neg c2, if_neg c2, if_pos (by omega)]
  · rw [if_neg c]
    unfold midW
    rw [if_neg (by omega), if_neg (by omega), if_neg (by omega)]

/-! ### step by step -/
/-- an order's elements that a set has -/
def stp (O : List Nat) (s : Nat) : List Nat := O.filter (fun e => s.testBit e)
def accT (l : List Nat) : Nat → Nat
  | 0 => 0
  | k + 1 => accT l k ||| bit (l.getD k 0)
theorem accT_iff (l : List Nat) (k e : Nat) : (accT l k).testBit e = true ↔ ∃ j, j < k ∧ l.getD j 0 = e := by
  induction k with
  | zero =>
    show Nat.testBit 0 e = true ↔ _
    simp
  | succ k ih =>
    show (accT l k ||| bit (l.getD k 0)).testBit e = true ↔ _
    rw [or_bit_testBit, Bool.or_eq_true, ih, decide_eq_true_eq]
    constructor
    · rintro (⟨j, hj, h⟩ | h)
      · exact ⟨j, by omega, h⟩
      · exact ⟨k, by omega, h⟩
    · rintro ⟨j, hj, h⟩
      by_cases c : j = k
      · subst c; exact .inr h
      · exact .inl ⟨j, by omega, h⟩
theorem accT_lt {l : List Nat} (h8 : ∀ j, j < l.length → l.getD j 0 < 8) : ∀ k, k ≤ l.length → accT l k < 256
  | 0, _ => by show 0 < 256; omega
  | k + 1, hk => or_lt _ _ (accT_lt h8 k (by omega)) (bit_lt256 _ (h8 k (by omega)))
theorem accT_add {l : List Nat} (h8 : ∀ j, j < l.length → l.getD j 0 < 8) (hnd : ∀ i j, i < j → j < l.length → l.getD i 0 ≠ l.getD j 0) {k : Nat} (hk : k < l.length) : accT l (k + 1) = accT l k + bit (l.getD k 0) := by
  show accT l k ||| bit (l.getD k 0) = _
  refine or_bit _ _ (accT_lt h8 k (by omega)) (h8 k hk) ?_
  rw [Bool.eq_false_iff]
  intro h
  obtain ⟨j, hj, e⟩ := (accT_iff l k _).1 h
  exact hnd j k hj hk e
def climbL (l : List Nat) (k : Nat) : List Int := tabL (k + 1) (fun j => (accT l j : Int))
theorem climbL_zero (l : List Nat) : climbL l 0 = [0] := rfl
theorem climbL_step (l : List Nat) (k : Nat) : climbL l (k + 1) = climbL l k ++ [((accT l (k + 1) : Nat) : Int)] := tabL_snoc _ _
theorem climbL_len (l : List Nat) (k : Nat) : (climbL l k).length = k + 1 := tabL_len _ _
theorem climbL_last (l : List Nat) (k : Nat) : (climbL l k).getD k 0 = ((accT l k : Nat) : Int) := tabL_getD (by omega)
/-- what is left of a set behind the first k -/
def lftT (l : List Nat) (s : Nat) : Nat → Nat
  | 0 => s
  | k + 1 => nand (lftT l s k) (bit (l.getD k 0))
theorem lftT_iff (l : List Nat) (s k e : Nat) : (lftT l s k).testBit e = true ↔ s.testBit e = true ∧ ∀ j, j < k → l.getD j 0 ≠ e := by
  induction k with
  | zero =>
    show s.testBit e = true ↔ _
    exact ⟨fun h => ⟨h, fun j hj => by omega⟩, fun h => h.1⟩
  | succ k ih =>
    show (nand (lftT l s k) (bit (l.getD k 0))).testBit e = true ↔ _
    rw [nand_testBit_bit, Bool.and_eq_true, ih, Bool.not_eq_true', decide_eq_false_iff_not]
    constructor
    · rintro ⟨⟨h1, h2⟩, h3⟩
      refine ⟨h1, fun j hj => ?_⟩
      by_cases c : j = k
      · subst c; exact h3
      · exact h2 j (by omega)
    · rintro ⟨h1, h2⟩
      exact ⟨⟨h1, fun j hj => h2 j (by omega)⟩, h2 k (by omega)⟩
theorem lftT_lt {l : List Nat} {s : Nat} (hs : s < 256) (k : Nat) : lftT l s k < 256 := by
  induction k with
  | zero => exact hs
  | succ k ih => exact nand_lt _ _ 8 ih
theorem stp_mem {O : List Nat} {s e : Nat} : e ∈ stp O s ↔ e ∈ O ∧ s.testBit e = true := List.mem_filter
theorem before_irr {w : Nat → Int} {a : Nat} (h : before w a a) : False := by
  rcases h with h | h <;> omega
/-- what is known of the elements of a set, by weight -/
structure StpIs (w : Nat → Int) (s : Nat) (l : List Nat) : Prop where
  pw : l.Pairwise (before w)
  mem : ∀ e, e ∈ l ↔ s.testBit e = true
  lt : ∀ j, j < l.length → l.getD j 0 < 8
theorem StpIs.of {w : Nat → Int} {m s : Nat} (hm : m ≤ 8) (hs : s < bit m) : StpIs w s (stp (rkd w m) s) where
  pw := (rkd_sorted w m).filter _
  mem := fun e => by
    rw [stp_mem, rkd_mem]
    exact ⟨fun h => h.2, fun h => ⟨lt_m_of_testBit hs h, h⟩⟩
  lt := fun j hj => by
    have : (stp (rkd w m) s).getD j 0 ∈ stp (rkd w m) s := by simp [hj]
    have := (rkd_mem w _ m).1 (stp_mem.1 this).1
    omega
theorem StpIs.bef {w : Nat → Int} {s : Nat} {l : List Nat} (h : StpIs w s l) {i j : Nat} (hij : i < j) (hj : j < l.length) : before w (l.getD i 0) (l.getD j 0) := by
  have h2 := List.pairwise_iff_getElem.1 h.pw i j (by omega) hj hij
  have e1 : l.getD i 0 = l[i] := by simp [show i < l.length by omega]
  have e2 : l.getD j 0 = l[j] := by simp [hj]
  rw [e1, e2]; exact h2
theorem StpIs.nd {w : Nat → Int} {s : Nat} {l : List Nat} (h : StpIs w s l) (i j : Nat) (hij : i < j) (hj : j < l.length) : l.getD i 0 ≠ l.getD j 0 := fun e => by
  have := h.bef hij hj
  rw [e] at this
  exact before_irr this
theorem StpIs.left {w : Nat → Int} {s : Nat} {l : List Nat} (h : StpIs w s l) (k e : Nat) : (lftT l s k).testBit e = true ↔ ∃ j, k ≤ j ∧ j < l.length ∧ l.getD j 0 = e := by
  rw [lftT_iff, ← h.mem]
  constructor
  · rintro ⟨h1, h2⟩
    obtain ⟨j, hj, e1⟩ := List.getElem_of_mem h1
    have e2 : l.getD j 0 = e := by simp [hj, e1]
    refine ⟨j, ?_, hj, e2⟩
    apply Classical.byContradiction
    intro hc
    exact h2 j (by omega) e2
  · rintro ⟨j, h1, h2, rfl⟩
    exact ⟨by simp [h2], fun i hi => h.nd i j (by omega) h2⟩
theorem StpIs.done {w : Nat → Int} {s : Nat} {l : List Nat} (h : StpIs w s l) {k : Nat} (hk : k ≤ l.length) : lftT l s k = 0 ↔ k = l.length := by
  constructor
  · intro h0
    apply Classical.byContradiction
    intro hne
    have := (h.left k (l.getD k 0)).2 ⟨k, Nat.le_refl _, by omega, rfl⟩
    rw [h0] at this
    simp at this
  · rintro rfl
    apply Nat.eq_of_testBit_eq
    intro e
    rw [Nat.zero_testBit, Bool.eq_false_iff]
    intro hc
    obtain ⟨j, h1, h2, _⟩ := (h.left _ e).1 hc
    omega
/-- of the elements below i of a set: the heaviest, of these the first; -1: none -/
def BestTo (w : Nat → Int) (s i : Nat) (b : Int) : Prop := (b = -1 ∧ ∀ e, e < i → s.testBit e = false) ∨ ∃ n : Nat, b = n ∧ n < i ∧ s.testBit n = true ∧ ∀ e, e < i → s.testBit e = true → w e < w n ∨ (w e = w n ∧ n ≤ e)
theorem BestTo.start (w : Nat → Int) (s : Nat) : BestTo w s 0 (-1) := .inl ⟨rfl, fun e he => by omega⟩
theorem BestTo.skip {w : Nat → Int} {s i : Nat} {b : Int} (h : BestTo w s i b) (hi : s.testBit i = false) : BestTo w s (i + 1) b := by
  rcases h with ⟨h1, h2⟩ | ⟨n, h1, h2, h3, h4⟩
  · refine .inl ⟨h1, fun e he => ?_⟩
    by_cases c : e = i
    · subst c; exact hi
    · exact h2 e (by omega)
  · refine .inr ⟨n, h1, by omega, h3, fun e he hb => ?_⟩
    by_cases c : e = i
    · subst c; rw [hi] at hb; cases hb
    · exact h4 e (by omega) hb
theorem BestTo.take {w : Nat → Int} {s i : Nat} {b : Int} (h : BestTo w s i b) (hi : s.testBit i = true) (hb : b < 0 ∨ w b.toNat < w i) : BestTo w s (i + 1) i := by
  refine .inr ⟨i, rfl, by omega, hi, fun e he hbe => ?_⟩
  by_cases c : e = i
  · subst c; exact .inr ⟨rfl, Nat.le_refl _⟩
  · rcases h with ⟨h1, h2⟩ | ⟨n, h1, h2, h3, h4⟩
    · have := h2 e (by omega); rw [this] at hbe; cases hbe
    · have h5 := h4 e (by omega) hbe
      rw [h1] at hb
      rcases hb with hb | hb
      · omega
      · rw [show ((n : Int)).toNat = n by omega] at hb
        exact .inl (by rcases h5 with h5 | h5 <;> omega)
theorem BestTo.keep {w : Nat → Int} {s i n : Nat} (h : BestTo w s i n) (hw : w i ≤ w n) : BestTo w s (i + 1) n := by
  rcases h with ⟨h1, h2⟩ | ⟨n', h1, h2, h3, h4⟩
  · omega
  · have : n' = n := by omega
    subst this
    refine .inr ⟨n', rfl, by omega, h3, fun e he hb => ?_⟩
    by_cases c : e = i
    · subst c
      by_cases c2 : w e = w n'
      · exact .inr ⟨c2, by omega⟩
      · exact .inl (by omega)
    · exact h4 e (by omega) hb
/-- it is the one that comes first by weight -/
theorem StpIs.best {w : Nat → Int} {m s : Nat} {l : List Nat} (h : StpIs w s l) (hs : s < bit m) {k : Nat} (hk : k < l.length) {b : Int} (hb : BestTo w (lftT l s k) m b) : b = ((l.getD k 0 : Nat) : Int) := by
  have hkb : (lftT l s k).testBit (l.getD k 0) = true := (h.left k _).2 ⟨k, Nat.le_refl _, hk, rfl⟩
  have hkm : l.getD k 0 < m := by
    have : l.getD k 0 ∈ l := by simp [hk]
    exact lt_m_of_testBit hs ((h.mem _).1 this)
  rcases hb with ⟨h1, h2⟩ | ⟨n, h1, h2, h3, h4⟩
  · have := h2 _ hkm; rw [this] at hkb; cases hkb
  · obtain ⟨j, hj1, hj2, e⟩ := (h.left k n).1 h3
    by_cases c : j = k
    · subst c; rw [h1, e]
    · have h5 := h.bef (show k < j by omega) hj2
      rw [e] at h5
      have h6 := h4 _ hkm hkb
      rcases h5 with h5 | h5 <;> rcases h6 with h6 | h6 <;> omega
theorem lft_sub {l : List Nat} {m s : Nat} (hs : s < bit m) (k : Nat) : lftT l s k < bit m := by
  induction k with
  | zero => exact hs
  | succ k ih => exact Nat.lt_of_le_of_lt (nand_le _ _) ih
/-- the elements of an order that a set has, as they come -/
theorem stp_at {O : List Nat} {s i : Nat} (hi : i < O.length) (hb : s.testBit (O.getD i 0) = true) : (stp O s).getD (filtTo (fun e => s.testBit e) O i).length 0 = O.getD i 0 ∧ (filtTo (fun e => s.testBit e) O i).length < (stp O s).length := by
  have e1 : O.getD i 0 = O[i] := by simp [hi]
  rw [e1] at hb ⊢
  have : stp O s = filtTo (fun e => s.testBit e) O i ++ O[i] :: (O.drop (i + 1)).filter (fun e => s.testBit e) := by
    unfold stp filtTo
    conv => lhs; rw [← List.take_append_drop i O, List.filter_append, List.drop_eq_getElem_cons hi]
    rw [List.filter_cons_of_pos (by simpa using hb)]
  rw [this]
  constructor
  · rw [List.getD_eq_getElem?_getD, List.getElem?_append_right (Nat.le_refl _), Nat.sub_self]
    rfl
  · rw [List.length_append, List.length_cons]; omega

/-! ### what a set weighs -/
def wsT (w : Nat → Int) (s : Nat) : Nat → Int
  | 0 => 0
  | k + 1 => wsT w s k + w k * (((s.testBit k).toNat : Nat) : Int)
def lsT (w : Nat → Int) (l : List Nat) : Nat → Int
  | 0 => 0
  | k + 1 => lsT w l k + w (l.getD k 0)
theorem lsT_append (w : Nat → Int) (l l' : List Nat) {k : Nat} (hk : k ≤ l.length) : lsT w (l ++ l') k = lsT w l k := by
  induction k with
  | zero => rfl
  | succ k ih =>
    show lsT w (l ++ l') k + _ = lsT w l k + _
    rw [ih (by omega)]
    congr 2
    simp [List.getElem?_append, show k < l.length by omega]
theorem ws_ls (w : Nat → Int) (s : Nat) : ∀ k, lsT w (elemsTo s k) (elemsTo s k).length = wsT w s k
  | 0 => rfl
  | k + 1 => by
    rw [elemsTo_step]
    show _ = wsT w s k + _
    rw [← ws_ls w s k]
    cases hb : s.testBit k
    · simp
    · rw [if_pos rfl, List.length_append, List.length_singleton]
      show lsT w (elemsTo s k ++ [k]) (elemsTo s k).length + w ((elemsTo s k ++ [k]).getD (elemsTo s k).length 0) = _
      rw [lsT_append w _ _ (Nat.le_refl _)]
      simp
theorem wsT_hi {w : Nat → Int} {m s : Nat} (hs : s < bit m) : ∀ d, wsT w s (m + d) = wsT w s m
  | 0 => rfl
  | d + 1 => by
    have hz : s.testBit (m + d) = false := by
      rw [Bool.eq_false_iff]; intro h
      have := lt_m_of_testBit hs h
      omega
    have e : wsT w s (m + (d + 1)) = wsT w s (m + d) + w (m + d) * (((s.testBit (m + d)).toNat : Nat) : Int) := rfl
    rw [e, wsT_hi hs d, hz]; simp
theorem ws_is {w : Nat → Int} {m s : Nat} (hm : m ≤ 8) (hs : s < bit m) : lsT w (elems s) (elems s).length = wsT w s m := by
  have h1 := ws_ls w s 8
  have h2 := wsT_hi (w := w) hs (8 - m)
  rw [show m + (8 - m) = 8 by omega] at h2
  rw [← h2]; exact h1
theorem wsT_bd {w : Nat → Int} {m s : Nat} (hw : ∀ i, i < m → -1000 ≤ w i ∧ w i ≤ 1000) (k : Nat) (hk : k ≤ m) : -((1000 * k : Nat) : Int) ≤ wsT w s k ∧ wsT w s k ≤ ((1000 * k : Nat) : Int) := by
  induction k with
  | zero => simp [wsT]
  | succ k ih =>
    have ih := ih (by omega)
    have h1 := hw k (by omega)
    show _ ≤ wsT w s k + _ ∧ wsT w s k + _ ≤ _
    cases s.testBit k
    · simp only [Bool.toNat_false]; omega
    · simp only [Bool.toNat_true]; omega
theorem lsT_bd {w : Nat → Int} {m : Nat} {l : List Nat} (hw : ∀ i, i < m → -1000 ≤ w i ∧ w i ≤ 1000) (hl : ∀ j, j < l.length → l.getD j 0 < m) (k : Nat) (hk : k ≤ l.length) : -((1000 * k : Nat) : Int) ≤ lsT w l k ∧ lsT w l k ≤ ((1000 * k : Nat) : Int) := by
  induction k with
  | zero => simp [lsT]
  | succ k ih =>
    have ih := ih (by omega)
    have h1 := hw _ (hl k (by omega))
    show _ ≤ lsT w l k + _ ∧ lsT w l k + _ ≤ _
    omega

end Go.Proofs.Ytdcdhdlklppalaa

namespace Go.Proofs.Ytdcdhdlklppalaa
open Go.RowKit
set_option linter.unusedVariables false

/-- what is wrong with weights of m elements -/
def PrcIs (m : Nat) (ws : List Int) (e : Int) : Prop := (ws.length ≠ m → e = 3) ∧ (ws.length = m → (∃ i, i < m ∧ ¬ (-1000 ≤ ws.getD i 0 ∧ ws.getD i 0 ≤ 1000)) → e = 1) ∧ (ws.length = m → (∀ i, i < m → -1000 ≤ ws.getD i 0 ∧ ws.getD i 0 ≤ 1000) → e = 0)
theorem PrcIs.ex (m : Nat) (ws : List Int) : ∃ e, PrcIs m ws e := by
  by_cases h : ws.length = m
  · by_cases h2 : ∀ i, i < m → -1000 ≤ ws.getD i 0 ∧ ws.getD i 0 ≤ 1000
    · exact ⟨0, fun c => absurd h c, fun _ ⟨i, hi, c⟩ => absurd (h2 i hi) c, fun _ _ => rfl⟩
    · exact ⟨1, fun c => absurd h c, fun _ _ => rfl, fun _ c => absurd c h2⟩
  · exact ⟨3, fun _ => rfl, fun c => absurd c h, fun c => absurd c h⟩
theorem PrcIs.ok {m : Nat} {ws : List Int} (h : PrcIs m ws 0) : ws.length = m ∧ ∀ i, i < m → -1000 ≤ ws.getD i 0 ∧ ws.getD i 0 ≤ 1000 := by
  have h1 : ws.length = m := Classical.byContradiction fun c => absurd (h.1 c) (by decide)
  refine ⟨h1, fun i hi => Classical.byContradiction fun c => ?_⟩
  exact absurd (h.2.1 h1 ⟨i, hi, c⟩) (by decide)

set_option maxRecDepth 100000 in
set_option maxHeartbeats 8000000 in
theorem c_isOrder {B : Nat} {W : World} (u : Later B W) (m : Nat) (hm : m ≤ 8) (p : List Int) (b : Option Addr) (capb : Nat) (h : IntsAt B W b p) (hl : p.length ≤ 4611686018427387904) :
    Calls Try.prog 6 #[.slice b p.length capb, .int .i64 m] u.val (Ret B W (.bool (decide (isOrd m p)))) := by
  have KC := Lib.hid (fun (v : Later B W) (i : Nat) => c_contains v p (i : Int) b capb h (by omega))
  have HO : Hid (isOrd m p ↔ p.length = m ∧ ∀ i : Nat, i < m → (i : Int) ∈ p) := Lib.hid Iff.rfl
  clear h
  generalize p.length = q at *
  go_enter Try.func6, Try.ntmps6
  go_wp2
  go_loopw [5] (fun i wr => ∃ (k : Nat) (v : Later B W), k ≤ m ∧ i = .int .i64 k ∧ wr = v.val ∧ Hid (∀ i : Nat, i < k → (i : Int) ∈ p)) (fun i _ => m - (intOf i).toNat)
  case atStart => exact ⟨0, u, by omega, rfl, rfl, Lib.hid (fun i hi => by omega)⟩
  case round =>
    clear u
    obtain ⟨k, v, hk, rfl, rfl, hf⟩ := hrel
    by_cases hlt : k < m
    · by_cases hmem : (k : Int) ∈ p
      · have K1 := Lib.hid (KC.out v k)
        have K2 : Hid (Calls Try.prog 23 #[.slice b q capb, .int .i64 (k : Int)] v.val (Ret B W (.bool true))) := Lib.hid (by have := K1.out; rwa [decide_eq_true hmem] at this)
        have HN : Hid (∀ i : Nat, i < k + 1 → (i : Int) ∈ p) := Lib.hid (fun i hi => by
          by_cases c : i = k
          · subst c; exact hmem
          · exact hf.out i (by omega))
        clear hmem K1 hf
        go_wp2_with (first | (go_at_call 23; (with_reducible refine (K2.out).mono ?_); rintro e _ ⟨rfl, v1, rfl⟩))
        go_roundw
        case rel => exact ⟨k+1, v1, by omega, by go_num, rfl, HN⟩
        case measure => simp [intOf]; omega
      · have K1 := Lib.hid (KC.out v k)
        have K2 : Hid (Calls Try.prog 23 #[.slice b q capb, .int .i64 (k : Int)] v.val (Ret B W (.bool false))) := Lib.hid (by have := K1.out; rwa [decide_eq_false hmem] at this)
        have HN : Hid (¬ isOrd m p) := Lib.hid (fun h => hmem ((HO.out.1 h).2 k hlt))
        clear hmem K1 hf
        go_wp2_with (first | (go_at_call 23; (with_reducible refine (K2.out).mono ?_); rintro e _ ⟨rfl, v1, rfl⟩))
        go_ret
        exact Ret.mk v1 (vbool (dec_false HN.out))
    · have hke : k = m := by omega
      subst hke
      have HN : Hid (((q : Int) == (k : Int)) = decide (isOrd k p)) := Lib.hid (by
        rw [Bool.eq_iff_iff, beq_iff_eq, decide_eq_true_eq]
        constructor
        · intro e; exact HO.out.2 ⟨by omega, hf.out⟩
        · intro e; have := (HO.out.1 e).1; omega)
      generalize decide (isOrd k p) = r at *
      go_wp2
      go_ret
      exact Ret.mk v (vbool HN.out)

end Go.Proofs.Ytdcdhdlklppalaa
