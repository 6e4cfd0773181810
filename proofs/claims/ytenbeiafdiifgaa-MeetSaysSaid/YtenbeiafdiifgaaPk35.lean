
/-
  The order by weight, and the steps, plainly.
  greedy.weights, rotaref.Priced, rotalaw.priced, rotaref.IsOrder.
-/
import Derived.Test.YtenbeiafdiifgaaPk34
import Derived.Test.YtenbeiafdiifgaaPk08
import Derived.Test.YtenbeiafdiifgaaPk11
import Derived.Test.YtenbeiafdiifgaaPk14
import Derived.Test.YtenbeiafdiifgaaPk26
namespace Go.Proofs.Ytenbeiafdiifgaa
set_option linter.unusedVariables false

/-! ### the order by weight -/
def before (w : Nat → Int) (a b : Nat) : Prop := w b < w a ∨ (w a = w b ∧ a < b)
def posW (w : Nat → Int) (x : Int) : List Nat → Nat
  | [] => 0
  | e :: R => if x ≤ w e then posW w x R + 1 else 0
theorem posW_le (w : Nat → Int) (x : Int) (R : List Nat) : posW w x R ≤ R.length := by
  induction R with
  | nil => exact Nat.zero_le _
  | cons e R ih =>
    show (if x ≤ w e then posW w x R + 1 else 0) ≤ R.length + 1
    split <;> omega
theorem posW_ge {w : Nat → Int} {x : Int} : ∀ {R : List Nat} {t : Nat}, t < posW w x R → x ≤ w (R.getD t 0)
  | [], t, h => by have h : t < 0 := h; omega
  | e :: R, t, h => by
    have h : t < (if x ≤ w e then posW w x R + 1 else 0) := h
    split at h
    · rename_i hc
      cases t with
      | zero => simpa using hc
      | succ t => simpa using posW_ge (R := R) (t := t) (by omega)
    · omega
theorem posW_lt {w : Nat → Int} {x : Int} : ∀ {R : List Nat}, posW w x R < R.length → w (R.getD (posW w x R) 0) < x
  | [], h => by have h : 0 < 0 := h; omega
  | e :: R, h => by
    by_cases hc : x ≤ w e
    · have e1 : posW w x (e :: R) = posW w x R + 1 := by show (if x ≤ w e then _ else _) = _; rw [if_pos hc]
      rw [e1] at h ⊢
      simpa using posW_lt (R := R) (by simpa using h)
    · have e1 : posW w x (e :: R) = 0 := by show (if x ≤ w e then _ else _) = _; rw [if_neg hc]
      rw [e1]
      simp; omega
theorem posW_unique {w : Nat → Int} {x : Int} {R : List Nat} {k : Nat} (h1 : k ≤ R.length) (h2 : ∀ t, t < k → x ≤ w (R.getD t 0)) (h3 : k < R.length → w (R.getD k 0) < x) : k = posW w x R := by
  apply Classical.byContradiction
  intro hne
  by_cases c : k < posW w x R
  · have a1 := posW_ge c
    have a2 := posW_le w x R
    have a3 := h3 (by omega)
    omega
  · have a1 := posW_lt (w := w) (x := x) (R := R) (by omega)
    have a2 := h2 (posW w x R) (by omega)
    omega
def insAt (R : List Nat) (k x : Nat) : List Nat := R.take k ++ x :: R.drop k
theorem insAt_len {R : List Nat} {k : Nat} (x : Nat) (h : k ≤ R.length) : (insAt R k x).length = R.length + 1 := by
  unfold insAt; simp; omega
theorem insAt_getD {R : List Nat} {k : Nat} (x : Nat) (h : k ≤ R.length) (t : Nat) : (insAt R k x).getD t 0 = if t < k then R.getD t 0 else if t = k then x else R.getD (t - 1) 0 := by
  unfold insAt
  have hl : (R.take k).length = k := by simp; omega
  rw [List.getD_eq_getElem?_getD, List.getElem?_append, hl]
  by_cases c : t < k
  · rw [if_pos c, if_pos c, List.getElem?_take, if_pos c, List.getD_eq_getElem?_getD]
  · rw [if_neg c, if_neg c]
    by_cases c2 : t = k
    · subst c2; simp
    · rw [if_neg c2, show t - k = (t - k - 1) + 1 by omega, List.getElem?_cons_succ, List.getElem?_drop, List.getD_eq_getElem?_getD, show k + (t - k - 1) = t - 1 by omega]
theorem insAt_mem {R : List Nat} {k x y : Nat} : y ∈ insAt R k x ↔ y = x ∨ y ∈ R := by
  unfold insAt
  rw [List.mem_append, List.mem_cons]
  have : y ∈ R ↔ y ∈ R.take k ∨ y ∈ R.drop k := by
    conv => lhs; rw [← List.take_append_drop k R]
    exact List.mem_append
  rw [this]
  constructor
  · rintro (h | h | h)
    · exact .inr (.inl h)
    · exact .inl h
    · exact .inr (.inr h)
  · rintro (h | h | h)
    · exact .inr (.inl h)
    · exact .inl h
    · exact .inr (.inr h)
/-- the first i elements, by weight -/
def rkd (w : Nat → Int) : Nat → List Nat
  | 0 => []
  | i + 1 => insAt (rkd w i) (posW w (w i) (rkd w i)) i
theorem rkd_succ (w : Nat → Int) (i : Nat) : rkd w (i + 1) = insAt (rkd w i) (posW w (w i) (rkd w i)) i := rfl
theorem rkd_len (w : Nat → Int) : ∀ i, (rkd w i).length = i
  | 0 => rfl
  | i + 1 => by rw [rkd_succ, insAt_len _ (posW_le _ _ _), rkd_len w i]
theorem rkd_mem (w : Nat → Int) (x : Nat) : ∀ i, x ∈ rkd w i ↔ x < i
  | 0 => by
    show x ∈ [] ↔ _
    simp
  | i + 1 => by
    rw [rkd_succ, insAt_mem, rkd_mem w x i]; omega
theorem rkd_sorted (w : Nat → Int) : ∀ i, (rkd w i).Pairwise (before w)
  | 0 => List.Pairwise.nil
  | i + 1 => by
    have ih := rkd_sorted w i
    have hlt : ∀ x, x ∈ rkd w i → x < i := fun x hx => (rkd_mem w x i).1 hx
    rw [rkd_succ]
    have hge := fun t => @posW_ge w (w i) (rkd w i) t
    have hlo := @posW_lt w (w i) (rkd w i)
    have hle := posW_le w (w i) (rkd w i)
    generalize posW w (w i) (rkd w i) = k at *
    generalize rkd w i = R at *
    unfold insAt
    rw [List.pairwise_append, List.pairwise_cons]
    have hsp : (R.take k ++ R.drop k).Pairwise (before w) := by rw [List.take_append_drop]; exact ih
    rw [List.pairwise_append] at hsp
    have htake : ∀ x, x ∈ R.take k → w i ≤ w x := by
      intro x hx
      obtain ⟨j, hj, e⟩ := List.getElem_of_mem hx
      have hj' : j < k ∧ j < R.length := by simp at hj; omega
      have := hge j hj'.1
      rw [show R.getD j 0 = x by rw [← e]; simp [hj'.2]] at this
      exact this
    have hdrop : ∀ y, y ∈ R.drop k → w y < w i := by
      intro y hy
      obtain ⟨j, hj, e⟩ := List.getElem_of_mem hy
      have hj' : k + j < R.length := by simp at hj; omega
      have h1 := hlo (by omega)
      have ey : R.getD (k + j) 0 = y := by rw [← e]; simp [hj']
      by_cases c : j = 0
      · subst c
        rw [← ey]; exact h1
      · have h2 := List.pairwise_iff_getElem.1 ih k (k + j) (by omega) hj' (by omega)
        have e1 : R.getD k 0 = R[k] := by simp [show k < R.length by omega]
        have e2 : R.getD (k + j) 0 = R[k + j] := by simp [hj']
        rw [← e1, ← e2, ey] at h2
        rcases h2 with h2 | h2 <;> omega
    refine ⟨hsp.1, ⟨fun y hy => .inl (hdrop y hy), hsp.2.1⟩, fun x hx y hy => ?_⟩
    rcases List.mem_cons.1 hy with rfl | hy
    · have h1 := htake x hx
      have h2 := hlt x (List.mem_of_mem_take hx)
      by_cases c : w y = w x
      · exact .inr ⟨c.symm, h2⟩
      · exact .inl (by omega)
    · exact hsp.2.2 x hx y hy
theorem rkd_mono {w : Nat → Int} {i s t : Nat} (hst : s ≤ t) (ht : t < i) : w ((rkd w i).getD t 0) ≤ w ((rkd w i).getD s 0) := by
  by_cases e : s = t
  · subst e; exact Int.le_refl _
  · have hl := rkd_len w i
    have h2 := List.pairwise_iff_getElem.1 (rkd_sorted w i) s t (by omega) (by omega) (by omega)
    have e1 : (rkd w i).getD s 0 = (rkd w i)[s]'(by omega) := by simp [show s < (rkd w i).length by omega]
    have e2 : (rkd w i).getD t 0 = (rkd w i)[t]'(by omega) := by simp [show t < (rkd w i).length by omega]
    rw [e1, e2]
    rcases h2 with h2 | h2 <;> omega
theorem rkd_isOrd (w : Nat → Int) (m : Nat) : isOrd m (ints (rkd w m)) :=
  ⟨by rw [ints_len, rkd_len], fun i hi => mem_ints2.2 ⟨i, (rkd_mem w i m).2 hi, rfl⟩⟩

/-! the same by shifting: what the row holds -/
def tblW (w : Nat → Int) (i t : Nat) : Nat := if t < i then (rkd w i).getD t 0 else t
def midW (w : Nat → Int) (i j t : Nat) : Nat := if t < j then (rkd w i).getD t 0 else if t = j then i else if t ≤ i then (rkd w i).getD (t - 1) 0 else t
theorem midW_start (w : Nat → Int) (i t : Nat) : midW w i i t = tblW w i t := by
  unfold midW tblW
  by_cases c : t < i
  · rw [if_pos c, if_pos c]
  · rw [if_neg c, if_neg c]
    by_cases c2 : t = i
    · rw [if_pos c2]; exact c2.symm
    · rw [if_neg c2, if_neg (by omega)]
theorem midW_at (w : Nat → Int) (i j : Nat) : midW w i j j = i := by
  unfold midW; rw [if_neg (Nat.lt_irrefl _), if_pos rfl]
theorem midW_prev (w : Nat → Int) (i : Nat) {j : Nat} (h : 0 < j) : midW w i j (j - 1) = (rkd w i).getD (j - 1) 0 := by
  unfold midW; rw [if_pos (by omega)]
theorem midW_swap (w : Nat → Int) {i j : Nat} (h0 : 0 < j) (hj : j ≤ i) (t : Nat) : midW w i (j - 1) t = if t = j - 1 then i else if t = j then (rkd w i).getD (j - 1) 0 else midW w i j t := by
  unfold midW
  by_cases c1 : t = j - 1
  · rw [if_pos c1, if_neg (show ¬ t < j - 1 by omega), if_pos c1]
  · by_cases c2 : t = j
    · have a1 : ¬ t < j - 1 := by omega
      have a2 : t ≤ i := by omega
      simp only [c1, a1, a2, if_true, if_false]
      rw [if_pos c2, c2]
    · by_cases c3 : t < j
      · have a1 : t < j - 1 := by omega
        simp only [c1, c2, c3, a1, if_true, if_false]
      · have a1 : ¬ t < j - 1 := by omega
        simp only [c1, c2, c3, a1, if_true, if_false]
theorem midW_end {w : Nat → Int} {i j : Nat} (hj : j ≤ i) (h1 : ∀ t, j ≤ t → t < i → w ((rkd w i).getD t 0) < w i) (h2 : 0 < j → w i ≤ w ((rkd w i).getD (j - 1) 0)) (t : Nat) : midW w i j t = tblW w (i + 1) t := by
  have hl := rkd_len w i
  have hp : j = posW w (w i) (rkd w i) := posW_unique (by omega) (fun s hs => by
    have a1 := h2 (by omega)
    have a2 := rkd_mono (w := w) (i := i) (s := s) (t := j - 1) (by omega) (by omega)
    omega) (fun h => h1 j (Nat.le_refl _) (by omega))
  unfold tblW
  by_cases c : t < i + 1
  · rw [if_pos c, rkd_succ, ← hp, insAt_getD _ (by omega)]
    unfold midW
    by_cases c1 : t < j
    · rw [if_pos c1, if_pos c1]
    · rw [if_neg c1, if_neg c1]
      by_cases c2 : t = j
      · rw [if_pos c2, if_pos c2]
      · rw [if_neg c2, if_neg c2, if_pos (by omega)]
  · rw [if_neg c]
    unfold midW
    rw [if_neg (by omega), if_neg (by omega), if_neg (by omega)]

/-! ### step by step -/
/-- an order's elements that a set has -/
def stp (O : List Nat) (s : Nat) : List Nat := O.filter (fun e => s.testBit e)
def accT (l : List Nat) : Nat → Nat
  | 0 => 0
  | k + 1 => accT l k ||| bit (l.getD k 0)
theorem accT_iff (l : List Nat) (k e : Nat) : (accT l k).testBit e = true ↔ ∃ j, j < k ∧ l.getD j 0 = e := by
  induction k with
  | zero =>
    show Nat.testBit 0 e = true ↔ _
    simp
  | succ k ih =>
    show (accT l k ||| bit (l.getD k 0)).testBit e = true ↔ _
    rw [or_bit_testBit, Bool.or_eq_true, ih, decide_eq_true_eq]
    constructor
    · rintro (⟨j, hj, h⟩ | h)
      · exact ⟨j, by omega, h⟩
      · exact ⟨k, by omega, h⟩
    · rintro ⟨j, hj, h⟩
      by_cases c : j = k
      · subst c; exact .inr h
      · exact .inl ⟨j, by omega, h⟩
theorem accT_lt {l : List Nat} (h8 : ∀ j, j < l.length → l.getD j 0 < 8) : ∀ k, k ≤ l.length → accT l k < 256
  | 0, _ => by show 0 < 256; omega
  | k + 1, hk => or_lt _ _ (accT_lt h8 k (by omega)) (bit_lt256 _ (h8 k (by omega)))
theorem accT_add {l : List Nat} (h8 : ∀ j, j < l.length → l.getD j 0 < 8) (hnd : ∀ i j, i < j → j < l.length → l.getD i 0 ≠ l.getD j 0) {k : Nat} (hk : k < l.length) : accT l (k + 1) = accT l k + bit (l.getD k 0) := by
  show accT l k ||| bit (l.getD k 0) = _
  refine or_bit _ _ (accT_lt h8 k (by omega)) (h8 k hk) ?_
  rw [Bool.eq_false_iff]
  intro h
  obtain ⟨j, hj, e⟩ := (accT_iff l k _).1 h
  exact hnd j k hj hk e
def climbL (l : List Nat) (k : Nat) : List Int := tabL (k + 1) (fun j => (accT l j : Int))
theorem climbL_zero (l : List Nat) : climbL l 0 = [0] := rfl
theorem climbL_step (l : List Nat) (k : Nat) : climbL l (k + 1) = climbL l k ++ [((accT l (k + 1) : Nat) : Int)] := tabL_snoc _ _
theorem climbL_len (l : List Nat) (k : Nat) : (climbL l k).length = k + 1 := tabL_len _ _
theorem climbL_last (l : List Nat) (k : Nat) : (climbL l k).getD k 0 = ((accT l k : Nat) : Int) := tabL_getD (by omega)
/-- what is left of a set behind the first k -/
def lftT (l : List Nat) (s : Nat) : Nat → Nat
  | 0 => s
  | k + 1 => nand (lftT l s k) (bit (l.getD k 0))
theorem lftT_iff (l : List Nat) (s k e : Nat) : (lftT l s k).testBit e = true ↔ s.testBit e = true ∧ ∀ j, j < k → l.getD j 0 ≠ e := by
  induction k with
  | zero =>
    show s.testBit e = true ↔ _
    exact ⟨fun h => ⟨h, fun j hj => by omega⟩, fun h => h.1⟩
  | succ k ih =>
    show (nand (lftT l s k) (bit (l.getD k 0))).testBit e = true ↔ _
    rw [nand_testBit_bit, Bool.and_eq_true, ih, Bool.not_eq_true', decide_eq_false_iff_not]
    constructor
    · rintro ⟨⟨h1, h2⟩, h3⟩
      refine ⟨h1, fun j hj => ?_⟩
      by_cases c : j = k
      · subst c; exact h3
      · exact h2 j (by omega)
    · rintro ⟨h1, h2⟩
      exact ⟨⟨h1, fun j hj => h2 j (by omega)⟩, h2 k (by omega)⟩
theorem lftT_lt {l : List Nat} {s : Nat} (hs : s < 256) (k : Nat) : lftT l s k < 256 := by
  induction k with
  | zero => exact hs
  | succ k ih => exact nand_lt _ _ 8 ih
theorem stp_mem {O : List Nat} {s e : Nat} : e ∈ stp O s ↔ e ∈ O ∧ s.testBit e = true := List.mem_filter
theorem before_irr {w : Nat → Int} {a : Nat} (h : before w a a) : False := by
  rcases h with h | h <;> omega
/-- what is known of the elements of a set, by weight -/
structure StpIs (w : Nat → Int) (s : Nat) (l : List Nat) : Prop where
  pw : l.Pairwise (before w)
  mem : ∀ e, e ∈ l ↔ s.testBit e = true
  lt : ∀ j, j < l.length → l.getD j 0 < 8
theorem StpIs.of {w : Nat → Int} {m s : Nat} (hm : m ≤ 8) (hs : s < bit m) : StpIs w s (stp (rkd w m) s) where
  pw := (rkd_sorted w m).filter _
  mem := fun e => by
    rw [stp_mem, rkd_mem]
    exact ⟨fun h => h.2, fun h => ⟨lt_m_of_testBit hs h, h⟩⟩
  lt := fun j hj => by
    have : (stp (rkd w m) s).getD j 0 ∈ stp (rkd w m) s := by simp [hj]
    have := (rkd_mem w _ m).1 (stp_mem.1 this).1
    omega
theorem StpIs.bef {w : Nat → Int} {s : Nat} {l : List Nat} (h : StpIs w s l) {i j : Nat} (hij : i < j) (hj : j < l.length) : before w (l.getD i 0) (l.getD j 0) := by
  have h2 := List.pairwise_iff_getElem.1 h.pw i j (by omega) hj hij
  have e1 : l.getD i 0 = l[i] := by simp [show i < l.length by omega]
  have e2 : l.getD j 0 = l[j] := by simp [hj]
  rw [e1, e2]; exact h2
theorem StpIs.nd {w : Nat → Int} {s : Nat} {l : List Nat} (h : StpIs w s l) (i j : Nat) (hij : i < j) (hj : j < l.length) : l.getD i 0 ≠ l.getD j 0 := fun e => by
  have := h.bef hij hj
  rw [e] at this
  exact before_irr this
theorem StpIs.left {w : Nat → Int} {s : Nat} {l : List Nat} (h : StpIs w s l) (k e : Nat) : (lftT l s k).testBit e = true ↔ ∃ j, k ≤ j ∧ j < l.length ∧ l.getD j 0 = e := by
  rw [lftT_iff, ← h.mem]
  constructor
  · rintro ⟨h1, h2⟩
    obtain ⟨j, hj, e1⟩ := List.getElem_of_mem h1
    have e2 : l.getD j 0 = e := by simp [hj, e1]
    refine ⟨j, ?_, hj, e2⟩
    apply Classical.byContradiction
    intro hc
    exact h2 j (by omega) e2
  · rintro ⟨j, h1, h2, rfl⟩
    exact ⟨by simp [h2], fun i hi => h.nd i j (by omega) h2⟩
theorem StpIs.done {w : Nat → Int} {s : Nat} {l : List Nat} (h : StpIs w s l) {k : Nat} (hk : k ≤ l.length) : lftT l s k = 0 ↔ k = l.length := by
  constructor
  · intro h0
    apply Classical.byContradiction
    intro hne
    have := (h.left k (l.getD k 0)).2 ⟨k, Nat.le_refl _, by omega, rfl⟩
    rw [h0] at this
    simp at this
  · rintro rfl
    apply Nat.eq_of_testBit_eq
    intro e
    rw [Nat.zero_testBit, Bool.eq_false_iff]
    intro hc
    obtain ⟨j, h1, h2, _⟩ := (h.left _ e).1 hc
    omega
/-- of the elements below i of a set: the heaviest, of these the first; -1: none -/
def BestTo (w : Nat → Int) (s i : Nat) (b : Int) : Prop := (b = -1 ∧ ∀ e, e < i → s.testBit e = false) ∨ ∃ n : Nat, b = n ∧ n < i ∧ s.testBit n = true ∧ ∀ e, e < i → s.testBit e = true → w e < w n ∨ (w e = w n ∧ n ≤ e)
theorem BestTo.start (w : Nat → Int) (s : Nat) : BestTo w s 0 (-1) := .inl ⟨rfl, fun e he => by omega⟩
theorem BestTo.skip {w : Nat → Int} {s i : Nat} {b : Int} (h : BestTo w s i b) (hi : s.testBit i = false) : BestTo w s (i + 1) b := by
  rcases h with ⟨h1, h2⟩ | ⟨n, h1, h2, h3, h4⟩
  · refine .inl ⟨h1, fun e he => ?_⟩
    by_cases c : e = i
    · subst c; exact hi
    · exact h2 e (by omega)
  · refine .inr ⟨n, h1, by omega, h3, fun e he hb => ?_⟩
    by_cases c : e = i
    · subst c; rw [hi] at hb; cases hb
    · exact h4 e (by omega) hb
theorem BestTo.take {w : Nat → Int} {s i : Nat} {b : Int} (h : BestTo w s i b) (hi : s.testBit i = true) (hb : b < 0 ∨ w b.toNat < w i) : BestTo w s (i + 1) i := by
  refine .inr ⟨i, rfl, by omega, hi, fun e he hbe => ?_⟩
  by_cases c : e = i
  · subst c; exact .inr ⟨rfl, Nat.le_refl _⟩
  · rcases h with ⟨h1, h2⟩ | ⟨n, h1, h2, h3, h4⟩
    · have := h2 e (by omega); rw [this] at hbe; cases hbe
    · have h5 := h4 e (by omega) hbe
      rw [h1] at hb
      rcases hb with hb | hb
      · omega
      · rw [show ((n : Int)).toNat = n by omega] at hb
        exact .inl (by rcases h5 with h5 | h5 <;> omega)
theorem BestTo.keep {w : Nat → Int} {s i n : Nat} (h : BestTo w s i n) (hw : w i ≤ w n) : BestTo w s (i + 1) n := by
  rcases h with ⟨h1, h2⟩ | ⟨n', h1, h2, h3, h4⟩
  · omega
  · have : n' = n := by omega
    subst this
    refine .inr ⟨n', rfl, by omega, h3, fun e he hb => ?_⟩
    by_cases c : e = i
    · subst c
      by_cases c2 : w e = w n'
      · exact .inr ⟨c2, by omega⟩
      · exact .inl (by omega)
    · exact h4 e (by omega) hb
/-- it is the one that comes first by weight -/
theorem StpIs.best {w : Nat → Int} {m s : Nat} {l : List Nat} (h : StpIs w s l) (hs : s < bit m) {k : Nat} (hk : k < l.length) {b : Int} (hb : BestTo w (lftT l s k) m b) : b = ((l.getD k 0 : Nat) : Int) := by
  have hkb : (lftT l s k).testBit (l.getD k 0) = true := (h.left k _).2 ⟨k, Nat.le_refl _, hk, rfl⟩
  have hkm : l.getD k 0 < m := by
    have : l.getD k 0 ∈ l := by simp [hk]
    exact lt_m_of_testBit hs ((h.mem _).1 this)
  rcases hb with ⟨h1, h2⟩ | ⟨n, h1, h2, h3, h4⟩
  · have := h2 _ hkm; rw [this] at hkb; cases hkb
  · obtain ⟨j, hj1, hj2, e⟩ := (h.left k n).1 h3
    by_cases c : j = k
    · subst c; rw [h1, e]
    · have h5 := h.bef (show k < j by omega) hj2
      rw [e] at h5
      have h6 := h4 _ hkm hkb
      rcases h5 with h5 | h5 <;> rcases h6 with h6 | h6 <;> omega
theorem lft_sub {l : List Nat} {m s : Nat} (hs : s < bit m) (k : Nat) : lftT l s k < bit m := by
  induction k with
  | zero => exact hs
  | succ k ih => exact Nat.lt_of_le_of_lt (nand_le _ _) ih
/-- the elements of an order that a set has, as they come -/
theorem stp_at {O : List Nat} {s i : Nat} (hi : i < O.length) (hb : s.testBit (O.getD i 0) = true) : (stp O s).getD (filtTo (fun e => s.testBit e) O i).length 0 = O.getD i 0 ∧ (filtTo (fun e => s.testBit e) O i).length < (stp O s).length := by
  have e1 : O.getD i 0 = O[i] := by simp [hi]
  rw [e1] at hb ⊢
  have : stp O s = filtTo (fun e => s.testBit e) O i ++ O[i] :: (O.drop (i + 1)).filter (fun e => s.testBit e) := by
    unfold stp filtTo
    conv => lhs; rw [← List.take_append_drop i O, List.filter_append, List.drop_eq_getElem_cons hi]
    rw [List.filter_cons_of_pos (by simpa using hb)]
  rw [this]
  constructor
  · rw [List.getD_eq_getElem?_getD, List.getElem?_append_right (Nat.le_refl _), Nat.sub_self]
    rfl
  · rw [List.length_append, List.length_cons]; omega

/-! ### what a set weighs -/
def wsT (w : Nat → Int) (s : Nat) : Nat → Int
  | 0 => 0
  | k + 1 => wsT w s k + w k * (((s.testBit k).toNat : Nat) : Int)
def lsT (w : Nat → Int) (l : List Nat) : Nat → Int
  | 0 => 0
  | k + 1 => lsT w l k + w (l.getD k 0)
theorem lsT_append (w : Nat → Int) (l l' : List Nat) {k : Nat} (hk : k ≤ l.length) : lsT w (l ++ l') k = lsT w l k := by
  induction k with
  | zero => rfl
  | succ k ih =>
    show lsT w (l ++ l') k + _ = lsT w l k + _
    rw [ih (by omega)]
    congr 2
    simp [List.getElem?_append, show k < l.length by omega]
theorem ws_ls (w : Nat → Int) (s : Nat) : ∀ k, lsT w (elemsTo s k) (elemsTo s k).length = wsT w s k
  | 0 => rfl
  | k + 1 => by
    rw [elemsTo_step]
    show _ = wsT w s k + _
    rw [← ws_ls w s k]
    cases hb : s.testBit k
    · simp
    · rw [if_pos rfl, List.length_append, List.length_singleton]
      show lsT w (elemsTo s k ++ [k]) (elemsTo s k).length + w ((elemsTo s k ++ [k]).getD (elemsTo s k).length 0) = _
      rw [lsT_append w _ _ (Nat.le_refl _)]
      simp
theorem wsT_hi {w : Nat → Int} {m s : Nat} (hs : s < bit m) : ∀ d, wsT w s (m + d) = wsT w s m
  | 0 => rfl
  | d + 1 => by
    have hz : s.testBit (m + d) = false := by
      rw [Bool.eq_false_iff]; intro h
      have := lt_m_of_testBit hs h
      omega
    have e : wsT w s (m + (d + 1)) = wsT w s (m + d) + w (m + d) * (((s.testBit (m + d)).toNat : Nat) : Int) := rfl
    rw [e, wsT_hi hs d, hz]; simp
theorem ws_is {w : Nat → Int} {m s : Nat} (hm : m ≤ 8) (hs : s < bit m) : lsT w (elems s) (elems s).length = wsT w s m := by
  have h1 := ws_ls w s 8
  have h2 := wsT_hi (w := w) hs (8 - m)
  rw [show m + (8 - m) = 8 by omega] at h2
  rw [← h2]; exact h1
theorem wsT_bd {w : Nat → Int} {m s : Nat} (hw : ∀ i, i < m → -1000 ≤ w i ∧ w i ≤ 1000) (k : Nat) (hk : k ≤ m) : -((1000 * k : Nat) : Int) ≤ wsT w s k ∧ wsT w s k ≤ ((1000 * k : Nat) : Int) := by
  induction k with
  | zero => simp [wsT]
  | succ k ih =>
    have ih := ih (by omega)
    have h1 := hw k (by omega)
    show _ ≤ wsT w s k + _ ∧ wsT w s k + _ ≤ _
    cases s.testBit k
    · simp only [Bool.toNat_false]; omega
    · simp only [Bool.toNat_true]; omega
theorem lsT_bd {w : Nat → Int} {m : Nat} {l : List Nat} (hw : ∀ i, i < m → -1000 ≤ w i ∧ w i ≤ 1000) (hl : ∀ j, j < l.length → l.getD j 0 < m) (k : Nat) (hk : k ≤ l.length) : -((1000 * k : Nat) : Int) ≤ lsT w l k ∧ lsT w l k ≤ ((1000 * k : Nat) : Int) := by
  induction k with
  | zero => simp [lsT]
  | succ k ih =>
    have ih := ih (by omega)
    have h1 := hw _ (hl k (by omega))
    show _ ≤ lsT w l k + _ ∧ lsT w l k + _ ≤ _
    omega

end Go.Proofs.Ytenbeiafdiifgaa

namespace Go.Proofs.Ytenbeiafdiifgaa
open Go.RowKit
set_option linter.unusedVariables false

/-- what is wrong with weights of m elements -/
def PrcIs (m : Nat) (ws : List Int) (e : Int) : Prop := (ws.length ≠ m → e = 3) ∧ (ws.length = m → (∃ i, i < m ∧ ¬ (-1000 ≤ ws.getD i 0 ∧ ws.getD i 0 ≤ 1000)) → e = 1) ∧ (ws.length = m → (∀ i, i < m → -1000 ≤ ws.getD i 0 ∧ ws.getD i 0 ≤ 1000) → e = 0)
theorem PrcIs.ex (m : Nat) (ws : List Int) : ∃ e, PrcIs m ws e := by
  by_cases h : ws.length = m
  · by_cases h2 : ∀ i, i < m → -1000 ≤ ws.getD i 0 ∧ ws.getD i 0 ≤ 1000
    · exact ⟨0, fun c => absurd h c, fun _ ⟨i, hi, c⟩ => absurd (h2 i hi) c, fun _ _ => rfl⟩
    · exact ⟨1, fun c => absurd h c, fun _ _ => rfl, fun _ c => absurd c h2⟩
  · exact ⟨3, fun _ => rfl, fun c => absurd c h, fun c => absurd c h⟩
theorem PrcIs.ok {m : Nat} {ws : List Int} (h : PrcIs m ws 0) : ws.length = m ∧ ∀ i, i < m → -1000 ≤ ws.getD i 0 ∧ ws.getD i 0 ≤ 1000 := by
  have h1 : ws.length = m := Classical.byContradiction fun c => absurd (h.1 c) (by decide)
  refine ⟨h1, fun i hi => Classical.byContradiction fun c => ?_⟩
  exact absurd (h.2.1 h1 ⟨i, hi, c⟩) (by decide)

set_option maxRecDepth 100000 in
set_option maxHeartbeats 8000000 in
theorem c_refPriced {B : Nat} {W : World} (u : Later B W) (m : Nat) (ws : List Int) (b : Option Addr) (capb : Nat) (e : Int) (hw : IntsAt B W b ws) (hwl : ws.length ≤ 4611686018427387904) (hm : m ≤ 8) (hp : PrcIs m ws e) :
    Calls Try.prog 9 #[.int .i64 m, .slice b ws.length capb] u.val (Ret B W (.int .i64 e)) := by
  have HW := Lib.hid hw
  have HP := Lib.hid hp
  clear hw hp
  by_cases hl : ws.length = m
  case neg =>
    have he := HP.out.1 hl
    subst he
    have d1 : ((ws.length : Int) != (m : Int)) = true := by rw [bne_iff_ne]; omega
    clear HP HW hl
    generalize ws.length = q at *
    go_enter Try.func9, Try.ntmps9
    go_wp2
    go_ret
    exact Ret.mk u rfl
  have H1 : Hid ((∃ i, i < m ∧ ¬ (-1000 ≤ ws.getD i 0 ∧ ws.getD i 0 ≤ 1000)) → e = 1) := Lib.hid (HP.out.2.1 hl)
  have H2 : Hid ((∀ i, i < m → -1000 ≤ ws.getD i 0 ∧ ws.getD i 0 ≤ 1000) → e = 0) := Lib.hid (HP.out.2.2 hl)
  have Hl := Lib.hid hl
  have d1 : ((m : Int) != (m : Int)) = false := by simp
  rw [hl]
  clear HP hl
  go_enter Try.func9, Try.ntmps9
  go_wp2
  go_loopw [5] (fun i wr => ∃ (k : Nat) (v : Later B W), k ≤ m ∧ i = .int .i64 k ∧ wr = v.val ∧ Hid (∀ i, i < k → -1000 ≤ ws.getD i 0 ∧ ws.getD i 0 ≤ 1000)) (fun i _ => m - (intOf i).toNat)
  case atStart => exact ⟨0, u, by omega, rfl, rfl, Lib.hid (fun i hi => by omega)⟩
  case round =>
    clear u
    obtain ⟨k, v, hk, rfl, rfl, hf⟩ := hrel
    by_cases hlt : k < m
    · obtain ⟨bb, off, rfl, hbB, hcell⟩ := HW.out.at (k := k) (by rw [Hl.out]; exact hlt)
      have c0 : v.val.cell? ⟨bb, off + k, none⟩ = some (.int .i64 (ws.getD k 0)) := hcell v k (by rw [Hl.out]; exact hlt)
      have HX : Hid (¬ (-1000 ≤ ws.getD k 0 ∧ ws.getD k 0 ≤ 1000) → e = 1) := Lib.hid (fun h => H1.out ⟨k, hlt, h⟩)
      have HY : Hid (-1000 ≤ ws.getD k 0 ∧ ws.getD k 0 ≤ 1000 → ∀ i, i < k + 1 → -1000 ≤ ws.getD i 0 ∧ ws.getD i 0 ≤ 1000) := Lib.hid (fun h i hi => by
        by_cases c : i = k
        · subst c; exact h
        · exact hf.out i (by omega))
      clear hcell hf
      generalize ws.getD k 0 = x at *
      rcases ilt x (-1000) with ⟨g1, d2⟩ | ⟨g1, d2⟩
      · have hr := HX.out (by omega)
        subst hr
        clear HX HY H1 H2 g1
        go_wp2
        go_ret
        exact Ret.mk v rfl
      · rcases ilt 1000 x with ⟨g2, d3⟩ | ⟨g2, d3⟩
        · have hr := HX.out (by omega)
          subst hr
          clear HX HY H1 H2 g1 g2
          go_wp2
          go_ret
          exact Ret.mk v rfl
        · have HN := Lib.hid (HY.out ⟨by omega, by omega⟩)
          clear HX HY g1 g2
          go_wp2
          go_roundw
          case rel => exact ⟨k+1, v, by omega, by go_num, rfl, HN⟩
          case measure => simp [intOf]; omega
    · have hr := H2.out (fun i hi => hf.out i (by omega))
      subst hr
      go_wp2
      go_ret
      exact Ret.mk v rfl

end Go.Proofs.Ytenbeiafdiifgaa
