
/-
  Sum and Free of matroids, plainly: the bases that the program makes are those of the ranks.
  Sums of whole numbers, plainly: exchange of two sums, one term picked, terms that come in pairs.
-/
import Derived.Test.YtefkhnibempibaaPk15
import Derived.Test.YtefkhnibempibaaPk17
import Derived.Test.YtefkhnibempibaaPk03
import Derived.Test.YtefkhnibempibaaPk06
namespace Go.Proofs.Ytefkhnibempibaa
set_option linter.unusedVariables false

theorem sub_allK {x k : Nat} (hx : x < bit k) : sub x (bit k - 1) := fun i hi => by
  rw [testBit_all, decide_eq_true_eq]; exact lt_m_of_testBit hx hi
/-! ### two halves of a set -/
/-- the lower elements -/
def loP (m s : Nat) : Nat := s &&& (bit m - 1)
/-- the upper ones, as elements from 0 on -/
def hiP (m s : Nat) : Nat := s / bit m
theorem half_facts : ∀ m : Fin 9, ∀ s : Fin 256, sz (loP m.val s.val) + sz (hiP m.val s.val) = sz s.val ∧ loP m.val s.val ||| (hiP m.val s.val * bit m.val) = s.val ∧ loP m.val s.val < bit m.val := by decide +kernel
theorem half_sz {m s : Nat} (hm : m ≤ 8) (hs : s < 256) : sz (loP m s) + sz (hiP m s) = sz s := (half_facts ⟨m, by omega⟩ ⟨s, hs⟩).1
theorem half_or {m s : Nat} (hm : m ≤ 8) (hs : s < 256) : loP m s ||| (hiP m s * bit m) = s := (half_facts ⟨m, by omega⟩ ⟨s, hs⟩).2.1
theorem lo_lt {m s : Nat} (hm : m ≤ 8) (hs : s < 256) : loP m s < bit m := (half_facts ⟨m, by omega⟩ ⟨s, hs⟩).2.2
theorem bit_add (a b : Nat) : bit (a + b) = bit a * bit b := Nat.pow_add 2 a b
theorem hi_lt {m k s : Nat} (hs : s < bit (m + k)) : hiP m s < bit k := by
  unfold hiP
  rw [bit_add] at hs
  exact Nat.div_lt_of_lt_mul hs
theorem or_add {m x y : Nat} (hx : x < bit m) : x ||| y * bit m = y * bit m + x := by
  rw [Nat.or_comm]
  have := Nat.shiftLeft_add_eq_or_of_lt (i := m) hx y
  rw [Nat.shiftLeft_eq] at this
  exact this.symm
theorem bit_pos (m : Nat) : 0 < bit m := Nat.two_pow_pos m
theorem lo_or {m x y : Nat} (hx : x < bit m) : loP m (x ||| y * bit m) = x := by
  rw [or_add hx]
  unfold loP
  have : bit m - 1 = 2 ^ m - 1 := rfl
  rw [this, Nat.and_two_pow_sub_one_eq_mod]
  show (y * bit m + x) % bit m = x
  rw [Nat.mul_add_mod_self_right]
  exact Nat.mod_eq_of_lt hx
theorem hi_or {m x y : Nat} (hx : x < bit m) : hiP m (x ||| y * bit m) = y := by
  rw [or_add hx]
  unfold hiP
  rw [Nat.mul_comm, Nat.mul_add_div (bit_pos m), Nat.div_eq_of_lt hx, Nat.add_zero]
theorem or_lt_add {m k x y : Nat} (hx : x < bit m) (hy : y < bit k) : x ||| y * bit m < bit (m + k) := by
  rw [or_add hx, bit_add]
  have h1 : y * bit m + bit m ≤ bit k * bit m := by
    have : (y + 1) * bit m ≤ bit k * bit m := Nat.mul_le_mul_right _ hy
    rw [Nat.add_mul, Nat.one_mul] at this
    exact this
  rw [Nat.mul_comm (bit m)]
  omega

/-! ### Sum -/
def sumR (m : Nat) (L1 L2 : List Nat) (s : Nat) : Int := (rk L1 (loP m s) : Int) + rk L2 (hiP m s)
/-- a pair of bases, side by side -/
def sumL (m : Nat) (L1 L2 : List Nat) : List Nat := L1.flatMap (fun x => L2.map (fun y => x ||| y * bit m))
theorem mem_sumL {m : Nat} {L1 L2 : List Nat} (h1 : ∀ x, x ∈ L1 → x < bit m) {s : Nat} (hm : m ≤ 8) (hs : s < 256) : s ∈ sumL m L1 L2 ↔ loP m s ∈ L1 ∧ hiP m s ∈ L2 := by
  unfold sumL
  rw [List.mem_flatMap]
  constructor
  · rintro ⟨x, hx, h⟩
    rw [List.mem_map] at h
    obtain ⟨y, hy, rfl⟩ := h
    rw [lo_or (h1 x hx), hi_or (h1 x hx)]
    exact ⟨hx, hy⟩
  · rintro ⟨h2, h3⟩
    exact ⟨_, h2, List.mem_map.2 ⟨_, h3, half_or hm hs⟩⟩
theorem all_halves {m k : Nat} : loP m (bit (m + k) - 1) = bit m - 1 ∧ hiP m (bit (m + k) - 1) = bit k - 1 := by
  have e : bit (m + k) - 1 = (bit m - 1) ||| (bit k - 1) * bit m := by
    have hp := bit_pos m
    have hk := bit_pos k
    rw [or_add (by omega), bit_add, Nat.sub_mul, Nat.one_mul]
    have : bit m ≤ bit k * bit m := Nat.le_mul_of_pos_left _ hk
    rw [Nat.mul_comm (bit m)]
    omega
  have hp := bit_pos m
  rw [e, lo_or (by omega), hi_or (by omega)]
  exact ⟨rfl, rfl⟩
theorem sum_same {m k r1 r2 : Nat} (hmk : m + k ≤ 8) {L1 L2 : List Nat} (hn1 : L1 ≠ []) (hn2 : L2 ≠ []) (hF1 : Fam8 L1 r1) (hF2 : Fam8 L2 r2) (h1 : ∀ x, x ∈ L1 → x < bit m) (h2 : ∀ x, x ∈ L2 → x < bit k) : those (m + k) (memB (sumL m L1 L2)) = those (m + k) (ofRank (m + k) (sumR m L1 L2)) := those_mem_eq (fun s hs => by
  have hb := bit_le (m + k) hmk
  have hs8 : s < 256 := by omega
  unfold memB ofRank sumR
  rw [decide_eq_true_eq, decide_eq_true_eq, mem_sumL h1 (by omega) hs8, all_halves.1, all_halves.2, rk_all hn1 hF1 h1, rk_all hn2 hF2 h2]
  have hz := half_sz (m := m) (by omega) hs8
  have hp := lo_lt (m := m) (by omega) hs8
  have hq := hi_lt hs
  have hbm := bit_le m (by omega)
  have hbk := bit_le k (by omega)
  have l1 := rk_le L1 (loP m s)
  have l2 := rk_le L2 (hiP m s)
  have t1 := rk_mono hn1 (s := loP m s) (t := bit m - 1) (sub_allK hp)
  have t2 := rk_mono hn2 (s := hiP m s) (t := bit k - 1) (sub_allK hq)
  rw [rk_all hn1 hF1 h1] at t1
  rw [rk_all hn2 hF2 h2] at t2
  constructor
  · rintro ⟨g1, g2⟩
    have e1 := hF1.eq _ g1
    have e2 := hF2.eq _ g2
    have e3 := rk_self (L := L1) (I := loP m s) ⟨_, g1, fun _ h => h⟩
    have e4 := rk_self (L := L2) (I := hiP m s) ⟨_, g2, fun _ h => h⟩
    omega
  · rintro ⟨g1, g2⟩
    have e1 : rk L1 (loP m s) = sz (loP m s) := by omega
    have e2 : rk L2 (hiP m s) = sz (hiP m s) := by omega
    exact ⟨mem_of_ind_sz hF1 (by omega) ((ind_rk hn1 (by omega)).2 e1) (by omega), mem_of_ind_sz hF2 (by omega) ((ind_rk hn2 (by omega)).2 e2) (by omega)⟩)

/-! ### Free -/
def freeR (m : Nat) (L : List Nat) (s : Nat) : Int := if s.testBit m = true then min ((rk L (nand s (bit m)) : Int) + 1) (rk L (bit m - 1)) else (rk L s : Int)
/-- a basis, one element of which has been changed for the new one -/
def freeL (m : Nat) (L : List Nat) : List Nat := L ++ L.flatMap (fun b => (elems b).map (fun x => nand b (bit x) ||| bit m))
theorem free_same {m r : Nat} (hm : m < 8) {L : List Nat} (hne : L ≠ []) (hF : Fam8 L r) (hlt : ∀ b, b ∈ L → b < bit m) : those (m + 1) (memB (freeL m L)) = those (m + 1) (ofRank (m + 1) (freeR m L)) := those_mem_eq (fun s hs => by
  have hb := bit_le (m + 1) (by omega)
  have hbm := bit_le m (by omega)
  have hs8 : s < 256 := by omega
  have hall : freeR m L (bit (m + 1) - 1) = r := by
    have e1 : (bit (m + 1) - 1).testBit m = true := by rw [testBit_all, decide_eq_true_eq]; omega
    have e2 : nand (bit (m + 1) - 1) (bit m) = bit m - 1 := by
      apply Nat.eq_of_testBit_eq
      intro i
      rw [nand_testBit, testBit_all, testBit_all, testBit_bit]
      by_cases h1 : m = i
      · subst h1; simp
      · by_cases h2 : i < m
        · simp [h1, h2, show i < m + 1 by omega]
        · simp [h1, h2, show ¬ i < m + 1 by omega]
    unfold freeR
    rw [if_pos e1, e2, rk_all hne hF hlt]
    omega
  have hnm : ∀ b, b < bit m → b.testBit m = false := fun b h => by
    rw [Bool.eq_false_iff]; intro c
    have := lt_m_of_testBit h c
    omega
  unfold memB ofRank
  rw [decide_eq_true_eq, decide_eq_true_eq, hall]
  unfold freeL
  rw [List.mem_append, List.mem_flatMap]
  cases hsm : s.testBit m
  · have hsl : s < bit m := by
      rw [lt_pow_iff m s (by omega) hs8]
      intro i hi h
      have h1 := lt_m_of_testBit hs h
      by_cases e : i = m
      · subst e; rw [hsm] at h; cases h
      · omega
    have e1 : freeR m L s = rk L s := by unfold freeR; rw [hsm]; simp
    rw [e1]
    constructor
    · rintro (h | ⟨b, hb, h⟩)
      · have e2 := rk_self (L := L) (I := s) ⟨_, h, fun _ h => h⟩
        have e3 := hF.eq _ h
        omega
      · rw [List.mem_map] at h
        obtain ⟨x, hx, rfl⟩ := h
        rw [or_bit_testBit] at hsm
        simp at hsm
    · rintro ⟨g1, g2⟩
      left
      exact mem_of_ind_sz hF hs8 ((ind_rk hne hs8).2 (by omega)) (by omega)
  · have ht8 : nand s (bit m) < 256 := nand_lt _ _ 8 hs8
    have hsz := sz_less (by omega) hsm
    have e1 : freeR m L s = min ((rk L (nand s (bit m)) : Int) + 1) r := by unfold freeR; rw [if_pos hsm, rk_all hne hF hlt]
    rw [e1]
    have hle := rk_le L (nand s (bit m))
    constructor
    · rintro (h | ⟨b, hb, h⟩)
      · rw [hnm s (hlt s h)] at hsm; cases hsm
      · rw [List.mem_map] at h
        obtain ⟨x, hx, rfl⟩ := h
        obtain ⟨hx8, hxb⟩ := mem_elems.1 hx
        have e2 : nand (nand b (bit x) ||| bit m) (bit m) = nand b (bit x) := by
          apply Nat.eq_of_testBit_eq
          intro i
          rw [nand_testBit, or_bit_testBit, testBit_bit]
          by_cases c : m = i
          · subst c
            have : (nand b (bit x)).testBit m = false := by rw [nand_testBit, hnm b (hlt b hb)]; rfl
            rw [this]; simp
          · simp [c]
        rw [e2] at hsz hle ⊢
        have e3 := sz_less hx8 hxb
        have e4 := hF.eq b hb
        have e5 := rk_self (L := L) (I := nand b (bit x)) ⟨b, hb, nand_bit_sub b x⟩
        omega
    · rintro ⟨g1, g2⟩
      right
      have e2 : rk L (nand s (bit m)) = sz (nand s (bit m)) := by omega
      obtain ⟨b, hb, hsub⟩ := (ind_rk hne ht8).2 e2
      have e3 := hF.eq b hb
      have hlt' : sz (nand s (bit m)) < sz b := by omega
      have hb8 := hF.lt b hb
      have hne0 : nand b (nand s (bit m)) ≠ 0 := fun c => by
        have h1 := sz_diff b (nand s (bit m))
        rw [c, sz_zero] at h1
        have h2 := sz_mono (sub_and_right b (nand s (bit m)))
        omega
      obtain ⟨x, hx8, hx⟩ := exists_bit (show nand b (nand s (bit m)) < 256 from nand_lt _ _ 8 hb8) hne0
      rw [nand_testBit, Bool.and_eq_true, Bool.not_eq_true'] at hx
      refine ⟨b, hb, List.mem_map.2 ⟨x, mem_elems.2 ⟨hx8, hx.1⟩, ?_⟩⟩
      have e4 : nand b (bit x) = nand s (bit m) := by
        refine (eq_of_sub_sz ht8 (nand_lt _ _ 8 hb8) (sub_nand hsub hx.2) ?_).symm
        have := sz_less hx8 hx.1
        omega
      rw [e4]
      apply Nat.eq_of_testBit_eq
      intro i
      rw [or_bit_testBit, nand_testBit, testBit_bit]
      by_cases c : m = i
      · subst c; simp [hsm]
      · simp [c])

end Go.Proofs.Ytefkhnibempibaa

namespace Go.Proofs.Ytefkhnibempibaa
set_option linter.unusedVariables false

def isum (f : Nat → Int) : Nat → Int
  | 0 => 0
  | k + 1 => isum f k + f k
theorem isum_congr {f g : Nat → Int} {n : Nat} (h : ∀ i, i < n → f i = g i) : isum f n = isum g n := by
  induction n with
  | zero => rfl
  | succ n ih => simp only [isum]; rw [ih (fun i hi => h i (by omega)), h n (by omega)]
theorem isum_zero {f : Nat → Int} {n : Nat} (h : ∀ i, i < n → f i = 0) : isum f n = 0 := by
  induction n with
  | zero => rfl
  | succ n ih => simp only [isum]; rw [ih (fun i hi => h i (by omega)), h n (by omega)]; rfl
theorem isum_add (f g : Nat → Int) (n : Nat) : isum (fun i => f i + g i) n = isum f n + isum g n := by
  induction n with
  | zero => rfl
  | succ n ih => simp only [isum]; rw [ih]; omega
theorem isum_neg (f : Nat → Int) (n : Nat) : isum (fun i => - f i) n = - isum f n := by
  induction n with
  | zero => rfl
  | succ n ih => simp only [isum]; rw [ih]; omega
theorem isum_swap (f : Nat → Nat → Int) (n k : Nat) : isum (fun i => isum (fun j => f i j) k) n = isum (fun j => isum (fun i => f i j) n) k := by
  induction n with
  | zero =>
    simp only [isum]
    exact (isum_zero (fun _ _ => rfl)).symm
  | succ n ih =>
    simp only [isum]
    rw [isum_add, ih]
theorem isum_tail {f : Nat → Int} {n k : Nat} (h : ∀ j, n ≤ j → j < k → f j = 0) (hk : n ≤ k) : isum f k = isum f n := by
  induction k with
  | zero => have : n = 0 := by omega
            subst this; rfl
  | succ k ih =>
    by_cases e : n = k + 1
    · subst e; rfl
    · simp only [isum]
      rw [ih (fun j h1 h2 => h j h1 (by omega)) (by omega), h k (by omega) (by omega)]
      omega
theorem isum_pick {g : Nat → Int} {n x : Nat} (hx : x < n) : isum (fun i => if i = x then g i else 0) n = g x := by
  rw [isum_tail (n := x + 1) (fun j h1 _ => if_neg (by omega)) hx]
  show isum (fun i => if i = x then g i else 0) x + (if x = x then g x else 0) = g x
  rw [isum_zero (fun i hi => if_neg (by omega)), if_pos rfl]
  omega
theorem isum_le {f : Nat → Int} {b : Nat} {n : Nat} (h : ∀ i, i < n → -(b : Int) ≤ f i ∧ f i ≤ b) : -((n * b : Nat) : Int) ≤ isum f n ∧ isum f n ≤ ((n * b : Nat) : Int) := by
  induction n with
  | zero => simp [isum]
  | succ n ih =>
    have h1 := ih (fun i hi => h i (by omega))
    have h2 := h n (by omega)
    simp only [isum]
    rw [Nat.succ_mul]
    omega
/-- terms that come in pairs, each the other's negative -/
theorem isum_invol {h : Nat → Int} {σ : Nat → Nat} {n : Nat} (hσ : ∀ s, s < n → σ s < n ∧ σ (σ s) = s) (hh : ∀ s, s < n → h (σ s) = - h s) : isum h n = 0 := by
  have e1 : isum h n = isum (fun s => isum (fun t => if t = σ s then h s else 0) n) n := isum_congr (fun s hs => (isum_pick (g := fun _ => h s) (hσ s hs).1).symm)
  have e2 := isum_swap (fun s t => if t = σ s then h s else 0) n n
  have e3 : isum (fun t => isum (fun s => if t = σ s then h s else 0) n) n = isum (fun t => - h t) n := isum_congr (fun t ht => by
    have e4 : isum (fun s => if t = σ s then h s else 0) n = isum (fun s => if s = σ t then h s else 0) n := isum_congr (fun s hs => by
      by_cases c : t = σ s
      · have : s = σ t := by rw [c, (hσ s hs).2]
        rw [if_pos c, if_pos this]
      · have : ¬ s = σ t := fun e => c (by rw [e, (hσ t ht).2])
        rw [if_neg c, if_neg this])
    rw [e4, isum_pick (hσ t ht).1, hh t ht])
  rw [e2, e3, isum_neg] at e1
  omega
/-- over all sets of a kind, one behind the other -/
theorem those_sum (m : Nat) (p : Nat → Bool) (g : Nat → Int) : isum (fun j => g ((those m p).getD j 0)) (those m p).length = isum (fun x => if p x = true then g x else 0) (bit m) := by
  have key : ∀ k, isum (fun j => g ((thoseTo p k).getD j 0)) (thoseTo p k).length = isum (fun x => if p x = true then g x else 0) k := by
    intro k
    induction k with
    | zero => rfl
    | succ k ih =>
      rw [thoseTo_step]
      by_cases c : p k = true
      · rw [if_pos c]
        simp only [isum, List.length_append, List.length_cons, List.length_nil, Nat.zero_add]
        rw [if_pos c, ← ih]
        congr 1
        · exact isum_congr (fun i hi => by simp [List.getElem?_append_left hi])
        · simp
      · rw [if_neg c]
        simp only [isum]
        rw [if_neg c, ih]
        omega
  exact key (bit m)

/-! ### signs of sets -/
def sgn (s : Nat) : Int := if sz s % 2 = 1 then -1 else 1
def flip (e s : Nat) : Nat := if s.testBit e = true then nand s (bit e) else s ||| bit e
theorem flip_testBit (e s i : Nat) : (flip e s).testBit i = if i = e then !s.testBit e else s.testBit i := by
  unfold flip
  by_cases h : s.testBit e = true
  · rw [if_pos h, nand_testBit_bit]
    by_cases c : i = e
    · subst c; simp [h]
    · simp [c, Ne.symm c]
  · rw [if_neg h, or_bit_testBit]
    by_cases c : i = e
    · subst c; simp at h; simp [h]
    · simp [c, Ne.symm c]
theorem flip_flip (e s : Nat) : flip e (flip e s) = s := by
  apply Nat.eq_of_testBit_eq
  intro i
  rw [flip_testBit, flip_testBit]
  by_cases c : i = e
  · subst c; simp
  · simp [c, flip_testBit]
theorem flip_lt {m e s : Nat} (he : e < m) (hs : s < bit m) : flip e s < bit m := by
  unfold flip
  split
  · exact nand_lt _ _ m hs
  · exact or_lt_bit hs (bit_lt_bit he)
theorem sgn_flip {e s : Nat} (he : e < 8) : sgn (flip e s) = - sgn s := by
  unfold sgn flip
  by_cases h : s.testBit e = true
  · rw [if_pos h]
    have := sz_less he h
    by_cases c : sz s % 2 = 1
    · rw [if_pos c, if_neg (by omega)]; rfl
    · rw [if_neg c, if_pos (by omega)]
  · rw [if_neg h]
    have := sz_add he (by simpa using h)
    by_cases c : sz s % 2 = 1
    · rw [if_pos c, if_neg (by omega)]; rfl
    · rw [if_neg c, if_pos (by omega)]
theorem sgn_one (s : Nat) : sgn s = 1 ∨ sgn s = -1 := by
  unfold sgn
  split
  · exact .inr rfl
  · exact .inl rfl

end Go.Proofs.Ytefkhnibempibaa
