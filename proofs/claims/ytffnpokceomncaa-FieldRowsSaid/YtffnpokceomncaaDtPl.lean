
/-
  Determinants by their first rows, plainly: rows that change places, rows that are added, a column of noughts. No program in sight.
-/
import Derived.Test.YtffnpokceomncaaIsum
namespace Go.Proofs.Ytffnpokceomncaa
set_option linter.unusedVariables false

/-- the same, but for multiples of p -/
def Cg (p : Nat) (a b : Int) : Prop := a % (p : Int) = b % (p : Int)
namespace Cg
variable {p : Nat} {a b c d : Int}
theorem refl (a : Int) : Cg p a a := rfl
theorem symm (h : Cg p a b) : Cg p b a := Eq.symm h
theorem trans (h : Cg p a b) (g : Cg p b c) : Cg p a c := Eq.trans h g
theorem of_eq (h : a = b) : Cg p a b := by rw [h]; rfl
theorem mod (a : Int) : Cg p (a % (p : Int)) a := Int.emod_emod_of_dvd _ (Int.dvd_refl _)
theorem add (h : Cg p a b) (g : Cg p c d) : Cg p (a + c) (b + d) := by
  unfold Cg at *
  rw [Int.add_emod, h, g, ← Int.add_emod]
theorem mul (h : Cg p a b) (g : Cg p c d) : Cg p (a * c) (b * d) := by
  unfold Cg at *
  rw [Int.mul_emod, h, g, ← Int.mul_emod]
theorem neg (h : Cg p a b) : Cg p (-a) (-b) := by
  have := (Cg.refl (p := p) (-1)).mul h
  rwa [show (-1 : Int) * a = -a by omega, show (-1 : Int) * b = -b by omega] at this
theorem sub (h : Cg p a b) (g : Cg p c d) : Cg p (a - c) (b - d) := by
  have := h.add g.neg
  rwa [show a + -c = a - c by omega, show b + -d = b - d by omega] at this
theorem p_zero : Cg p (p : Int) 0 := by unfold Cg; simp
theorem more (k : Int) : Cg p (a + p * k) a := by unfold Cg; rw [Int.add_mul_emod_self_left]
theorem eq_of (h : Cg p a b) (h1 : 0 ≤ a) (h2 : a < p) (h3 : 0 ≤ b) (h4 : b < p) : a = b := by
  unfold Cg at h
  rwa [Int.emod_eq_of_lt h1 h2, Int.emod_eq_of_lt h3 h4] at h
end Cg
theorem isum_cg {p : Nat} {f g : Nat → Int} {n : Nat} (h : ∀ i, i < n → Cg p (f i) (g i)) : Cg p (isum f n) (isum g n) := by
  induction n with
  | zero => exact Cg.refl _
  | succ n ih => simp only [isum]; exact (ih (fun i hi => h i (by omega))).add (h n (by omega))
theorem isum_mul (t : Int) (f : Nat → Int) (n : Nat) : isum (fun i => t * f i) n = t * isum f n := by
  induction n with
  | zero => simp [isum]
  | succ n ih => simp only [isum]; rw [ih, Int.mul_add]

def sg (k : Nat) : Int := if k % 2 = 1 then -1 else 1
theorem sg_succ (k : Nat) : sg (k + 1) = - sg k := by
  unfold sg
  by_cases h : k % 2 = 1
  · rw [if_pos h, if_neg (by omega)]; rfl
  · rw [if_neg h, if_pos (by omega)]
theorem sg_zero : sg 0 = 1 := rfl
/-- how many below j are not taken -/
def lft (used : Nat) : Nat → Nat
  | 0 => 0
  | j + 1 => lft used j + (if used.testBit j = true then 0 else 1)
theorem lft_or (used a : Nat) (ha : used.testBit a = false) : ∀ j, lft (used ||| bit a) j + (if a < j then 1 else 0) = lft used j
  | 0 => by simp [lft]
  | j + 1 => by
    have ih := lft_or used a ha j
    simp only [lft]
    rw [Nat.testBit_or, testBit_bit]
    by_cases c : j = a
    · subst c
      rw [ha]
      simp at ih ⊢
      omega
    · have h2 : decide (a = j) = false := decide_eq_false (fun e => c e.symm)
      rw [h2, Bool.or_false]
      generalize (if used.testBit j = true then 0 else 1) = z
      by_cases d : a < j
      · rw [if_pos d] at ih
        rw [if_pos (by omega)]
        omega
      · rw [if_neg d] at ih
        rw [if_neg (by omega)]
        omega
theorem lft_lt {used a : Nat} (ha : used.testBit a = false) {j : Nat} (h : a < j) : 0 < lft used j := by
  have := lft_or used a ha j
  rw [if_pos h] at this
  omega

/-- what is left of a determinant from row i on, without some columns -/
def dt (M : Nat → Nat → Int) (n : Nat) : Nat → Nat → Nat → Int
  | 0, _, _ => 1
  | f + 1, i, used => isum (fun j => if used.testBit j = true then 0 else sg (lft used j) * M i j * dt M n f (i + 1) (used ||| bit j)) n
section
variable {M M' M2 : Nat → Nat → Int} {n : Nat}
theorem or_none {used j k : Nat} (h : (used ||| bit j).testBit k = false) : used.testBit k = false := by
  rw [Nat.testBit_or] at h
  cases hu : used.testBit k
  · rfl
  · rw [hu] at h; cases h
theorem dt_cg {p : Nat} : ∀ f i used, (∀ k j, i ≤ k → k < i + f → j < n → used.testBit j = false → Cg p (M k j) (M' k j)) → Cg p (dt M n f i used) (dt M' n f i used)
  | 0, _, _, _ => Cg.refl _
  | f + 1, i, used, h => by
    simp only [dt]
    refine isum_cg (fun j hj => ?_)
    by_cases c : used.testBit j = true
    · rw [if_pos c, if_pos c]; exact Cg.refl _
    · have c' : used.testBit j = false := by simpa using c
      rw [if_neg c, if_neg c]
      exact ((Cg.refl _).mul (h i j (Nat.le_refl _) (by omega) hj c')).mul (dt_cg f _ _ (fun k x hk hk2 hx hu => h k x (by omega) (by omega) hx (or_none hu)))
theorem dt_congr : ∀ f i used, (∀ k j, i ≤ k → k < i + f → j < n → used.testBit j = false → M k j = M' k j) → dt M n f i used = dt M' n f i used
  | 0, _, _, _ => rfl
  | f + 1, i, used, h => by
    simp only [dt]
    refine isum_congr (fun j hj => ?_)
    by_cases c : used.testBit j = true
    · rw [if_pos c, if_pos c]
    · have c' : used.testBit j = false := by simpa using c
      rw [if_neg c, if_neg c, h i j (Nat.le_refl _) (by omega) hj c', dt_congr f _ _ (fun k x hk hk2 hx hu => h k x (by omega) (by omega) hx (or_none hu))]
theorem dt_lin {r : Nat} {t : Int} (he : ∀ k j, k ≠ r → M k j = M2 k j ∧ M' k j = M2 k j) (h : ∀ j, M2 r j = M r j + t * M' r j) : ∀ f i used, i ≤ r → r < i + f → dt M2 n f i used = dt M n f i used + t * dt M' n f i used
  | 0, i, used, h1, h2 => by omega
  | f + 1, i, used, h1, h2 => by
    simp only [dt]
    rw [← isum_mul, ← isum_add]
    refine isum_congr (fun j hj => ?_)
    by_cases c : used.testBit j = true
    · rw [if_pos c, if_pos c, if_pos c]; omega
    · rw [if_neg c, if_neg c, if_neg c]
      by_cases e : i = r
      · subst e
        have e1 : dt M n f (i + 1) (used ||| bit j) = dt M2 n f (i + 1) (used ||| bit j) := dt_congr _ _ _ (fun k x hk _ _ _ => (he k x (by omega)).1)
        have e2 : dt M' n f (i + 1) (used ||| bit j) = dt M2 n f (i + 1) (used ||| bit j) := dt_congr _ _ _ (fun k x hk _ _ _ => (he k x (by omega)).2)
        rw [e1, e2, h j]
        grind
      · rw [dt_lin he h f (i + 1) _ (by omega) (by omega), (he i j e).1, (he i j e).2]
        grind
/-- two places of the first two rows -/
def dtB (M : Nat → Nat → Int) (n f i used : Nat) (x y : Nat → Int) (j k : Nat) : Int :=
  if used.testBit j = true then 0 else if (used ||| bit j).testBit k = true then 0 else sg (lft used j) * x j * (sg (lft (used ||| bit j) k) * y k * dt M n f (i + 2) (used ||| bit j ||| bit k))
theorem dt_two (f i used : Nat) : dt M n (f + 2) i used = isum (fun j => isum (dtB M n f i used (M i) (M (i + 1)) j) n) n := by
  simp only [dt]
  refine isum_congr (fun j hj => ?_)
  unfold dtB
  by_cases c : used.testBit j = true
  · rw [if_pos c]
    exact (isum_zero (fun k _ => if_pos c)).symm
  · rw [if_neg c, ← isum_mul]
    refine isum_congr (fun k hk => ?_)
    rw [if_neg c]
    by_cases d : (used ||| bit j).testBit k = true
    · rw [if_pos d, if_pos d]; simp
    · rw [if_neg d, if_neg d]
theorem or_swap (a b c : Nat) : a ||| b ||| c = a ||| c ||| b := by rw [Nat.or_assoc, Nat.or_comm b c, ← Nat.or_assoc]
theorem dtB_swap (f i used : Nat) (x y : Nat → Int) (j k : Nat) : dtB M n f i used y x j k = - dtB M n f i used x y k j := by
  unfold dtB
  rw [Nat.testBit_or, Nat.testBit_or, testBit_bit, testBit_bit]
  cases hj : used.testBit j <;> cases hk : used.testBit k
  · by_cases e : j = k
    · subst e; simp
    · have e1 : decide (j = k) = false := decide_eq_false e
      have e2 : decide (k = j) = false := decide_eq_false (fun h => e h.symm)
      simp only [e1, e2, Bool.or_false, Bool.false_eq_true, if_false]
      rw [or_swap used (bit k) (bit j)]
      have hlj := lft_or used j hj k
      have hlk := lft_or used k hk j
      generalize dt M n f (i + 2) (used ||| bit j ||| bit k) = D
      by_cases c : j < k
      · rw [if_pos c] at hlj
        rw [if_neg (by omega)] at hlk
        rw [← hlj, sg_succ, ← hlk, Nat.add_zero]
        grind
      · rw [if_neg c] at hlj
        rw [if_pos (by omega)] at hlk
        rw [← hlk, sg_succ, ← hlj, Nat.add_zero]
        grind
  all_goals simp
def swp (a b k : Nat) : Nat := if k = a then b else if k = b then a else k
theorem dt_swap1 : ∀ f i used k, i ≤ k → k + 1 < i + f → dt (fun x => M (swp k (k + 1) x)) n f i used = - dt M n f i used
  | 0, i, used, k, h1, h2 => by omega
  | f + 1, i, used, k, h1, h2 => by
    by_cases e : i = k
    · subst e
      obtain ⟨g, rfl⟩ : ∃ g, f = g + 1 := ⟨f - 1, by omega⟩
      rw [dt_two, dt_two, isum_swap, ← isum_neg]
      refine isum_congr (fun j hj => ?_)
      rw [← isum_neg]
      refine isum_congr (fun l hl => ?_)
      have e1 : swp i (i + 1) i = i + 1 := by unfold swp; rw [if_pos rfl]
      have e2 : swp i (i + 1) (i + 1) = i := by unfold swp; rw [if_neg (by omega), if_pos rfl]
      rw [e1, e2, dtB_swap]
      congr 1
      unfold dtB
      rw [dt_congr (M := fun x => M (swp i (i + 1) x)) (M' := M) _ _ _ (fun x y hx _ _ _ => by unfold swp; rw [if_neg (by omega), if_neg (by omega)])]
    · simp only [dt]
      rw [← isum_neg]
      refine isum_congr (fun j hj => ?_)
      rw [dt_swap1 f (i + 1) _ k (by omega) (by omega)]
      have e1 : swp k (k + 1) i = i := by unfold swp; rw [if_neg (by omega), if_neg (by omega)]
      rw [e1]
      split <;> grind
theorem dt_swap (i f used : Nat) : ∀ s (M : Nat → Nat → Int), i < s → s < i + f → dt (fun x => M (swp i s x)) n f i used = - dt M n f i used := by
  intro s
  induction s with
  | zero => intro M h; omega
  | succ s ih =>
    intro M h1 h2
    by_cases e : i = s
    · subst e; exact dt_swap1 f i used i (Nat.le_refl _) h2
    · have h3 := dt_swap1 (M := M) (n := n) f i used s (by omega) h2
      have h4 := ih (fun x => M (swp s (s + 1) x)) (by omega) (by omega)
      have h5 := dt_swap1 (M := fun x => M (swp s (s + 1) (swp i s x))) (n := n) f i used s (by omega) h2
      have e6 : (fun x => M (swp s (s + 1) (swp i s (swp s (s + 1) x)))) = fun x => M (swp i (s + 1) x) := by
        funext x
        congr 1
        unfold swp
        by_cases c1 : x = i <;> by_cases c2 : x = s <;> by_cases c3 : x = s + 1 <;> simp_all <;> omega
      rw [← e6, h5, h4, h3]
      omega
theorem dt_same {i f used s : Nat} (h1 : i < s) (h2 : s < i + f) (h : ∀ j, M i j = M s j) : dt M n f i used = 0 := by
  have := dt_swap (n := n) i f used s M h1 h2
  rw [dt_congr (M := fun x => M (swp i s x)) (M' := M) _ _ _ (fun k j _ _ _ _ => by
    unfold swp
    by_cases c : k = i
    · rw [if_pos c, c, h]
    · rw [if_neg c]
      by_cases d : k = s
      · rw [if_pos d, d, h]
      · rw [if_neg d])] at this
  omega
/-- a multiple of the first row is added to another one -/
theorem dt_more {i f used s : Nat} {t : Int} (h1 : i < s) (h2 : s < i + f) (he : ∀ k j, k ≠ s → M2 k j = M k j) (h : ∀ j, M2 s j = M s j + t * M i j) : dt M2 n f i used = dt M n f i used := by
  rw [dt_lin (M := M) (M' := fun k j => if k = s then M i j else M k j) (r := s) (t := t) (fun k j hk => ⟨(he k j hk).symm, by rw [if_neg hk, he k j hk]⟩) (fun j => by rw [h j, if_pos rfl]) f i used (by omega) h2]
  rw [dt_same (M := fun k j => if k = s then M i j else M k j) h1 h2 (fun j => by rw [if_neg (by omega), if_pos rfl])]
  omega
theorem dt_zero {j0 : Nat} (hj0 : j0 < n) : ∀ f i used, used.testBit j0 = false → lft used n = f → (∀ k, i ≤ k → k < i + f → M k j0 = 0) → dt M n f i used = 0
  | 0, i, used, h1, h2, _ => by have := lft_lt h1 hj0; omega
  | f + 1, i, used, h1, h2, h3 => by
    simp only [dt]
    refine isum_zero (fun j hj => ?_)
    by_cases c : used.testBit j = true
    · rw [if_pos c]
    · have c' : used.testBit j = false := by simpa using c
      rw [if_neg c]
      by_cases e : j = j0
      · subst e; rw [h3 i (Nat.le_refl _) (by omega)]; simp
      · have hl := lft_or used j c' n
        rw [if_pos hj] at hl
        rw [dt_zero hj0 f (i + 1) _ (by rw [Nat.testBit_or, h1, testBit_bit, decide_eq_false (fun h => e h)]; rfl) (by omega) (fun k hk hk2 => h3 k (by omega) (by omega))]
        omega
theorem low_bits (c j : Nat) : (bit c - 1).testBit j = decide (j < c) := Nat.testBit_two_pow_sub_one c j
theorem low_next (c : Nat) : (bit c - 1) ||| bit c = bit (c + 1) - 1 := by
  apply Nat.eq_of_testBit_eq
  intro j
  rw [Nat.testBit_or, low_bits, low_bits, testBit_bit]
  rw [Bool.eq_iff_iff]
  simp
  omega
theorem lft_low (c : Nat) : ∀ j, lft (bit c - 1) j = j - c
  | 0 => by simp [lft]
  | j + 1 => by
    simp only [lft]
    rw [lft_low c j, low_bits]
    by_cases h : j < c
    · rw [decide_eq_true h, if_pos rfl]; omega
    · rw [decide_eq_false h, if_neg (by decide)]; omega
/-- the first column is nought below -/
theorem dt_down {c f : Nat} (hn : n = c + (f + 1)) (h : ∀ k, c < k → k < n → M k c = 0) : dt M n (f + 1) c (bit c - 1) = M c c * dt M n f (c + 1) (bit (c + 1) - 1) := by
  simp only [dt]
  have e : isum (fun j => if (bit c - 1).testBit j = true then 0 else sg (lft (bit c - 1) j) * M c j * dt M n f (c + 1) ((bit c - 1) ||| bit j)) n = isum (fun j => if j = c then M c j * dt M n f (c + 1) (bit (c + 1) - 1) else 0) n := by
    refine isum_congr (fun j hj => ?_)
    rw [low_bits]
    by_cases h1 : j < c
    · rw [decide_eq_true h1, if_pos rfl, if_neg (by omega)]
    · rw [decide_eq_false h1, if_neg (by decide)]
      by_cases h2 : j = c
      · subst h2
        rw [if_pos rfl, low_next, lft_low, Nat.sub_self, sg_zero, Int.one_mul]
      · rw [if_neg h2]
        have hu : (bit c - 1).testBit j = false := by rw [low_bits]; exact decide_eq_false h1
        have hl := lft_or (bit c - 1) j hu n
        rw [if_pos hj, lft_low] at hl
        rw [dt_zero (j0 := c) (by omega) f (c + 1) _ (by rw [Nat.testBit_or, low_bits, testBit_bit, decide_eq_false (by omega), decide_eq_false (by omega)]; rfl) (by omega) (fun k hk hk2 => h k (by omega) (by omega))]
        omega
  rw [e, isum_pick (g := fun j => M c j * dt M n f (c + 1) (bit (c + 1) - 1)) (by omega)]
theorem dt_none {c f : Nat} (hn : n = c + (f + 1)) (h : ∀ k, c ≤ k → k < n → M k c = 0) : dt M n (f + 1) c (bit c - 1) = 0 := by
  rw [dt_down hn (fun k hk hk2 => h k (by omega) hk2), h c (Nat.le_refl _) (by omega)]
  omega
end

end Go.Proofs.Ytffnpokceomncaa
