
/-
  Tables of tables: rows of numbers in blocks of their own, under a row of slices.
  Determinants by their first rows, plainly: rows that change places, rows that are added, a column of noughts. No program in sight.
  Rows of numbers modulo a prime: what they span, where it begins, how many there must be. No program in sight.
-/
import Derived.Test.YtdcdhdlklppalaaPk06
import Derived.Test.YtdcdhdlklppalaaPk50
import Derived.Test.YtdcdhdlklppalaaPk08
namespace Go.Proofs.Ytdcdhdlklppalaa
open Go.RowKit
set_option linter.unusedVariables false

theorem info_row : (Try.prog.info? 22).map (fun i => (i.zero, i.size, i.bytes)) = some (some (.slice none 0 0), 1, 24) := by kernel_rfl

/-- N rows of M numbers each: row i in block r i, the slices in block g -/
structure Grid (B : Nat) (w : World) (g N M : Nat) (r : Nat → Nat) (P : Nat → Nat → Int) : Prop where
  top : w.rowIs g 22 N (fun i => .slice (some ⟨r i, 0, none⟩) M M)
  row : ∀ i, i < N → ITab w (r i) M (P i)
  bg : B ≤ g
  br : ∀ i, i < N → B ≤ r i
  ne : ∀ i, i < N → r i ≠ g
  inj : ∀ i j, i < N → j < N → r i = r j → i = j
namespace Grid
variable {B : Nat} {w : World} {g N M : Nat} {r : Nat → Nat} {P : Nat → Nat → Int}
theorem lt (h : Grid B w g N M r P) : g < w.heap.size := World.rowIs.lt h.top
theorem rlt (h : Grid B w g N M r P) {i : Nat} (hi : i < N) : r i < w.heap.size := (h.row i hi).lt
theorem tcell (h : Grid B w g N M r P) {i : Nat} (hi : i < N) : w.cell? ⟨g, i, none⟩ = some (.slice (some ⟨r i, 0, none⟩) M M) := World.rowIs.cell h.top hi
theorem cell (h : Grid B w g N M r P) {i j : Nat} (hi : i < N) (hj : j < M) : w.cell? ⟨r i, j, none⟩ = some (.int .i64 (P i j)) := (h.row i hi).cell hj
theorem fz (h : Grid B w g N M r P) {i : Nat} (hi : i < N) (j : Nat) : w.frozen? ⟨r i, j, none⟩ = false := (h.row i hi).frozen j
theorem keep {w' : World} (h : Grid B w g N M r P) (hb : Below w.heap.size w w') : Grid B w' g N M r P :=
  ⟨World.rowIs.of_block h.top (hb.block g h.lt), fun i hi => (h.row i hi).keep hb, h.bg, h.br, h.ne, h.inj⟩
theorem keep_at {w' : World} {C : Nat} (h : Grid B w g N M r P) (hb : Below C w w') (hg : g < C) (hr : ∀ i, i < N → r i < C) : Grid B w' g N M r P :=
  ⟨World.rowIs.of_block h.top (hb.block g hg), fun i hi => (h.row i hi).keep_at hb (hr i hi), h.bg, h.br, h.ne, h.inj⟩
theorem mono {C : Nat} (h : Grid B w g N M r P) (hb : C ≤ B) : Grid C w g N M r P :=
  ⟨h.top, h.row, Nat.le_trans hb h.bg, fun i hi => Nat.le_trans hb (h.br i hi), h.ne, h.inj⟩
/-- kept where other blocks are written -/
theorem other (h : Grid B w g N M r P) {b i : Nat} (hg : g ≠ b) (hr : ∀ i, i < N → r i ≠ b) (x : Value) : Grid B (w.setCell ⟨b, i, none⟩ x) g N M r P :=
  ⟨World.rowIs.of_block h.top (Below.heap_setCell _ _ _ _ hg), fun i hi => (h.row i hi).other (hr i hi) x, h.bg, h.br, h.ne, h.inj⟩
theorem congr (h : Grid B w g N M r P) {P' : Nat → Nat → Int} (e : ∀ i j, i < N → j < M → P i j = P' i j) : Grid B w g N M r P' :=
  ⟨h.top, fun i hi => (h.row i hi).congr (fun j hj => e i j hi hj), h.bg, h.br, h.ne, h.inj⟩
/-- one number is written -/
theorem set (h : Grid B w g N M r P) {a : Nat} (ha : a < N) (b : Nat) (x : Int) : Grid B (w.setCell ⟨r a, b, none⟩ (.int .i64 x)) g N M r (setM P a b x) where
  top := World.rowIs.of_block h.top (Below.heap_setCell _ _ _ _ (fun e => h.ne a ha e.symm))
  row := fun i hi => by
    by_cases c : i = a
    · subst c
      exact (h.row i hi).set b x (fun j hj => by unfold setM; by_cases e : j = b <;> simp [e])
    · refine ((h.row i hi).other (fun e => c (h.inj i a hi ha e)) _).congr (fun j hj => ?_)
      unfold setM; rw [if_neg (fun e => c e.1)]
  bg := h.bg
  br := h.br
  ne := h.ne
  inj := h.inj
/-- a row is put in place -/
theorem fzT (h : Grid B w g N M r P) (i : Nat) : w.frozen? ⟨g, i, none⟩ = false := World.rowIs.frozen h.top i
end Grid

/-- under way: the first k rows stand -/
structure GridTo (B : Nat) (w : World) (g N M k : Nat) (r : Nat → Nat) (P : Nat → Nat → Int) : Prop where
  top : w.rowIs g 22 N (fun i => if i < k then .slice (some ⟨r i, 0, none⟩) M M else .slice none 0 0)
  row : ∀ i, i < k → ITab w (r i) M (P i)
  bg : B ≤ g
  br : ∀ i, i < k → B ≤ r i
  ne : ∀ i, i < k → r i ≠ g
  inj : ∀ i j, i < k → j < k → r i = r j → i = j
namespace GridTo
variable {B : Nat} {w : World} {g N M k : Nat} {r : Nat → Nat} {P : Nat → Nat → Int}
theorem lt (h : GridTo B w g N M k r P) : g < w.heap.size := World.rowIs.lt h.top
theorem start (h : w.rowIs g 22 N (fun _ => .slice none 0 0)) (hB : B ≤ g) : GridTo B w g N M 0 (fun _ => 0) P where
  top := World.rowIs.congr h (fun i _ => by rw [if_neg (by omega)])
  row := fun i hi => by omega
  bg := hB
  br := fun i hi => by omega
  ne := fun i hi => by omega
  inj := fun i j hi => by omega
theorem keep {w' : World} (h : GridTo B w g N M k r P) (hb : Below w.heap.size w w') : GridTo B w' g N M k r P :=
  ⟨World.rowIs.of_block h.top (hb.block g h.lt), fun i hi => (h.row i hi).keep hb, h.bg, h.br, h.ne, h.inj⟩
theorem old (h : GridTo B w g N M k r P) (hk : k < N) : w.cell? ⟨g, k, none⟩ = some (.slice none 0 0) := by
  have := World.rowIs.cell h.top hk
  rw [if_neg (Nat.lt_irrefl k)] at this
  exact this
theorem fz (h : GridTo B w g N M k r P) (i : Nat) : w.frozen? ⟨g, i, none⟩ = false := World.rowIs.frozen h.top i
/-- one more row, in a block that is none of theirs -/
theorem put (h : GridTo B w g N M k r P) {b : Nat} (hb : B ≤ b) (hg : b ≠ g) (hne : ∀ i, i < k → r i ≠ b) {Q : Nat → Int} (hT : ITab w b M Q) :
    GridTo B (w.setCell ⟨g, k, none⟩ (.slice (some ⟨b, 0, none⟩) M M)) g N M (k + 1) (fun i => if i = k then b else r i) (fun i => if i = k then Q else P i) where
  top := World.rowIs.congr (World.rowIs.set h.top k _) (fun i hi => by
    by_cases c : i = k
    · subst c; rw [if_pos rfl, if_pos (by omega), if_pos rfl]
    · rw [if_neg c, if_neg c]
      by_cases c2 : i < k
      · rw [if_pos c2, if_pos (by omega)]
      · rw [if_neg c2, if_neg (by omega)])
  row := fun i hi => by
    by_cases c : i = k
    · subst c; simp only [if_true]; exact hT.other hg _
    · simp only [if_neg c]; exact (h.row i (by omega)).other (h.ne i (by omega)) _
  bg := h.bg
  br := fun i hi => by
    by_cases c : i = k
    · rw [if_pos c]; exact hb
    · rw [if_neg c]; exact h.br i (by omega)
  ne := fun i hi => by
    by_cases c : i = k
    · rw [if_pos c]; exact hg
    · rw [if_neg c]; exact h.ne i (by omega)
  inj := fun i j hi hj => by
    by_cases c : i = k
    · by_cases d : j = k
      · intro _; omega
      · rw [if_pos c, if_neg d]; intro e; exact absurd e.symm (hne j (by omega))
    · by_cases d : j = k
      · rw [if_neg c, if_pos d]; intro e; exact absurd e (hne i (by omega))
      · rw [if_neg c, if_neg d]; exact h.inj i j (by omega) (by omega)
theorem full (h : GridTo B w g N M N r P) : Grid B w g N M r P :=
  ⟨World.rowIs.congr h.top (fun i hi => by rw [if_pos hi]), h.row, h.bg, h.br, h.ne, h.inj⟩
theorem congr (h : GridTo B w g N M k r P) {P' : Nat → Nat → Int} (e : ∀ i j, i < k → j < M → P i j = P' i j) : GridTo B w g N M k r P' :=
  ⟨h.top, fun i hi => (h.row i hi).congr (fun j hj => e i j hi hj), h.bg, h.br, h.ne, h.inj⟩
end GridTo

end Go.Proofs.Ytdcdhdlklppalaa

namespace Go.Proofs.Ytdcdhdlklppalaa
set_option linter.unusedVariables false

/-- the same, but for multiples of p -/
def Cg (p : Nat) (a b : Int) : Prop := a % (p : Int) = b % (p : Int)
namespace Cg
variable {p : Nat} {a b c d : Int}
theorem refl (a : Int) : Cg p a a := rfl
theorem symm (h : Cg p a b) : Cg p b a := Eq.symm h
theorem trans (h : Cg p a b) (g : Cg p b c) : Cg p a c := Eq.trans h g
theorem of_eq (h : a = b) : Cg p a b := by rw [h]; rfl
theorem mod (a : Int) : Cg p (a % (p : Int)) a := Int.emod_emod_of_dvd _ (Int.dvd_refl _)
theorem add (h : Cg p a b) (g : Cg p c d) : Cg p (a + c) (b + d) := by
  unfold Cg at *
  rw [Int.add_emod, h, g, ← Int.add_emod]
theorem mul (h : Cg p a b) (g : Cg p c d) : Cg p (a * c) (b * d) := by
  unfold Cg at *
  rw [Int.mul_emod, h, g, ← Int.mul_emod]
theorem neg (h : Cg p a b) : Cg p (-a) (-b) := by
  have := (Cg.refl (p := p) (-1)).mul h
  rwa [show (-1 : Int) * a = -a by omega, show (-1 : Int) * b = -b by omega] at this
theorem sub (h : Cg p a b) (g : Cg p c d) : Cg p (a - c) (b - d) := by
  have := h.add g.neg
  rwa [show a + -c = a - c by omega, show b + -d = b - d by omega] at this
theorem p_zero : Cg p (p : Int) 0 := by unfold Cg; simp
theorem more (k : Int) : Cg p (a + p * k) a := by unfold Cg; rw [Int.add_mul_emod_self_left]
theorem eq_of (h : Cg p a b) (h1 : 0 ≤ a) (h2 : a < p) (h3 : 0 ≤ b) (h4 : b < p) : a = b := by
  unfold Cg at h
  rwa [Int.emod_eq_of_lt h1 h2, Int.emod_eq_of_lt h3 h4] at h
end Cg
theorem isum_cg {p : Nat} {f g : Nat → Int} {n : Nat} (h : ∀ i, i < n → Cg p (f i) (g i)) : Cg p (isum f n) (isum g n) := by
  induction n with
  | zero => exact Cg.refl _
  | succ n ih => simp only [isum]; exact (ih (fun i hi => h i (by omega))).add (h n (by omega))
theorem isum_mul (t : Int) (f : Nat → Int) (n : Nat) : isum (fun i => t * f i) n = t * isum f n := by
  induction n with
  | zero => simp [isum]
  | succ n ih => simp only [isum]; rw [ih, Int.mul_add]

def sg (k : Nat) : Int := if k % 2 = 1 then -1 else 1
theorem sg_succ (k : Nat) : sg (k + 1) = - sg k := by
  unfold sg
  by_cases h : k % 2 = 1
  · rw [if_pos h, if_neg (by omega)]; rfl
  · rw [if_neg h, if_pos (by omega)]
theorem sg_zero : sg 0 = 1 := rfl
/-- how many below j are not taken -/
def lft (used : Nat) : Nat → Nat
  | 0 => 0
  | j + 1 => lft used j + (if used.testBit j = true then 0 else 1)
theorem lft_or (used a : Nat) (ha : used.testBit a = false) : ∀ j, lft (used ||| bit a) j + (if a < j then 1 else 0) = lft used j
  | 0 => by simp [lft]
  | j + 1 => by
    have ih := lft_or used a ha j
    simp only [lft]
    rw [Nat.testBit_or, testBit_bit]
    by_cases c : j = a
    · subst c
      rw [ha]
      simp at ih ⊢
      omega
    · have h2 : decide (a = j) = false := decide_eq_false (fun e => c e.symm)
      rw [h2, Bool.or_false]
      generalize (if used.testBit j = true then 0 else 1) = z
      by_cases d : a < j
      · rw [if_pos d] at ih
        rw [if_pos (by omega)]
        omega
      · rw [if_neg d] at ih
        rw [if_neg (by omega)]
        omega
theorem lft_lt {used a : Nat} (ha : used.testBit a = false) {j : Nat} (h : a < j) : 0 < lft used j := by
  have := lft_or used a ha j
  rw [if_pos h] at this
  omega

/-- what is left of a determinant from row i on, without some columns -/
def dt (M : Nat → Nat → Int) (n : Nat) : Nat → Nat → Nat → Int
  | 0, _, _ => 1
  | f + 1, i, used => isum (fun j => if used.testBit j = true then 0 else sg (lft used j) * M i j * dt M n f (i + 1) (used ||| bit j)) n
section
variable {M M' M2 : Nat → Nat → Int} {n : Nat}
theorem or_none {used j k : Nat} (h : (used ||| bit j).testBit k = false) : used.testBit k = false := by
  rw [Nat.testBit_or] at h
  cases hu : used.testBit k
  · rfl
  · rw [hu] at h; cases h
theorem dt_cg {p : Nat} : ∀ f i used, (∀ k j, i ≤ k → k < i + f → j < n → used.testBit j = false → Cg p (M k j) (M' k j)) → Cg p (dt M n f i used) (dt M' n f i used)
  | 0, _, _, _ => Cg.refl _
  | f + 1, i, used, h => by
    simp only [dt]
    refine isum_cg (fun j hj => ?_)
    by_cases c : used.testBit j = true
    · rw [if_pos c, if_pos c]; exact Cg.refl _
    · have c' : used.testBit j = false := by simpa using c
      rw [if_neg c, if_neg c]
      exact ((Cg.refl _).mul (h i j (Nat.le_refl _) (by omega) hj c')).mul (dt_cg f _ _ (fun k x hk hk2 hx hu => h k x (by omega) (by omega) hx (or_none hu)))
theorem dt_congr : ∀ f i used, (∀ k j, i ≤ k → k < i + f → j < n → used.testBit j = false → M k j = M' k j) → dt M n f i used = dt M' n f i used
  | 0, _, _, _ => rfl
  | f + 1, i, used, h => by
    simp only [dt]
    refine isum_congr (fun j hj => ?_)
    by_cases c : used.testBit j = true
    · rw [if_pos c, if_pos c]
    · have c' : used.testBit j = false := by simpa using c
      rw [if_neg c, if_neg c, h i j (Nat.le_refl _) (by omega) hj c', dt_congr f _ _ (fun k x hk hk2 hx hu => h k x (by omega) (by omega) hx (or_none hu))]
theorem dt_lin {r : Nat} {t : Int} (he : ∀ k j, k ≠ r → M k j = M2 k j ∧ M' k j = M2 k j) (h : ∀ j, M2 r j = M r j + t * M' r j) : ∀ f i used, i ≤ r → r < i + f → dt M2 n f i used = dt M n f i used + t * dt M' n f i used
  | 0, i, used, h1, h2 => by omega
  | f + 1, i, used, h1, h2 => by
    simp only [dt]
    rw [← isum_mul, ← isum_add]
    refine isum_congr (fun j hj => ?_)
    by_cases c : used.testBit j = true
    · rw [if_pos c, if_pos c, if_pos c]; omega
    · rw [if_neg c, if_neg c, if_neg c]
      by_cases e : i = r
      · subst e
        have e1 : dt M n f (i + 1) (used ||| bit j) = dt M2 n f (i + 1) (used ||| bit j) := dt_congr _ _ _ (fun k x hk _ _ _ => (he k x (by omega)).1)
        have e2 : dt M' n f (i + 1) (used ||| bit j) = dt M2 n f (i + 1) (used ||| bit j) := dt_congr _ _ _ (fun k x hk _ _ _ => (he k x (by omega)).2)
        rw [e1, e2, h j]
        grind
      · rw [dt_lin he h f (i + 1) _ (by omega) (by omega), (he i j e).1, (he i j e).2]
        grind
/-- two places of the first two rows -/
def dtB (M : Nat → Nat → Int) (n f i used : Nat) (x y : Nat → Int) (j k : Nat) : Int :=
  if used.testBit j = true then 0 else if (used ||| bit j).testBit k = true then 0 else sg (lft used j) * x j * (sg (lft (used ||| bit j) k) * y k * dt M n f (i + 2) (used ||| bit j ||| bit k))
theorem dt_two (f i used : Nat) : dt M n (f + 2) i used = isum (fun j => isum (dtB M n f i used (M i) (M (i + 1)) j) n) n := by
  simp only [dt]
  refine isum_congr (fun j hj => ?_)
  unfold dtB
  by_cases c : used.testBit j = true
  · rw [if_pos c]
    exact (isum_zero (fun k _ => if_pos c)).symm
  · rw [if_neg c, ← isum_mul]
    refine isum_congr (fun k hk => ?_)
    rw [if_neg c]
    by_cases d : (used ||| bit j).testBit k = true
    · rw [if_pos d, if_pos d]; simp
    · rw [if_neg d, if_neg d]
theorem or_swap (a b c : Nat) : a ||| b ||| c = a ||| c ||| b := by rw [Nat.or_assoc, Nat.or_comm b c, ← Nat.or_assoc]
theorem dtB_swap (f i used : Nat) (x y : Nat → Int) (j k : Nat) : dtB M n f i used y x j k = - dtB M n f i used x y k j := by
  unfold dtB
  rw [Nat.testBit_or, Nat.testBit_or, testBit_bit, testBit_bit]
  cases hj : used.testBit j <;> cases hk : used.testBit k
  · by_cases e : j = k
    · subst e; simp
    · have e1 : decide (j = k) = false := decide_eq_false e
      have e2 : decide (k = j) = false := decide_eq_false (fun h => e h.symm)
      simp only [e1, e2, Bool.or_false, Bool.false_eq_true, if_false]
      rw [or_swap used (bit k) (bit j)]
      have hlj := lft_or used j hj k
      have hlk := lft_or used k hk j
      generalize dt M n f (i + 2) (used ||| bit j ||| bit k) = D
      by_cases c : j < k
      · rw [if_pos c] at hlj
        rw [if_neg (by omega)] at hlk
        rw [← hlj, sg_succ, ← hlk, Nat.add_zero]
        grind
      · rw [if_neg c] at hlj
        rw [if_pos (by omega)] at hlk
        rw [← hlk, sg_succ, ← hlj, Nat.add_zero]
        grind
  all_goals simp
def swp (a b k : Nat) : Nat := if k = a then b else if k = b then a else k
theorem dt_swap1 : ∀ f i used k, i ≤ k → k + 1 < i + f → dt (fun x => M (swp k (k + 1) x)) n f i used = - dt M n f i used
  | 0, i, used, k, h1, h2 => by omega
  | f + 1, i, used, k, h1, h2 => by
    by_cases e : i = k
    · subst e
      obtain ⟨g, rfl⟩ : ∃ g, f = g + 1 := ⟨f - 1, by omega⟩
      rw [dt_two, dt_two, isum_swap, ← isum_neg]
      refine isum_congr (fun j hj => ?_)
      rw [← isum_neg]
      refine isum_congr (fun l hl => ?_)
      have e1 : swp i (i + 1) i = i + 1 := by unfold swp; rw [if_pos rfl]
      have e2 : swp i (i + 1) (i + 1) = i := by unfold swp; rw [if_neg (by omega), if_pos rfl]
      rw [e1, e2, dtB_swap]
      congr 1
      unfold dtB
      rw [dt_congr (M := fun x => M (swp i (i + 1) x)) (M' := M) _ _ _ (fun x y hx _ _ _ => by unfold swp; rw [if_neg (by omega), if_neg (by omega)])]
    · simp only [dt]
      rw [← isum_neg]
      refine isum_congr (fun j hj => ?_)
      rw [dt_swap1 f (i + 1) _ k (by omega) (by omega)]
      have e1 : swp k (k + 1) i = i := by unfold swp; rw [if_neg (by omega), if_neg (by omega)]
      rw [e1]
      split <;> grind
theorem dt_swap (i f used : Nat) : ∀ s (M : Nat → Nat → Int), i < s → s < i + f → dt (fun x => M (swp i s x)) n f i used = - dt M n f i used := by
  intro s
  induction s with
  | zero => intro M h; omega
  | succ s ih =>
    intro M h1 h2
    by_cases e : i = s
    · subst e; exact dt_swap1 f i used i (Nat.le_refl _) h2
    · have h3 := dt_swap1 (M := M) (n := n) f i used s (by omega) h2
      have h4 := ih (fun x => M (swp s (s + 1) x)) (by omega) (by omega)
      have h5 := dt_swap1 (M := fun x => M (swp s (s + 1) (swp i s x))) (n := n) f i used s (by omega) h2
      have e6 : (fun x => M (swp s (s + 1) (swp i s (swp s (s + 1) x)))) = fun x => M (swp i (s + 1) x) := by
        funext x
        congr 1
        unfold swp
        by_cases c1 : x = i <;> by_cases c2 : x = s <;> by_cases c3 : x = s + 1 <;> simp_all <;> omega
      rw [← e6, h5, h4, h3]
      omega
theorem dt_same {i f used s : Nat} (h1 : i < s) (h2 : s < i + f) (h : ∀ j, M i j = M s j) : dt M n f i used = 0 := by
  have := dt_swap (n := n) i f used s M h1 h2
  rw [dt_congr (M := fun x => M (swp i s x)) (M' := M) _ _ _ (fun k j _ _ _ _ => by
    unfold swp
    by_cases c : k = i
    · rw [if_pos c, c, h]
    · rw [if_neg c]
      by_cases d : k = s
      · rw [if_pos d, d, h]
      · rw [if_neg d])] at this
  omega
/-- a multiple of the first row is added to another one -/
theorem dt_more {i f used s : Nat} {t : Int} (h1 : i < s) (h2 : s < i + f) (he : ∀ k j, k ≠ s → M2 k j = M k j) (h : ∀ j, M2 s j = M s j + t * M i j) : dt M2 n f i used = dt M n f i used := by
  rw [dt_lin (M := M) (M' := fun k j => if k = s then M i j else M k j) (r := s) (t := t) (fun k j hk => ⟨(he k j hk).symm, by rw [if_neg hk, he k j hk]⟩) (fun j => by rw [h j, if_pos rfl]) f i used (by omega) h2]
  rw [dt_same (M := fun k j => if k = s then M i j else M k j) h1 h2 (fun j => by rw [if_neg (by omega), if_pos rfl])]
  omega
theorem dt_zero {j0 : Nat} (hj0 : j0 < n) : ∀ f i used, used.testBit j0 = false → lft used n = f → (∀ k, i ≤ k → k < i + f → M k j0 = 0) → dt M n f i used = 0
  | 0, i, used, h1, h2, _ => by have := lft_lt h1 hj0; omega
  | f + 1, i, used, h1, h2, h3 => by
    simp only [dt]
    refine isum_zero (fun j hj => ?_)
    by_cases c : used.testBit j = true
    · rw [if_pos c]
    · have c' : used.testBit j = false := by simpa using c
      rw [if_neg c]
      by_cases e : j = j0
      · subst e; rw [h3 i (Nat.le_refl _) (by omega)]; simp
      · have hl := lft_or used j c' n
        rw [if_pos hj] at hl
        rw [dt_zero hj0 f (i + 1) _ (by rw [Nat.testBit_or, h1, testBit_bit, decide_eq_false (fun h => e h)]; rfl) (by omega) (fun k hk hk2 => h3 k (by omega) (by omega))]
        omega
theorem low_bits (c j : Nat) : (bit c - 1).testBit j = decide (j < c) := Nat.testBit_two_pow_sub_one c j
theorem low_next (c : Nat) : (bit c - 1) ||| bit c = bit (c + 1) - 1 := by
  apply Nat.eq_of_testBit_eq
  intro j
  rw [Nat.testBit_or, low_bits, low_bits, testBit_bit]
  rw [Bool.eq_iff_iff]
  simp
  omega
theorem lft_low (c : Nat) : ∀ j, lft (bit c - 1) j = j - c
  | 0 => by simp [lft]
  | j + 1 => by
    simp only [lft]
    rw [lft_low c j, low_bits]
    by_cases h : j < c
    · rw [decide_eq_true h, if_pos rfl]; omega
    · rw [decide_eq_false h, if_neg (by decide)]; omega
/-- the first column is nought below -/
theorem dt_down {c f : Nat} (hn : n = c + (f + 1)) (h : ∀ k, c < k → k < n → M k c = 0) : dt M n (f + 1) c (bit c - 1) = M c c * dt M n f (c + 1) (bit (c + 1) - 1) := by
  simp only [dt]
  have e : isum (fun j => if (bit c - 1).testBit j = true then 0 else sg (lft (bit c - 1) j) * M c j * dt M n f (c + 1) ((bit c - 1) ||| bit j)) n = isum (fun j => if j = c then M c j * dt M n f (c + 1) (bit (c + 1) - 1) else 0) n := by
    refine isum_congr (fun j hj => ?_)
    rw [low_bits]
    by_cases h1 : j < c
    · rw [decide_eq_true h1, if_pos rfl, if_neg (by omega)]
    · rw [decide_eq_false h1, if_neg (by decide)]
      by_cases h2 : j = c
      · subst h2
        rw [if_pos rfl, low_next, lft_low, Nat.sub_self, sg_zero, Int.one_mul]
      · rw [if_neg h2]
        have hu : (bit c - 1).testBit j = false := by rw [low_bits]; exact decide_eq_false h1
        have hl := lft_or (bit c - 1) j hu n
        rw [if_pos hj, lft_low] at hl
        rw [dt_zero (j0 := c) (by omega) f (c + 1) _ (by rw [Nat.testBit_or, low_bits, testBit_bit, decide_eq_false (by omega), decide_eq_false (by omega)]; rfl) (by omega) (fun k hk hk2 => h k (by omega) (by omega))]
        omega
  rw [e, isum_pick (g := fun j => M c j * dt M n f (c + 1) (bit (c + 1) - 1)) (by omega)]
theorem dt_none {c f : Nat} (hn : n = c + (f + 1)) (h : ∀ k, c ≤ k → k < n → M k c = 0) : dt M n (f + 1) c (bit c - 1) = 0 := by
  rw [dt_down hn (fun k hk hk2 => h k (by omega) hk2), h c (Nat.le_refl _) (by omega)]
  omega
end

end Go.Proofs.Ytdcdhdlklppalaa

namespace Go.Proofs.Ytdcdhdlklppalaa
set_option linter.unusedVariables false

def PrimeP (p : Nat) : Prop := p = 2 ∨ p = 3 ∨ p = 5 ∨ p = 7
theorem PrimeP.le {p : Nat} (h : PrimeP p) : 2 ≤ p ∧ p ≤ 7 := by unfold PrimeP at h; omega
theorem inv_nat {p : Nat} (hp : PrimeP p) : ∀ a : Nat, a < 8 → 0 < a → a < p → ∃ b, b < 8 ∧ 0 < b ∧ b < p ∧ a * b % p = 1 := by
  rcases hp with rfl | rfl | rfl | rfl <;> decide
namespace Cg
variable {p : Nat} {a b c d : Int}
theorem zero_iff : Cg p a 0 ↔ a % (p : Int) = 0 := by unfold Cg; simp
theorem inv (hp : PrimeP p) (h : ¬ Cg p a 0) : ∃ b : Int, Cg p (a * b) 1 := by
  have h2 := hp.le
  have h3 : 0 ≤ a % (p : Int) := Int.emod_nonneg _ (by omega)
  have h4 : a % (p : Int) < p := Int.emod_lt_of_pos _ (by omega)
  obtain ⟨m, hm⟩ := Int.eq_ofNat_of_zero_le h3
  rw [zero_iff] at h
  obtain ⟨b, hb, hb0, hbp, e⟩ := inv_nat hp m (by omega) (by omega) (by omega)
  refine ⟨b, ?_⟩
  have h5 : Cg p (a * b) (m * b) := ((Cg.mod a).symm.trans (of_eq hm)).mul (Cg.refl _)
  refine h5.trans ?_
  unfold Cg
  have : (m : Int) * b % p = 1 := by exact_mod_cast e
  rw [this]
  rw [Int.emod_eq_of_lt (by omega) (by omega)]
theorem cancel (hp : PrimeP p) (h : Cg p (a * b) 0) (hb : ¬ Cg p b 0) : Cg p a 0 := by
  obtain ⟨c, hc⟩ := inv hp hb
  have h1 : Cg p (a * b * c) (0 * c) := h.mul (Cg.refl _)
  have h2 : Cg p (a * (b * c)) (a * 1) := (Cg.refl a).mul hc
  rw [← Int.mul_assoc, Int.mul_one] at h2
  rw [Int.zero_mul] at h1
  exact h2.symm.trans h1
end Cg

/-- where a row begins -/
structure Lead (p C : Nat) (v : Nat → Int) (l : Nat) : Prop where
  lt : l < C
  ne : ¬ Cg p (v l) 0
  zero : ∀ j, j < l → Cg p (v j) 0
theorem Lead.uniq {p C : Nat} {v : Nat → Int} {l k : Nat} (h : Lead p C v l) (g : Lead p C v k) : l = k := by
  rcases Nat.lt_trichotomy l k with c | c | c
  · exact absurd (g.zero l c) h.ne
  · exact c
  · exact absurd (h.zero k c) g.ne
/-- what rows span -/
def InSp (p C m : Nat) (R : Nat → Nat → Int) (v : Nat → Int) : Prop := ∃ a : Nat → Int, ∀ j, j < C → Cg p (v j) (isum (fun i => a i * R i j) m)
section
variable {p C m m' : Nat} {R R' : Nat → Nat → Int} {v w : Nat → Int}
theorem InSp.mem {i : Nat} (hi : i < m) : InSp p C m R (R i) := ⟨fun k => if k = i then 1 else 0, fun j _ => by
  refine Cg.of_eq ?_
  have : isum (fun k => (if k = i then 1 else 0) * R k j) m = isum (fun k => if k = i then R k j else 0) m := isum_congr (fun k _ => by split <;> omega)
  rw [this, isum_pick (g := fun k => R k j) hi]⟩
theorem InSp.cg (h : InSp p C m R v) (e : ∀ j, j < C → Cg p (w j) (v j)) : InSp p C m R w := by
  obtain ⟨a, ha⟩ := h
  exact ⟨a, fun j hj => (e j hj).trans (ha j hj)⟩
theorem InSp.zero (h : ∀ j, j < C → Cg p (v j) 0) : InSp p C m R v := ⟨fun _ => 0, fun j hj => by
  have : isum (fun i => (0 : Int) * R i j) m = 0 := isum_zero (fun i _ => by omega)
  rw [this]; exact h j hj⟩
theorem InSp.add (h : InSp p C m R v) (g : InSp p C m R w) : InSp p C m R (fun j => v j + w j) := by
  obtain ⟨a, ha⟩ := h
  obtain ⟨b, hb⟩ := g
  refine ⟨fun i => a i + b i, fun j hj => ((ha j hj).add (hb j hj)).trans (Cg.of_eq ?_)⟩
  rw [← isum_add]
  exact isum_congr (fun i _ => by grind)
theorem InSp.smul (t : Int) (h : InSp p C m R v) : InSp p C m R (fun j => t * v j) := by
  obtain ⟨a, ha⟩ := h
  refine ⟨fun i => t * a i, fun j hj => ((Cg.refl t).mul (ha j hj)).trans (Cg.of_eq ?_)⟩
  rw [← isum_mul]
  exact isum_congr (fun i _ => by grind)
theorem InSp.sum {f : Nat → Nat → Int} {b : Nat → Int} : ∀ k, (∀ i, i < k → InSp p C m R (f i)) → InSp p C m R (fun j => isum (fun i => b i * f i j) k)
  | 0, _ => InSp.zero (fun j _ => Cg.refl _)
  | k + 1, h => (InSp.sum k (fun i hi => h i (by omega))).add ((h k (by omega)).smul (b k))
theorem InSp.trans (h : InSp p C m R v) (g : ∀ i, i < m → InSp p C m' R' (R i)) : InSp p C m' R' v := by
  obtain ⟨a, ha⟩ := h
  exact (InSp.sum (b := a) m g).cg ha
theorem InSp.mono (h : InSp p C m R v) (hm : m ≤ m') : InSp p C m' R v := h.trans (fun i hi => InSp.mem (by omega))
theorem InSp.congr (h : InSp p C m R v) (e : ∀ i j, i < m → j < C → Cg p (R i j) (R' i j)) : InSp p C m R' v := h.trans (fun i hi => (InSp.mem hi).cg (fun j hj => e i j hi hj))
end

/-- rows that begin at different places -/
structure Ech (p C m : Nat) (K : Nat → Nat → Int) (L : Nat → Nat) : Prop where
  lead : ∀ i, i < m → Lead p C (K i) (L i)
  inj : ∀ i k, i < m → k < m → L i = L k → i = k
theorem isum_one {p : Nat} {f : Nat → Int} {m i : Nat} (hi : i < m) (h : ∀ k, k < m → k ≠ i → Cg p (f k) 0) : Cg p (isum f m) (f i) := by
  have h1 : Cg p (isum f m) (isum (fun k => if k = i then f k else 0) m) := isum_cg (fun k hk => by
    by_cases c : k = i
    · rw [if_pos c]; exact Cg.refl _
    · rw [if_neg c]; exact h k hk c)
  rw [isum_pick (g := f) hi] at h1
  exact h1
/-- what they span begins where one of them does -/
theorem Ech.begins {p C m : Nat} {K : Nat → Nat → Int} {L : Nat → Nat} (hp : PrimeP p) (h : Ech p C m K L) {v : Nat → Int} (hv : InSp p C m K v) {l : Nat} (hl : Lead p C v l) : ∃ i, i < m ∧ L i = l := by
  obtain ⟨a, ha⟩ := hv
  have key : ∀ q, q < l → ∀ i, i < m → L i = q → Cg p (a i) 0 := by
    intro q
    induction q using Nat.strongRecOn with
    | _ q ih =>
      intro hq i hi e
      have h1 : Cg p (isum (fun k => a k * K k q) m) (a i * K i q) := isum_one (f := fun k => a k * K k q) hi (fun k hk hne => by
        rcases Nat.lt_trichotomy (L k) q with c | c | c
        · have := (ih (L k) c (by omega) k hk rfl).mul (Cg.refl (K k q))
          rwa [Int.zero_mul] at this
        · exact absurd (h.inj k i hk hi (by omega)) hne
        · have := (Cg.refl (a k)).mul ((h.lead k hk).zero q c)
          rwa [Int.mul_zero] at this)
      have hqC : q < C := by have := hl.lt; omega
      have h2 := ((hl.zero q hq).symm.trans (ha q hqC)).trans h1
      have hn := (h.lead i hi).ne
      rw [e] at hn
      exact Cg.cancel hp h2.symm hn
  apply Classical.byContradiction
  intro hno
  have h1 : Cg p (isum (fun k => a k * K k l) m) 0 := by
    have : Cg p (isum (fun k => a k * K k l) m) (isum (fun _ => 0) m) := isum_cg (fun k hk => by
      rcases Nat.lt_trichotomy (L k) l with c | c | c
      · have := (key (L k) c k hk rfl).mul (Cg.refl (K k l))
        rwa [Int.zero_mul] at this
      · exact absurd ⟨k, hk, c⟩ hno
      · have := (Cg.refl (a k)).mul ((h.lead k hk).zero l c)
        rwa [Int.mul_zero] at this)
    rwa [isum_zero (fun _ _ => rfl)] at this
  exact hl.ne ((ha l hl.lt).trans h1)

/-- the places as a set -/
def ldS (L : Nat → Nat) : Nat → Nat
  | 0 => 0
  | m + 1 => ldS L m ||| bit (L m)
theorem ldS_bit (L : Nat → Nat) (q : Nat) : ∀ m, (ldS L m).testBit q = true ↔ ∃ i, i < m ∧ L i = q
  | 0 => by simp [ldS]
  | m + 1 => by
    simp only [ldS]
    rw [Nat.testBit_or, Bool.or_eq_true, ldS_bit L q m, testBit_bit, decide_eq_true_eq]
    constructor
    · rintro (⟨i, hi, e⟩ | e)
      · exact ⟨i, by omega, e⟩
      · exact ⟨m, by omega, e⟩
    · rintro ⟨i, hi, e⟩
      by_cases c : i = m
      · subst c; exact .inr e
      · exact .inl ⟨i, by omega, e⟩
theorem ldS_sz (L : Nat → Nat) : ∀ m, (∀ i, i < m → L i < 8) → (∀ i k, i < m → k < m → L i = L k → i = k) → sz (ldS L m) = m
  | 0, _, _ => by unfold ldS; decide
  | m + 1, h, g => by
    simp only [ldS]
    rw [sz_add (h m (by omega)), ldS_sz L m (fun i hi => h i (by omega)) (fun i k hi hk => g i k (by omega) (by omega))]
    have : ¬ (ldS L m).testBit (L m) = true := fun c => by
      obtain ⟨i, hi, e⟩ := (ldS_bit L (L m) m).1 c
      have := g i m (by omega) (by omega) e
      omega
    simpa using this
/-- as many, whichever they are -/
theorem Ech.uniq {p C m m' : Nat} {K K' : Nat → Nat → Int} {L L' : Nat → Nat} (hp : PrimeP p) (hC : C ≤ 8) (h : Ech p C m K L) (h' : Ech p C m' K' L') (h1 : ∀ i, i < m → InSp p C m' K' (K i)) (h2 : ∀ i, i < m' → InSp p C m K (K' i)) : m = m' := by
  have e1 := ldS_sz L m (fun i hi => by have := (h.lead i hi).lt; omega) h.inj
  have e2 := ldS_sz L' m' (fun i hi => by have := (h'.lead i hi).lt; omega) h'.inj
  have : ldS L m = ldS L' m' := by
    apply Nat.eq_of_testBit_eq
    intro q
    rw [Bool.eq_iff_iff, ldS_bit, ldS_bit]
    constructor
    · rintro ⟨i, hi, e⟩
      exact h'.begins hp (h1 i hi) (e ▸ h.lead i hi)
    · rintro ⟨i, hi, e⟩
      exact h.begins hp (h2 i hi) (e ▸ h'.lead i hi)
  rw [← e1, ← e2, this]
/-- how many rows do not hang on others -/
def RankIs (p C N : Nat) (R : Nat → Nat → Int) (m : Nat) : Prop := ∃ K L, Ech p C m K L ∧ (∀ i, i < m → InSp p C N R (K i)) ∧ ∀ i, i < N → InSp p C m K (R i)
theorem RankIs.uniq {p C N N' : Nat} {R R' : Nat → Nat → Int} {m m' : Nat} (hp : PrimeP p) (hC : C ≤ 8) (h : RankIs p C N R m) (h' : RankIs p C N' R' m') (h1 : ∀ i, i < N → InSp p C N' R' (R i)) (h2 : ∀ i, i < N' → InSp p C N R (R' i)) : m = m' := by
  obtain ⟨K, L, hE, a1, a2⟩ := h
  obtain ⟨K', L', hE', b1, b2⟩ := h'
  exact hE.uniq hp hC hE' (fun i hi => ((a1 i hi).trans h1).trans b2) (fun i hi => ((b1 i hi).trans h2).trans a2)

end Go.Proofs.Ytdcdhdlklppalaa
