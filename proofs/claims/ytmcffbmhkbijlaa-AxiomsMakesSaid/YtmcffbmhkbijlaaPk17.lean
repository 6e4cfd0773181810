
/-
  rotaref.Most.
  rotaref.Flats, rotaref.Hyperplanes.
  The lattice of flats, plainly: closures; Mobius numbers by sets and one behind the other; the characteristic polynomial both ways.
-/
import Derived.Test.YtmcffbmhkbijlaaPk09
import Derived.Test.YtmcffbmhkbijlaaPk10
import Derived.Deep.CutRange
import Derived.Deep.CutBlock
import Derived.Deep.RegionHeld3
import Derived.Test.YtmcffbmhkbijlaaPk07
namespace Go.Proofs.Ytmcffbmhkbijlaa
open Go.RowKit
set_option linter.unusedVariables false

end Go.Proofs.Ytmcffbmhkbijlaa

namespace Go.Proofs.Ytmcffbmhkbijlaa
open Go.RowKit
set_option linter.unusedVariables false

end Go.Proofs.Ytmcffbmhkbijlaa

namespace Go.Proofs.Ytmcffbmhkbijlaa
set_option linter.unusedVariables false

theorem and_eq_left_of {a b : Nat} (h : a ||| b = b) : a &&& b = a := by
  apply Nat.eq_of_testBit_eq
  intro i
  have := or_eq_iff.1 h i
  rw [Nat.testBit_and]
  cases c : a.testBit i
  · rfl
  · rw [this c]; rfl

/-! ### closures -/
def cloTo (L : List Nat) (s : Nat) : Nat → Nat
  | 0 => s
  | k + 1 => if rk L (s ||| bit k) = rk L s then cloTo L s k ||| bit k else cloTo L s k
def clo (m : Nat) (L : List Nat) (s : Nat) : Nat := cloTo L s m
theorem cloTo_testBit (L : List Nat) (s k i : Nat) : (cloTo L s k).testBit i = true ↔ s.testBit i = true ∨ (i < k ∧ rk L (s ||| bit i) = rk L s) := by
  induction k with
  | zero => simp [cloTo]
  | succ k ih =>
    simp only [cloTo]
    by_cases c : rk L (s ||| bit k) = rk L s
    · rw [if_pos c, or_bit_testBit, Bool.or_eq_true, ih, decide_eq_true_eq]
      constructor
      · rintro ((h | h) | h)
        · exact .inl h
        · exact .inr ⟨by omega, h.2⟩
        · subst h; exact .inr ⟨by omega, c⟩
      · rintro (h | ⟨h1, h2⟩)
        · exact .inl (.inl h)
        · by_cases e : k = i
          · exact .inr e
          · exact .inl (.inr ⟨by omega, h2⟩)
    · rw [if_neg c, ih]
      constructor
      · rintro (h | h)
        · exact .inl h
        · exact .inr ⟨by omega, h.2⟩
      · rintro (h | ⟨h1, h2⟩)
        · exact .inl h
        · by_cases e : i = k
          · subst e; exact absurd h2 c
          · exact .inr ⟨by omega, h2⟩
theorem clo_is (m : Nat) (L : List Nat) (s : Nat) (h : clo m L s < 256) : CloIs m L s (clo m L s) := ⟨h, fun i _ => cloTo_testBit L s m i⟩
theorem clo_lt {m : Nat} (L : List Nat) {s : Nat} (hs : s < bit m) : clo m L s < bit m := by
  have : ∀ k, k ≤ m → cloTo L s k < bit m := by
    intro k
    induction k with
    | zero => intro _; exact hs
    | succ k ih =>
      intro hk
      simp only [cloTo]
      split
      · exact or_lt_bit (ih (by omega)) (bit_lt_bit (by omega))
      · exact ih (by omega)
  exact this m (Nat.le_refl _)
theorem clo_sup (m : Nat) (L : List Nat) (s : Nat) : sub s (clo m L s) := fun i hi => (cloTo_testBit L s m i).2 (.inl hi)

section
variable {m r : Nat} {L : List Nat} (hm : m ≤ 8) (hne : L ≠ []) (hF : Fam8 L r) (hE : Exch L)
include hm hne hF hE
/-- what adds nothing to a set adds nothing to a greater one -/
theorem rk_join {s t i : Nat} (ht : t < 256) (hi : i < 8) (hst : sub s t) (h : rk L (s ||| bit i) = rk L s) : rk L (t ||| bit i) = rk L t := by
  have _ := hm
  cases hti : t.testBit i
  · have hsi : s.testBit i = false := by
      cases c : s.testBit i
      · rfl
      · rw [hst i c] at hti; cases hti
    obtain ⟨c, c1, c2, c3, c4⟩ := (flat_circ hne hF hE (sub_lt256 ht hst) hi hsi).1 h
    refine (flat_circ hne hF hE ht hi hti).2 ⟨c, c1, c2, fun k hk => ?_, c4⟩
    have := c3 k hk
    rw [or_bit_testBit, Bool.or_eq_true] at this ⊢
    rcases this with g | g
    · exact .inl (hst k g)
    · exact .inr g
  · rw [or_same hti]
theorem rk_cloTo {s : Nat} (hs : s < bit m) : ∀ k, k ≤ m → rk L (cloTo L s k) = rk L s := by
  have hb := bit_le m hm
  intro k
  induction k with
  | zero => intro _; rfl
  | succ k ih =>
    intro hk
    have h := ih (by omega)
    simp only [cloTo]
    split
    · rename_i c
      have hsub : sub s (cloTo L s k) := fun i hi => (cloTo_testBit L s k i).2 (.inl hi)
      have hlt : cloTo L s k < 256 := by
        have : ∀ j, j ≤ m → cloTo L s j < bit m := by
          intro j
          induction j with
          | zero => intro _; exact hs
          | succ j ihj =>
            intro hj
            simp only [cloTo]
            split
            · exact or_lt_bit (ihj (by omega)) (bit_lt_bit (by omega))
            · exact ihj (by omega)
        have := this k (by omega)
        omega
      rw [rk_join hm hne hF hE hlt (by omega) hsub c, h]
    · exact h
theorem rk_clo {s : Nat} (hs : s < bit m) : rk L (clo m L s) = rk L s := rk_cloTo hm hne hF hE hs m (Nat.le_refl _)
theorem clo_flat {s : Nat} (hs : s < bit m) : Flat m L (clo m L s) := fun i hi hci e => by
  have hsi : ¬ (s.testBit i = true ∨ (i < m ∧ rk L (s ||| bit i) = rk L s)) := fun h => by
    have := (cloTo_testBit L s m i).2 h
    rw [show cloTo L s m = clo m L s from rfl, hci] at this
    cases this
  have h1 : rk L (s ||| bit i) ≠ rk L s := fun h => hsi (.inr ⟨hi, h⟩)
  have h2 := rk_mono hne (sub_or_left s (bit i))
  have h3 : rk L (s ||| bit i) ≤ rk L (clo m L s ||| bit i) := rk_mono hne (fun k hk => by
    rw [or_bit_testBit, Bool.or_eq_true] at hk ⊢
    rcases hk with h | h
    · exact .inl (clo_sup m L s k h)
    · exact .inr h)
  rw [e, rk_clo hm hne hF hE hs] at h3
  omega
theorem clo_min {s f : Nat} (hs : s < bit m) (hf : f < bit m) (hfl : Flat m L f) : sub s f → sub (clo m L s) f := fun h i hi => by
  have hb := bit_le m hm
  rcases (cloTo_testBit L s m i).1 hi with g | ⟨g1, g2⟩
  · exact h i g
  · cases c : f.testBit i
    · exact absurd (rk_join hm hne hF hE (by omega) (by omega) h g2) (hfl i g1 c)
    · rfl
theorem clo_of_flat {f : Nat} (hf : f < bit m) (hfl : Flat m L f) : clo m L f = f := sub_antisymm (clo_min hm hne hF hE hf hf hfl (fun _ h => h)) (clo_sup m L f)
end

/-! ### Mobius numbers -/
/-- of a set: what it adds to a flat's number -/
def nuT (m : Nat) (L : List Nat) (lp f s : Nat) : Int := if s ||| f = f ∧ s &&& lp = 0 ∧ clo m L s = f then sgn s else 0
def nu (m : Nat) (L : List Nat) (lp f : Nat) : Int := isum (nuT m L lp f) (bit m)
theorem nuT_le (m : Nat) (L : List Nat) (lp f s : Nat) : -((1 : Nat) : Int) ≤ nuT m L lp f s ∧ nuT m L lp f s ≤ ((1 : Nat) : Int) := by
  unfold nuT
  split
  · rcases sgn_one s with h | h <;> rw [h] <;> decide
  · decide
theorem nu_le {m : Nat} (hm : m ≤ 8) (L : List Nat) (lp f : Nat) : -256 ≤ nu m L lp f ∧ nu m L lp f ≤ 256 := by
  have hb := bit_le m hm
  have := isum_le (n := bit m) (fun i _ => nuT_le m L lp f i)
  rw [Nat.mul_one] at this
  unfold nu
  omega
theorem nu_to {m : Nat} (L : List Nat) (lp : Nat) {f : Nat} (hf : f < bit m) : isum (nuT m L lp f) (f + 1) = nu m L lp f :=
  (isum_tail (fun j h1 _ => by
    unfold nuT
    rw [if_neg]
    rintro ⟨h, _⟩
    have : j ≤ f := by rw [← h]; exact Nat.left_le_or
    omega) hf).symm
def psum (F : List Nat) (A : Nat → Int) (i k : Nat) : Int := isum (fun j => if F.getD j 0 &&& F.getD i 0 = F.getD j 0 then A j else 0) k
/-- numbers of a list of sets, each made of those ahead of it -/
def MuIs (F : List Nat) (A : Nat → Int) : Prop := A 0 = 1 ∧ (∀ i, 0 < i → i < F.length → A i = - psum F A i i) ∧ ∀ i, -256 ≤ A i ∧ A i ≤ 256

theorem those_rise {m : Nat} {p : Nat → Bool} {i j : Nat} (hij : i < j) (hj : j < (those m p).length) : (those m p).getD i 0 < (those m p).getD j 0 := by
  have h : (those m p).Pairwise (· < ·) := List.Pairwise.filter p List.pairwise_lt_range
  have := List.pairwise_iff_getElem.1 h i j (by omega) hj hij
  have h1 : (those m p).getD i 0 = (those m p)[i] := by simp [show i < (those m p).length by omega]
  have h2 : (those m p).getD j 0 = (those m p)[j] := by simp [hj]
  rw [h1, h2]; exact this
theorem those_at {m : Nat} {p : Nat → Bool} {j : Nat} (hj : j < (those m p).length) : (those m p).getD j 0 < bit m ∧ p ((those m p).getD j 0) = true := mem_those.1 (by simp [hj])
theorem those_ix {m : Nat} {p : Nat → Bool} {x : Nat} (h : x < bit m) (hp : p x = true) : ∃ j, j < (those m p).length ∧ (those m p).getD j 0 = x := by
  obtain ⟨j, hj, e⟩ := List.getElem_of_mem (mem_those.2 ⟨h, hp⟩)
  exact ⟨j, hj, by simp [hj, e]⟩

section
variable {m r : Nat} {L : List Nat} (hm : m ≤ 8) (hne : L ≠ []) (hF : Fam8 L r) (hE : Exch L)
include hm hne hF hE
theorem flats_ne : 0 < (those m (flatP m L)).length := by
  have hb := bit_le m hm
  obtain ⟨j, hj, _⟩ := those_ix (p := flatP m L) (clo_lt (m := m) L (s := 0) (by omega)) (flatP_iff.2 (clo_flat hm hne hF hE (by omega)))
  omega
/-- the first flat is what the empty set spans -/
theorem flats_zero : (those m (flatP m L)).getD 0 0 = clo m L 0 := by
  have hb := bit_le m hm
  have h0 := flats_ne hm hne hF hE
  obtain ⟨h1, h2⟩ := those_at h0
  have h3 := clo_min hm hne hF hE (s := 0) (by omega) h1 (flatP_iff.1 h2) (fun i hi => by simp at hi)
  obtain ⟨j, hj, e⟩ := those_ix (p := flatP m L) (clo_lt (m := m) L (s := 0) (by omega)) (flatP_iff.2 (clo_flat hm hne hF hE (by omega)))
  by_cases c : j = 0
  · subst c; exact e
  · have h4 := those_rise (show 0 < j by omega) hj
    have h5 : clo m L 0 ≤ (those m (flatP m L)).getD 0 0 := by
      have := or_eq_iff.2 h3
      rw [← this]; exact Nat.left_le_or
    omega
/-- all sets of a flat, but for those with loops: their signs come to nought, if it is not the least -/
theorem flat_signs {f : Nat} (hf : f < bit m) (hfl : Flat m L f) : isum (fun s => if s ||| f = f ∧ s &&& clo m L 0 = 0 then sgn s else 0) (bit m) = if f = clo m L 0 then 1 else 0 := by
  have hb := bit_le m hm
  have hsub := clo_min hm hne hF hE (s := 0) (by omega) hf hfl (fun i hi => by simp at hi)
  by_cases c : f = clo m L 0
  · rw [if_pos c]
    have : isum (fun s => if s ||| f = f ∧ s &&& clo m L 0 = 0 then sgn s else 0) (bit m) = isum (fun s => if s = 0 then sgn s else 0) (bit m) := isum_congr (fun s hs => by
      by_cases z : s = 0
      · subst z
        rw [if_pos (by simp), if_pos rfl]
      · rw [if_neg z, if_neg]
        rintro ⟨h1, h2⟩
        rw [← c] at h2
        have h3 : s &&& f = s := and_eq_left_of h1
        rw [h3] at h2
        exact z h2)
    rw [this, isum_pick (by omega)]
    decide
  · rw [if_neg c]
    obtain ⟨e, he1, he2⟩ : ∃ e, f.testBit e = true ∧ (clo m L 0).testBit e = false := exists_diff (fun h => c (sub_antisymm h hsub))
    have hem := lt_m_of_testBit hf he1
    refine isum_invol (σ := flip e) (fun s hs => ⟨flip_lt hem hs, flip_flip e s⟩) (fun s hs => ?_)
    have h1 : (flip e s ||| f = f ∧ flip e s &&& clo m L 0 = 0) ↔ (s ||| f = f ∧ s &&& clo m L 0 = 0) := by
      rw [or_eq_iff, or_eq_iff, and_eq_zero_iff, and_eq_zero_iff]
      constructor
      · rintro ⟨g1, g2⟩
        refine ⟨fun i hi => ?_, fun i hi => ?_⟩
        · by_cases q : i = e
          · subst q; exact he1
          · exact g1 i (by rw [flip_testBit, if_neg q]; exact hi)
        · by_cases q : i = e
          · subst q; exact he2
          · exact g2 i (by rw [flip_testBit, if_neg q]; exact hi)
      · rintro ⟨g1, g2⟩
        refine ⟨fun i hi => ?_, fun i hi => ?_⟩
        · by_cases q : i = e
          · subst q; exact he1
          · exact g1 i (by rw [flip_testBit, if_neg q] at hi; exact hi)
        · by_cases q : i = e
          · subst q; exact he2
          · exact g2 i (by rw [flip_testBit, if_neg q] at hi; exact hi)
    by_cases d : s ||| f = f ∧ s &&& clo m L 0 = 0
    · rw [if_pos d, if_pos (h1.2 d), sgn_flip (by omega)]
    · rw [if_neg d, if_neg (fun h => d (h1.1 h))]; rfl
/-- all flats within one: their numbers come to nought, if it is not the least -/
theorem nu_sum {f : Nat} (hf : f < bit m) (hfl : Flat m L f) : isum (fun j => if (those m (flatP m L)).getD j 0 &&& f = (those m (flatP m L)).getD j 0 then nu m L (clo m L 0) ((those m (flatP m L)).getD j 0) else 0) (those m (flatP m L)).length = if f = clo m L 0 then 1 else 0 := by
  have hb := bit_le m hm
  rw [those_sum m (flatP m L) (fun x => if x &&& f = x then nu m L (clo m L 0) x else 0), ← flat_signs hm hne hF hE hf hfl]
  have e1 : isum (fun x => if flatP m L x = true then (if x &&& f = x then nu m L (clo m L 0) x else 0) else 0) (bit m) = isum (fun x => isum (fun s => if flatP m L x = true ∧ x &&& f = x then nuT m L (clo m L 0) x s else 0) (bit m)) (bit m) := isum_congr (fun x hx => by
    by_cases c1 : flatP m L x = true
    · by_cases c2 : x &&& f = x
      · rw [if_pos c1, if_pos c2]
        exact isum_congr (fun s _ => (if_pos ⟨c1, c2⟩).symm)
      · rw [if_pos c1, if_neg c2]
        exact (isum_zero (fun s _ => if_neg (fun h => c2 h.2))).symm
    · rw [if_neg c1]
      exact (isum_zero (fun s _ => if_neg (fun h => c1 h.1))).symm)
  rw [e1, isum_swap]
  refine isum_congr (fun s hs => ?_)
  have hcl := clo_lt L hs
  have hcf := clo_flat hm hne hF hE hs
  have e2 : isum (fun x => if flatP m L x = true ∧ x &&& f = x then nuT m L (clo m L 0) x s else 0) (bit m) = isum (fun x => if x = clo m L s then (if s ||| f = f ∧ s &&& clo m L 0 = 0 then sgn s else 0) else 0) (bit m) := isum_congr (fun x hx => by
    by_cases c : x = clo m L s
    · subst c
      rw [if_pos rfl]
      unfold nuT
      have g1 : s ||| clo m L s = clo m L s := or_eq_iff.2 (clo_sup m L s)
      by_cases d : s ||| f = f
      · have g2 : clo m L s &&& f = clo m L s := and_eq_left_of (or_eq_iff.2 (clo_min hm hne hF hE hs hf hfl (or_eq_iff.1 d)))
        rw [if_pos ⟨flatP_iff.2 hcf, g2⟩]
        by_cases z : s &&& clo m L 0 = 0
        · rw [if_pos ⟨g1, z, rfl⟩, if_pos ⟨d, z⟩]
        · rw [if_neg (fun h => z h.2.1), if_neg (fun h => z h.2)]
      · have g2 : ¬ clo m L s &&& f = clo m L s := fun h => d (or_eq_iff.2 (fun i hi => by
          have := clo_sup m L s i hi
          rw [← h, Nat.testBit_and] at this
          simp at this
          exact this.2))
        rw [if_neg (fun h => g2 h.2), if_neg (fun h => d h.1)]
    · rw [if_neg c]
      unfold nuT
      split
      · rw [if_neg (fun h => c h.2.2.symm)]
      · rfl)
  rw [e2, isum_pick (g := fun _ => if s ||| f = f ∧ s &&& clo m L 0 = 0 then sgn s else 0) hcl]
theorem mu_nu : MuIs (those m (flatP m L)) (fun i => nu m L (clo m L 0) ((those m (flatP m L)).getD i 0)) := by
  have hz := flats_zero hm hne hF hE
  have hn := flats_ne hm hne hF hE
  have key : ∀ i, i < (those m (flatP m L)).length → psum (those m (flatP m L)) (fun i => nu m L (clo m L 0) ((those m (flatP m L)).getD i 0)) i i + nu m L (clo m L 0) ((those m (flatP m L)).getD i 0) = if (those m (flatP m L)).getD i 0 = clo m L 0 then 1 else 0 := fun i hi => by
    obtain ⟨h1, h2⟩ := those_at hi
    rw [← nu_sum hm hne hF hE h1 (flatP_iff.1 h2)]
    rw [isum_tail (n := i + 1) (fun j g1 g2 => if_neg (fun h => by
      have h3 := those_rise (show i < j by omega) g2
      have : (those m (flatP m L)).getD j 0 ≤ (those m (flatP m L)).getD i 0 := by rw [← h]; exact Nat.and_le_right
      omega)) hi]
    simp only [isum]
    rw [if_pos (Nat.and_self _)]
    rfl
  refine ⟨?_, fun i h0 hi => ?_, fun i => nu_le hm L _ _⟩
  · have := key 0 hn
    rw [if_pos hz] at this
    have e : psum (those m (flatP m L)) (fun i => nu m L (clo m L 0) ((those m (flatP m L)).getD i 0)) 0 0 = 0 := rfl
    rw [e] at this
    show nu m L (clo m L 0) ((those m (flatP m L)).getD 0 0) = 1
    omega
  · have := key i hi
    have hne2 : ¬ (those m (flatP m L)).getD i 0 = clo m L 0 := fun e => by
      have := those_rise (show 0 < i by omega) hi
      rw [hz] at this
      omega
    rw [if_neg hne2] at this
    show nu m L (clo m L 0) ((those m (flatP m L)).getD i 0) = _
    omega

/-! ### the characteristic polynomial -/
theorem char_same {R d : Nat} (h0 : clo m L 0 = 0) : isum (fun i => if R - rk L ((those m (flatP m L)).getD i 0) = d then nu m L (clo m L 0) ((those m (flatP m L)).getD i 0) else 0) (those m (flatP m L)).length = isum (fun s => if R - rk L s = d then sgn s else 0) (bit m) := by
  have hb := bit_le m hm
  rw [those_sum m (flatP m L) (fun x => if R - rk L x = d then nu m L (clo m L 0) x else 0)]
  have e1 : isum (fun x => if flatP m L x = true then (if R - rk L x = d then nu m L (clo m L 0) x else 0) else 0) (bit m) = isum (fun x => isum (fun s => if flatP m L x = true ∧ R - rk L x = d then nuT m L (clo m L 0) x s else 0) (bit m)) (bit m) := isum_congr (fun x hx => by
    by_cases c1 : flatP m L x = true
    · by_cases c2 : R - rk L x = d
      · rw [if_pos c1, if_pos c2]
        exact isum_congr (fun s _ => (if_pos ⟨c1, c2⟩).symm)
      · rw [if_pos c1, if_neg c2]
        exact (isum_zero (fun s _ => if_neg (fun h => c2 h.2))).symm
    · rw [if_neg c1]
      exact (isum_zero (fun s _ => if_neg (fun h => c1 h.1))).symm)
  rw [e1, isum_swap]
  refine isum_congr (fun s hs => ?_)
  have hcl := clo_lt L hs
  have hcf := clo_flat hm hne hF hE hs
  have hrk := rk_clo hm hne hF hE hs
  have e2 : isum (fun x => if flatP m L x = true ∧ R - rk L x = d then nuT m L (clo m L 0) x s else 0) (bit m) = isum (fun x => if x = clo m L s then (if R - rk L s = d then sgn s else 0) else 0) (bit m) := isum_congr (fun x hx => by
    by_cases c : x = clo m L s
    · subst c
      rw [if_pos rfl, hrk]
      unfold nuT
      rw [h0]
      by_cases d1 : R - rk L s = d
      · rw [if_pos ⟨flatP_iff.2 hcf, d1⟩, if_pos d1, if_pos ⟨or_eq_iff.2 (clo_sup m L s), Nat.and_zero s, rfl⟩]
      · rw [if_neg (fun h => d1 h.2), if_neg d1]
    · rw [if_neg c]
      unfold nuT
      split
      · rw [if_neg (fun h => c h.2.2.symm)]
      · rfl)
  rw [e2, isum_pick (g := fun _ => if R - rk L s = d then sgn s else 0) hcl]
theorem char_loop {R d : Nat} (h0 : clo m L 0 ≠ 0) : isum (fun s => if R - rk L s = d then sgn s else 0) (bit m) = 0 := by
  have hb := bit_le m hm
  have hc := clo_lt (m := m) L (s := 0) (by omega)
  obtain ⟨e, he, hbit⟩ := exists_bit (show clo m L 0 < 256 by omega) h0
  have hr : rk L (0 ||| bit e) = rk L 0 := by
    rcases (cloTo_testBit L 0 m e).1 hbit with h | h
    · simp at h
    · exact h.2
  have hem := lt_m_of_testBit hc hbit
  have hinv : ∀ s, s < bit m → rk L (flip e s) = rk L s := fun s hs => by
    unfold flip
    by_cases h : s.testBit e = true
    · rw [if_pos h]
      have h1 := rk_join hm hne hF hE (t := nand s (bit e)) (nand_lt _ _ 8 (by omega)) he (s := 0) (fun i hi => by simp at hi) hr
      rw [nand_or_bit h] at h1
      exact h1.symm
    · rw [if_neg h]
      exact rk_join hm hne hF hE (by omega) he (s := 0) (fun i hi => by simp at hi) hr
  refine isum_invol (σ := flip e) (fun s hs => ⟨flip_lt hem hs, flip_flip e s⟩) (fun s hs => ?_)
  show (if R - rk L (flip e s) = d then sgn (flip e s) else 0) = - (if R - rk L s = d then sgn s else 0)
  rw [hinv s hs, sgn_flip he]
  split <;> rfl
end

end Go.Proofs.Ytmcffbmhkbijlaa
