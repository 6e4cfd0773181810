
/-
  Labels that edges spread: each vertex ends with the least one of its part. No program in sight.
-/
import Derived.Test.YtdhkobeagfmcnaaDoorTree
namespace Go.Proofs.YtdhkobeagfmcnaaDoor
set_option linter.unusedVariables false

def lblE (es : List (Int × Int)) (x : Nat) (p : Nat → Nat) : Nat → Nat → Nat
  | 0 => p
  | k + 1 => fun j => if x.testBit k = true ∧ (j = vA es k ∨ j = vB es k) then min (lblE es x p k (vA es k)) (lblE es x p k (vB es k)) else lblE es x p k j
def lblT (es : List (Int × Int)) (x : Nat) : Nat → Nat → Nat
  | 0 => fun j => j
  | k + 1 => lblE es x (lblT es x k) es.length
theorem lblE_succ (es : List (Int × Int)) (x : Nat) (p : Nat → Nat) (k j : Nat) : lblE es x p (k+1) j = if x.testBit k = true ∧ (j = vA es k ∨ j = vB es k) then min (lblE es x p k (vA es k)) (lblE es x p k (vB es k)) else lblE es x p k j := rfl
theorem lblE_step (es : List (Int × Int)) (x : Nat) (p : Nat → Nat) (k j : Nat) : lblE es x p (k+1) j ≤ lblE es x p k j := by
  rw [lblE_succ]
  split
  · rename_i h
    rcases h.2 with rfl | rfl <;> omega
  · exact Nat.le_refl _
theorem lblE_mono (es : List (Int × Int)) (x : Nat) (p : Nat → Nat) (j : Nat) {k l : Nat} (h : k ≤ l) : lblE es x p l j ≤ lblE es x p k j := by
  induction l with
  | zero => have : k = 0 := by omega
            subst this; exact Nat.le_refl _
  | succ l ih =>
    by_cases e : k = l + 1
    · subst e; exact Nat.le_refl _
    · have := ih (by omega)
      have := lblE_step es x p l j
      omega
theorem lblE_jn {es : List (Int × Int)} {x : Nat} {p : Nat → Nat} (h : ∀ j, Jn es x j (p j)) : ∀ k, k ≤ es.length → ∀ j, Jn es x j (lblE es x p k j) := by
  intro k
  induction k with
  | zero => intro _ j; exact h j
  | succ k ih =>
    intro hk j
    have h1 := ih (by omega)
    rw [lblE_succ]
    split
    · rename_i hh
      have he := Jn.edge (es := es) (x := x) (show k < es.length by omega) hh.1
      have hA := h1 (vA es k)
      have hB := h1 (vB es k)
      rcases Nat.le_total (lblE es x p k (vA es k)) (lblE es x p k (vB es k)) with g | g
      · rw [Nat.min_eq_left g]
        rcases hh.2 with rfl | rfl
        · exact hA
        · exact he.symm.trans hA
      · rw [Nat.min_eq_right g]
        rcases hh.2 with rfl | rfl
        · exact he.trans hB
        · exact hB
    · exact h1 j
theorem lblT_jn (es : List (Int × Int)) (x : Nat) : ∀ k j, Jn es x j (lblT es x k j) := by
  intro k
  induction k with
  | zero => intro j; exact Jn.refl _ _ _
  | succ k ih => exact lblE_jn ih _ (Nat.le_refl _)

theorem chain_full {T : Nat → Nat} {C n : Nat} (h8 : ∀ k, T k < 256) (hC : C < 256) (hsub : ∀ k, sub (T k) C) (hgrow : ∀ k, sub (T k) (T (k+1))) (h0 : 1 ≤ sz (T 0)) (hstop : ∀ k, T (k+1) = T k → sub C (T k)) (hn : sz C ≤ n) : T n = C := by
  have hdone : ∀ k, T (k+1) = T k → T k = C := fun k hk => eq_of_bits (h8 k) hC (fun i hi => by rw [Bool.eq_iff_iff]; exact ⟨hsub k i, hstop k hk i⟩)
  have hkeep : ∀ k, T k = C → T (k+1) = C := fun k hk => by
    have h1 := hgrow k
    rw [hk] at h1
    exact eq_of_bits (h8 _) hC (fun i hi => by rw [Bool.eq_iff_iff]; exact ⟨hsub _ i, h1 i⟩)
  have hmain : ∀ k, T k = C ∨ k + 1 ≤ sz (T k) := by
    intro k
    induction k with
    | zero => exact .inr h0
    | succ k ih =>
      rcases ih with h | h
      · exact .inl (hkeep k h)
      · by_cases c : T (k+1) = T k
        · exact .inl (by rw [c]; exact hdone k c)
        · right
          have := sub_size (h8 (k+1)) (hgrow k) (fun g => c g.symm)
          omega
  rcases hmain n with h | h
  · exact h
  · have := sz_mono (hsub n)
    omega

theorem lblT_rep {n : Nat} {es : List (Int × Int)} (hG : Grf n es) {x i r : Nat} (hi : i < n) (hr : Rep es x r) (hj : Jn es x i r) : lblT es x n i = r := by
  have hn7 := hG.n7
  have hri : r ≤ i := hr i hj.symm
  obtain ⟨C, hC⟩ := Part.ex es x r
  have hCn : sub C (bit n - 1) := fun j hj => by
    have hsh : Shut es x (bit n - 1) := fun k hk hx => by
      rw [testBit_all, testBit_all]
      have := hG.lt k hk
      simp [this.1, this.2]
    exact hC.within hsh (by rw [testBit_all]; simp; omega) j hj
  have hsz : sz C ≤ n := by have := sz_mono hCn; rwa [sz_all (by omega)] at this
  have hT : ∀ k, ∃ T, T < 256 ∧ ∀ j, j < 8 → (T.testBit j = true ↔ j < n ∧ lblT es x k j = r) := fun k => exists_set _
  let T : Nat → Nat := fun k => Classical.choose (hT k)
  have hT8 : ∀ k, T k < 256 := fun k => (Classical.choose_spec (hT k)).1
  have hTb : ∀ k j, j < 8 → ((T k).testBit j = true ↔ j < n ∧ lblT es x k j = r) := fun k => (Classical.choose_spec (hT k)).2
  have hmin : ∀ p : Nat → Nat, (∀ j, Jn es x j (p j)) → ∀ j, Jn es x j r → r ≤ p j := fun p hp j hj => hr _ (hj.symm.trans (hp j))
  have hfull : T n = C := by
    refine chain_full hT8 hC.1 (fun k j hj => ?_) (fun k j hj => ?_) ?_ (fun k hk => ?_) hsz
    · have h8 := lt_of_testBit (hT8 k) hj
      have := (hTb k j h8).1 hj
      exact (hC.2 j h8).2 (by have h := lblT_jn es x k j; rw [this.2] at h; exact h.symm)
    · have h8 := lt_of_testBit (hT8 k) hj
      have h1 := (hTb k j h8).1 hj
      refine (hTb (k+1) j h8).2 ⟨h1.1, ?_⟩
      have hJ : Jn es x j r := by have h := lblT_jn es x k j; rw [h1.2] at h; exact h
      have h2 := hmin _ (lblT_jn es x (k+1)) j hJ
      have h3 : lblT es x (k+1) j ≤ lblT es x k j := lblE_mono es x (lblT es x k) j (Nat.zero_le _)
      omega
    · have h1 : (T 0).testBit r = true := (hTb 0 r (by omega)).2 ⟨by omega, rfl⟩
      have h2 : sub (bit r) (T 0) := fun j hj => by
        rw [testBit_bit, decide_eq_true_eq] at hj
        subst hj; exact h1
      have := sz_mono h2
      rw [sz_bit (by omega)] at this
      exact this
    · have hpull : ∀ e, e < es.length → x.testBit e = true → ∀ a b, (a = vA es e ∧ b = vB es e) ∨ (a = vB es e ∧ b = vA es e) → (T k).testBit a = true → (T k).testBit b = true := fun e he hx a b hab ha => by
        have hlt := hG.lt e he
        have hbn : b < n := by rcases hab with ⟨_, rfl⟩ | ⟨_, rfl⟩ <;> omega
        have han : a < n := by rcases hab with ⟨rfl, _⟩ | ⟨rfl, _⟩ <;> omega
        rw [← hk]
        have h1 := (hTb k a (by omega)).1 ha
        refine (hTb (k+1) b (by omega)).2 ⟨hbn, ?_⟩
        have hJa : Jn es x a r := by have h := lblT_jn es x k a; rw [h1.2] at h; exact h
        have hJab : Jn es x a b := by
          have h := Jn.edge (es := es) (x := x) he hx
          rcases hab with ⟨rfl, rfl⟩ | ⟨rfl, rfl⟩
          · exact h
          · exact h.symm
        have hJb : Jn es x b r := hJab.symm.trans hJa
        have h2 := hmin _ (lblT_jn es x (k+1)) b hJb
        have h3 : lblT es x (k+1) b ≤ lblE es x (lblT es x k) (e+1) b := lblE_mono es x (lblT es x k) b (by omega)
        have h4 : lblE es x (lblT es x k) e a ≤ lblT es x k a := lblE_mono es x (lblT es x k) a (Nat.zero_le _)
        have h5 : lblE es x (lblT es x k) (e+1) b ≤ lblE es x (lblT es x k) e a := by
          show (if x.testBit e = true ∧ (b = vA es e ∨ b = vB es e) then min (lblE es x (lblT es x k) e (vA es e)) (lblE es x (lblT es x k) e (vB es e)) else _) ≤ _
          rw [if_pos ⟨hx, by rcases hab with ⟨_, h⟩ | ⟨_, h⟩; exact .inr h; exact .inl h⟩]
          rcases hab with ⟨rfl, _⟩ | ⟨rfl, _⟩
          · exact Nat.min_le_left _ _
          · exact Nat.min_le_right _ _
        omega
      have hsh : Shut es x (T k) := fun e he hx => by
        rw [Bool.eq_iff_iff]
        exact ⟨hpull e he hx _ _ (.inl ⟨rfl, rfl⟩), hpull e he hx _ _ (.inr ⟨rfl, rfl⟩)⟩
      have hrT : (T k).testBit r = true := (hTb k r (by omega)).2 ⟨by omega, by
        have h1 := hmin _ (lblT_jn es x k) r (Jn.refl _ _ _)
        have h2 : ∀ k, lblT es x k r ≤ r := by
          intro k
          induction k with
          | zero => exact Nat.le_refl _
          | succ k ih =>
            have : lblT es x (k+1) r ≤ lblT es x k r := lblE_mono es x (lblT es x k) r (Nat.zero_le _)
            omega
        have := h2 k
        omega⟩
      exact hC.within hsh hrT
  have hiC : C.testBit i = true := (hC.2 i (by omega)).2 hj.symm
  rw [← hfull] at hiC
  exact ((hTb n i (by omega)).1 hiC).2

def cntTo (p : Nat → Nat) : Nat → Nat
  | 0 => 0
  | k + 1 => if p k = k then cntTo p k + 1 else cntTo p k
theorem cntTo_bsum (p : Nat → Nat) (k : Nat) : cntTo p k = bsum (fun i => if p i = i then 1 else 0) k := by
  induction k with
  | zero => rfl
  | succ k ih =>
    simp only [bsum, cntTo]
    split <;> omega
theorem bsum_tail {f : Nat → Nat} {k l : Nat} (h : k ≤ l) (hf : ∀ i, k ≤ i → f i = 0) : bsum f l = bsum f k := by
  induction l with
  | zero => have : k = 0 := by omega
            subst this; rfl
  | succ l ih =>
    by_cases e : k = l + 1
    · subst e; rfl
    · simp only [bsum]
      rw [ih (by omega), hf l (by omega)]
      omega
theorem cntTo_le (p : Nat → Nat) (k : Nat) : cntTo p k ≤ k := by
  induction k with
  | zero => exact Nat.le_refl _
  | succ k ih => unfold cntTo; split <;> omega
theorem isle_is {n : Nat} {es : List (Int × Int)} (hG : Grf n es) {x R : Nat} (hR : Reps n es x R) : cntTo (lblT es x n) n = sz R := by
  have hn7 := hG.n7
  rw [cntTo_bsum, sz_sum, bsum_tail (k := n) (l := 8) (by omega) (fun i hi => by
    cases c : R.testBit i
    · rfl
    · have := (hR.2 i (lt_of_testBit hR.1 c)).1 c
      omega)]
  refine bsum_congr (fun i hi => ?_)
  obtain ⟨r, h1, h2, h3⟩ := Rep.ex es x i
  have hl := lblT_rep hG hi h2 h3
  rw [hl]
  by_cases c : r = i
  · subst c
    rw [if_pos rfl, (hR.2 r (by omega)).2 ⟨hi, h2⟩]; rfl
  · rw [if_neg c]
    cases d : R.testBit i
    · rfl
    · exact absurd (Rep.one h2 ((hR.2 i (by omega)).1 d).2 h3.symm) c

end Go.Proofs.YtdhkobeagfmcnaaDoor
