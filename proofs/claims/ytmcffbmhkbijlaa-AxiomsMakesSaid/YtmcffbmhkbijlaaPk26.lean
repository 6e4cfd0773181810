
/-
  rotaref.IsGraph and kinds.CheckGraph.
  What edges of a graph join, plainly: parts that hang together, how many there are. No program in sight.
  Trees of a graph, plainly: two ways to tell them. No program in sight.
-/
import Derived.Test.YtmcffbmhkbijlaaPk25
import Derived.Test.YtmcffbmhkbijlaaPk23
import Derived.Test.YtmcffbmhkbijlaaPk03
namespace Go.Proofs.Ytmcffbmhkbijlaa
open Go.RowKit
set_option linter.unusedVariables false

def edgesTo (n : Int) (es : List (Int × Int)) (k : Nat) : Prop := ∀ i, i < k → 0 ≤ (es.getD i (0,0)).1 ∧ 0 ≤ (es.getD i (0,0)).2 ∧ (es.getD i (0,0)).1 < n ∧ (es.getD i (0,0)).2 < n
instance (n es k) : Decidable (edgesTo n es k) := by unfold edgesTo; infer_instance
def isGraph (n : Int) (es : List (Int × Int)) : Prop := 1 ≤ n ∧ n ≤ 7 ∧ es.length ≤ 8 ∧ edgesTo n es es.length
instance (n es) : Decidable (isGraph n es) := by unfold isGraph; infer_instance
theorem edgesTo_step {n : Int} {es : List (Int × Int)} {k : Nat} (h : edgesTo n es k) (h1 : 0 ≤ (es.getD k (0,0)).1) (h2 : 0 ≤ (es.getD k (0,0)).2) (h3 : (es.getD k (0,0)).1 < n) (h4 : (es.getD k (0,0)).2 < n) : edgesTo n es (k+1) := by
  intro i hi
  by_cases e : i = k
  · subst e; exact ⟨h1, h2, h3, h4⟩
  · exact h i (by omega)

end Go.Proofs.Ytmcffbmhkbijlaa

namespace Go.Proofs.Ytmcffbmhkbijlaa
set_option linter.unusedVariables false

def vA (es : List (Int × Int)) (i : Nat) : Nat := (es.getD i (0,0)).1.toNat
def vB (es : List (Int × Int)) (i : Nat) : Nat := (es.getD i (0,0)).2.toNat
/-- a set that the edges x do not leave -/
def Shut (es : List (Int × Int)) (x S : Nat) : Prop := ∀ i, i < es.length → x.testBit i = true → S.testBit (vA es i) = S.testBit (vB es i)
/-- i and j hang together -/
def Jn (es : List (Int × Int)) (x i j : Nat) : Prop := ∀ S, Shut es x S → S.testBit i = S.testBit j
theorem Jn.refl (es : List (Int × Int)) (x i : Nat) : Jn es x i i := fun _ _ => rfl
theorem Jn.symm {es : List (Int × Int)} {x i j : Nat} (h : Jn es x i j) : Jn es x j i := fun S hS => (h S hS).symm
theorem Jn.trans {es : List (Int × Int)} {x i j k : Nat} (h : Jn es x i j) (h2 : Jn es x j k) : Jn es x i k := fun S hS => (h S hS).trans (h2 S hS)
theorem Jn.edge {es : List (Int × Int)} {x i : Nat} (h : i < es.length) (hx : x.testBit i = true) : Jn es x (vA es i) (vB es i) := fun S hS => hS i h hx
theorem Jn.mono {es : List (Int × Int)} {x y i j : Nat} (hs : sub x y) (h : Jn es x i j) : Jn es y i j := fun S hS => h S (fun k hk hx => hS k hk (hs k hx))
/-- ends of edges are below eight -/
def Ends (es : List (Int × Int)) : Prop := ∀ i, i < es.length → vA es i < 8 ∧ vB es i < 8
/-- the part of i -/
def Part (es : List (Int × Int)) (x i C : Nat) : Prop := C < 256 ∧ ∀ j, j < 8 → (C.testBit j = true ↔ Jn es x i j)
theorem Part.ex (es : List (Int × Int)) (x i : Nat) : ∃ C, Part es x i C := exists_set (fun j => Jn es x i j)
theorem Part.shut {es : List (Int × Int)} (he : Ends es) {x i C : Nat} (h : Part es x i C) : Shut es x C := fun k hk hx => by
  obtain ⟨h1, h2⟩ := he k hk
  rw [Bool.eq_iff_iff, h.2 _ h1, h.2 _ h2]
  exact ⟨fun g => g.trans (Jn.edge hk hx), fun g => g.trans (Jn.edge hk hx).symm⟩
theorem Part.self {es : List (Int × Int)} {x i C : Nat} (hi : i < 8) (h : Part es x i C) : C.testBit i = true := (h.2 i hi).2 (Jn.refl _ _ _)
/-- the part is all that a set which is not left, with i in it, must have -/
theorem Part.within {es : List (Int × Int)} {x i C S : Nat} (h : Part es x i C) (hS : Shut es x S) (hi : S.testBit i = true) : sub C S := fun j hj => by
  rw [← (h.2 j (lt_of_testBit h.1 hj)).1 hj S hS]; exact hi
/-- the least of its part -/
def Rep (es : List (Int × Int)) (x i : Nat) : Prop := ∀ j, Jn es x i j → i ≤ j
theorem Rep.ex (es : List (Int × Int)) (x : Nat) : ∀ i, ∃ r, r ≤ i ∧ Rep es x r ∧ Jn es x i r := by
  intro i
  induction i using Nat.strongRecOn with
  | _ i ih =>
    by_cases h : Rep es x i
    · exact ⟨i, Nat.le_refl _, h, Jn.refl _ _ _⟩
    · obtain ⟨j, hj⟩ := Classical.not_forall.1 h
      rw [Classical.not_imp] at hj
      obtain ⟨r, h1, h2, h3⟩ := ih j (by omega)
      exact ⟨r, by omega, h2, hj.1.trans h3⟩
theorem Rep.one {es : List (Int × Int)} {x r s : Nat} (h : Rep es x r) (h2 : Rep es x s) (hj : Jn es x r s) : r = s := by
  have := h s hj
  have := h2 r hj.symm
  omega
/-- the least ones of all parts -/
def Reps (n : Nat) (es : List (Int × Int)) (x R : Nat) : Prop := R < 256 ∧ ∀ i, i < 8 → (R.testBit i = true ↔ i < n ∧ Rep es x i)
theorem Reps.ex (n : Nat) (es : List (Int × Int)) (x : Nat) : ∃ R, Reps n es x R := exists_set (fun i => i < n ∧ Rep es x i)
theorem Reps.one {n : Nat} {es : List (Int × Int)} {x R R' : Nat} (h : Reps n es x R) (h' : Reps n es x R') : R = R' :=
  eq_of_bits h.1 h'.1 (fun i hi => by rw [Bool.eq_iff_iff, h.2 i hi, h'.2 i hi])

/-- with one more edge -/
theorem Jn.more {es : List (Int × Int)} (he : Ends es) {x e i j : Nat} (hel : e < es.length) (hi : i < 8) (hj : j < 8) (h : Jn es (x ||| bit e) i j) : Jn es x i j ∨ (Jn es x i (vA es e) ∧ Jn es x j (vB es e)) ∨ (Jn es x i (vB es e) ∧ Jn es x j (vA es e)) := by
  obtain ⟨hA, hB⟩ := he e hel
  obtain ⟨C, hC⟩ := Part.ex es x i
  obtain ⟨D, hD⟩ := Part.ex es x (vA es e)
  obtain ⟨E, hE⟩ := Part.ex es x (vB es e)
  have hCs := hC.shut he
  have hDs := hD.shut he
  have hEs := hE.shut he
  have key : ∀ S, Shut es x S → S.testBit (vA es e) = S.testBit (vB es e) → Shut es (x ||| bit e) S := fun S hS hab k hk hx => by
    rw [Nat.testBit_or, testBit_bit, Bool.or_eq_true] at hx
    rcases hx with hx | hx
    · exact hS k hk hx
    · have : e = k := by simpa using hx
      subst this; exact hab
  have hor : ∀ S T, Shut es x S → Shut es x T → Shut es x (S ||| T) := fun S T hS hT k hk hx => by
    rw [Nat.testBit_or, Nat.testBit_or, hS k hk hx, hT k hk hx]
  by_cases h1 : Jn es x i (vA es e)
  · by_cases h2 : Jn es x i (vB es e)
    · left
      have hab : C.testBit (vA es e) = C.testBit (vB es e) := by rw [(hC.2 _ hA).2 h1, (hC.2 _ hB).2 h2]
      have := h C (key C hCs hab)
      rw [hC.self hi] at this
      exact (hC.2 j hj).1 this.symm
    · have hab : (C ||| E).testBit (vA es e) = (C ||| E).testBit (vB es e) := by
        rw [Nat.testBit_or, Nat.testBit_or, (hC.2 _ hA).2 h1, hE.self hB]; simp
      have := h (C ||| E) (key _ (hor _ _ hCs hEs) hab)
      rw [Nat.testBit_or, hC.self hi, Nat.testBit_or] at this
      have : C.testBit j = true ∨ E.testBit j = true := by simpa using this
      rcases this with g | g
      · exact .inl ((hC.2 j hj).1 g)
      · exact .inr (.inl ⟨h1, ((hE.2 j hj).1 g).symm⟩)
  · by_cases h2 : Jn es x i (vB es e)
    · have hab : (C ||| D).testBit (vA es e) = (C ||| D).testBit (vB es e) := by
        rw [Nat.testBit_or, Nat.testBit_or, (hC.2 _ hB).2 h2, hD.self hA]; simp
      have := h (C ||| D) (key _ (hor _ _ hCs hDs) hab)
      rw [Nat.testBit_or, hC.self hi, Nat.testBit_or] at this
      have : C.testBit j = true ∨ D.testBit j = true := by simpa using this
      rcases this with g | g
      · exact .inl ((hC.2 j hj).1 g)
      · exact .inr (.inr ⟨h2, ((hD.2 j hj).1 g).symm⟩)
    · left
      have f1 : C.testBit (vA es e) = false := by
        cases g : C.testBit (vA es e)
        · rfl
        · exact absurd ((hC.2 _ hA).1 g) h1
      have f2 : C.testBit (vB es e) = false := by
        cases g : C.testBit (vB es e)
        · rfl
        · exact absurd ((hC.2 _ hB).1 g) h2
      have := h C (key C hCs (by rw [f1, f2]))
      rw [hC.self hi] at this
      exact (hC.2 j hj).1 this.symm

theorem Jn.small {es : List (Int × Int)} (he : Ends es) {x i j : Nat} (hi : i < 8) (h : Jn es x i j) : j < 8 := by
  obtain ⟨C, hC⟩ := Part.ex es x i
  have := h C (hC.shut he)
  rw [hC.self hi] at this
  exact lt_of_testBit hC.1 this.symm

theorem sub_or (x y : Nat) : sub x (x ||| y) := fun i hi => by rw [Nat.testBit_or, hi]; rfl
/-- an edge within a part changes nothing -/
theorem Jn.same {es : List (Int × Int)} {x e i j : Nat} (hj : Jn es x (vA es e) (vB es e)) : Jn es (x ||| bit e) i j ↔ Jn es x i j := by
  refine ⟨fun h S hS => h S (fun k hk hx => ?_), Jn.mono (sub_or _ _)⟩
  rw [Nat.testBit_or, testBit_bit, Bool.or_eq_true] at hx
  rcases hx with hx | hx
  · exact hS k hk hx
  · have : e = k := by simpa using hx
    subst this; exact hj S hS
theorem Reps.same {n : Nat} {es : List (Int × Int)} {x e R R' : Nat} (hj : Jn es x (vA es e) (vB es e)) (h : Reps n es x R) (h' : Reps n es (x ||| bit e) R') : R' = R :=
  eq_of_bits h'.1 h.1 (fun i hi => by
    rw [Bool.eq_iff_iff, h.2 i hi, h'.2 i hi]
    unfold Rep
    simp only [Jn.same hj])
/-- an edge between two parts makes one of them -/
theorem Reps.less {n : Nat} {es : List (Int × Int)} (he : Ends es) {x e R R' : Nat} (hel : e < es.length) (hn : n ≤ 8) (hA : vA es e < n) (hB : vB es e < n) (hj : ¬ Jn es x (vA es e) (vB es e)) (h : Reps n es x R) (h' : Reps n es (x ||| bit e) R') : sz R = sz R' + 1 := by
  obtain ⟨a, a1, a2, a3⟩ := Rep.ex es x (vA es e)
  obtain ⟨b, b1, b2, b3⟩ := Rep.ex es x (vB es e)
  have hab : a ≠ b := fun g => hj (a3.trans (by rw [g]; exact b3.symm))
  have hJ : Jn es (x ||| bit e) a b := (a3.mono (sub_or _ _)).symm.trans ((Jn.edge hel (by rw [Nat.testBit_or, testBit_bit]; simp)).trans (b3.mono (sub_or _ _)))
  obtain ⟨m, hm, hm8, hmb, hmr⟩ : ∃ m, (m = a ∨ m = b) ∧ m < n ∧ (a ≤ m ∧ b ≤ m) ∧ Rep es x m := by
    rcases Nat.lt_or_gt_of_ne hab with g | g
    · exact ⟨b, .inr rfl, by omega, by omega, b2⟩
    · exact ⟨a, .inl rfl, by omega, by omega, a2⟩
  have hbit : ∀ i, i < 8 → R'.testBit i = (nand R (bit m)).testBit i := fun i hi => by
    rw [nand_testBit, testBit_bit, Bool.eq_iff_iff, h'.2 i hi]
    rw [Bool.and_eq_true, h.2 i hi]
    simp only [Bool.not_eq_true', decide_eq_false_iff_not]
    constructor
    · rintro ⟨h1, h2⟩
      refine ⟨⟨h1, fun j hj => h2 j (hj.mono (sub_or _ _))⟩, ?_⟩
      intro hmi
      subst hmi
      have q1 : m ≤ a := h2 a (by
        rcases hm with e | e
        · rw [e]; exact Jn.refl _ _ _
        · rw [e]; exact hJ.symm)
      have q2 : m ≤ b := h2 b (by
        rcases hm with e | e
        · rw [e]; exact hJ
        · rw [e]; exact Jn.refl _ _ _)
      omega
    · rintro ⟨⟨h1, h2⟩, h3⟩
      refine ⟨h1, fun j hj => ?_⟩
      rcases Jn.more he hel (by omega) (hj.small he (by omega)) hj with g | ⟨g1, g2⟩ | ⟨g1, g2⟩
      · exact h2 j g
      · -- i = a, j in the part of b
        have e1 : i = a := Rep.one h2 a2 (g1.trans a3)
        subst e1
        have : b ≤ j := b2 j (b3.symm.trans g2.symm)
        rcases hm with rfl | rfl
        · exact absurd rfl h3
        · omega
      · have e1 : i = b := Rep.one h2 b2 (g1.trans b3)
        subst e1
        have : a ≤ j := a2 j (a3.symm.trans g2.symm)
        rcases hm with rfl | rfl
        · omega
        · exact absurd rfl h3
  have e1 : R' = nand R (bit m) := eq_of_bits h'.1 (nand_lt _ _ 8 h.1) hbit
  rw [e1]
  exact (sz_without R m h.1 (by omega) ((h.2 m (by omega)).2 ⟨hm8, hmr⟩)).symm
/-- no edges: each vertex is a part -/
theorem Reps.none {n : Nat} {es : List (Int × Int)} {R : Nat} (hn : n ≤ 8) (h : Reps n es 0 R) : R = bit n - 1 := by
  have := bit_le n hn
  refine eq_of_bits h.1 (by omega) (fun i hi => ?_)
  rw [testBit_all, Bool.eq_iff_iff, h.2 i hi, decide_eq_true_eq]
  refine ⟨fun h => h.1, fun h => ⟨h, fun j hj => ?_⟩⟩
  have := hj (bit i) (fun k hk hx => by simp at hx)
  rw [testBit_bit, testBit_bit] at this
  have : i = j := by simpa using this
  omega
theorem sz_all {n : Nat} (hn : n ≤ 8) : sz (bit n - 1) = n := by
  have : ∀ n : Fin 9, sz (bit n.val - 1) = n.val := by decide
  exact this ⟨n, by omega⟩
/-- a set without its least element, and one element more -/
theorem set_split {x : Nat} (hx : x < 256) (h0 : x ≠ 0) : ∃ e, e < 8 ∧ x.testBit e = true ∧ nand x (bit e) ||| bit e = x ∧ sz (nand x (bit e)) + 1 = sz x := by
  obtain ⟨e, he, h⟩ := exists_bit hx h0
  refine ⟨e, he, h, eq_of_bits (or_lt _ _ (nand_lt _ _ 8 hx) (bit_lt256 e he)) hx (fun i hi => ?_), sz_without x e hx he h⟩
  rw [Nat.testBit_or, nand_testBit, testBit_bit]
  by_cases c : e = i
  · subst c; simp [h]
  · simp [c]
/-- each edge makes the parts fewer by one at most -/
theorem Reps.many {n : Nat} {es : List (Int × Int)} (he : ∀ i, i < es.length → vA es i < n ∧ vB es i < n) (hn : n ≤ 8) : ∀ k x R, x < bit es.length → es.length ≤ 8 → sz x = k → Reps n es x R → n ≤ sz R + k := by
  have hE : Ends es := fun i hi => ⟨by have := he i hi; omega, by have := he i hi; omega⟩
  intro k
  induction k with
  | zero =>
    intro x R hx h8 hk hR
    have hb := bit_le _ h8
    by_cases h0 : x = 0
    · subst h0
      rw [hR.none hn, sz_all hn]; omega
    · obtain ⟨e, _, _, _, h4⟩ := set_split (show x < 256 by omega) h0
      omega
  | succ k ih =>
    intro x R hx h8 hk hR
    have hb := bit_le _ h8
    have h0 : x ≠ 0 := by rintro rfl; rw [sz_zero] at hk; omega
    obtain ⟨e, he8, h2, h3, h4⟩ := set_split (show x < 256 by omega) h0
    have hel : e < es.length := (lt_pow_iff _ x h8 (by omega)).1 hx e he8 h2
    obtain ⟨Q, hQ⟩ := Reps.ex n es (nand x (bit e))
    have := ih _ Q (Nat.lt_of_le_of_lt (nand_le _ _) hx) h8 (by omega) hQ
    rw [← h3] at hR
    by_cases hj : Jn es (nand x (bit e)) (vA es e) (vB es e)
    · rw [Reps.same hj hQ hR]; omega
    · have := Reps.less hE hel hn (he e hel).1 (he e hel).2 hj hQ hR
      omega

/-! ### what is reached in n turns -/
theorem reachE_sub (es : List (Int × Int)) (x s k : Nat) : sub s (reachE es x s k) := by
  induction k with
  | zero => exact fun _ h => h
  | succ k ih =>
    intro i hi
    unfold reachE
    split
    · rw [Nat.testBit_or, ih i hi]; rfl
    · exact ih i hi
/-- one turn that adds nothing has nothing to add -/
theorem reachE_mono (es : List (Int × Int)) (x s : Nat) {k l : Nat} (h : k ≤ l) : sub (reachE es x s k) (reachE es x s l) := by
  induction l with
  | zero => have : k = 0 := by omega
            subst this; exact fun _ h => h
  | succ l ih =>
    by_cases e : k = l + 1
    · subst e; exact fun _ h => h
    · intro i hi
      have := ih (by omega) i hi
      unfold reachE
      split
      · rw [Nat.testBit_or, this]; rfl
      · exact this
theorem reachE_shut {es : List (Int × Int)} {x s : Nat} (h : reachE es x s es.length = s) : Shut es x s := by
  intro k hk hx
  have h1 := reachE_mono es x s (show k + 1 ≤ es.length by omega)
  rw [h] at h1
  by_cases g : (reachE es x s k).testBit (vA es k) = true ∨ (reachE es x s k).testBit (vB es k) = true
  · have e : reachE es x s (k+1) = reachE es x s k ||| (bit (vA es k) ||| bit (vB es k)) := if_pos ⟨hx, g⟩
    have a := h1 (vA es k) (by rw [e, Nat.testBit_or, Nat.testBit_or, testBit_bit]; simp)
    have b := h1 (vB es k) (by rw [e, Nat.testBit_or, Nat.testBit_or, testBit_bit (vB es k)]; simp)
    rw [a, b]
  · have h2 := reachE_sub es x s k
    have : s.testBit (vA es k) = false := by
      cases c : s.testBit (vA es k)
      · rfl
      · exact absurd (.inl (h2 _ c)) g
    have h3 : s.testBit (vB es k) = false := by
      cases c : s.testBit (vB es k)
      · rfl
      · exact absurd (.inr (h2 _ c)) g
    rw [this, h3]
/-- what is reached hangs together with what one begins with -/
theorem reachE_in {es : List (Int × Int)} {x s k S : Nat} (hk : k ≤ es.length) (hS : Shut es x S) (hs : sub s S) : sub (reachE es x s k) S := by
  induction k with
  | zero => exact hs
  | succ k ih =>
    have h1 := ih (by omega)
    unfold reachE
    split
    · rename_i h
      have hsh := hS k (by omega) h.1
      have hboth : S.testBit (vA es k) = true ∧ S.testBit (vB es k) = true := by
        rcases h.2 with g | g
        · have := h1 _ g
          have g' : S.testBit (vA es k) = true := this
          exact ⟨g', by rw [← hsh]; exact g'⟩
        · have := h1 _ g
          have g' : S.testBit (vB es k) = true := this
          exact ⟨by rw [hsh]; exact g', g'⟩
      intro i hi
      rw [Nat.testBit_or, Nat.testBit_or, testBit_bit, testBit_bit] at hi
      simp only [Bool.or_eq_true, decide_eq_true_eq] at hi
      rcases hi with hi | hi | hi
      · exact h1 i hi
      · rw [← hi]; exact hboth.1
      · rw [← hi]; exact hboth.2
    · exact h1
theorem reachT_in {es : List (Int × Int)} {x s S : Nat} (hS : Shut es x S) (hs : S.testBit s = true) (k : Nat) : sub (reachT es x s k) S := by
  induction k with
  | zero => intro i hi; rw [show reachT es x s 0 = bit s from rfl, testBit_bit, decide_eq_true_eq] at hi; rw [← hi]; exact hs
  | succ k ih => exact reachE_in (Nat.le_refl _) hS ih
theorem sub_size {a b : Nat} (hb : b < 256) (h : sub a b) (hne : a ≠ b) : sz a < sz b := by
  have ha : a < 256 := by
    have : a ||| b = b := or_eq_iff.2 h
    have h2 : a ≤ a ||| b := Nat.left_le_or
    omega
  obtain ⟨i, hi⟩ : ∃ i, i < 8 ∧ a.testBit i ≠ b.testBit i := Classical.byContradiction fun g => hne (eq_of_bits ha hb (fun i hi => Classical.byContradiction fun c => g ⟨i, hi, c⟩))
  have h1 : b.testBit i = true ∧ a.testBit i = false := by
    cases c : a.testBit i
    · have := hi.2; rw [c] at this; exact ⟨by simpa using this.symm, rfl⟩
    · have := hi.2; rw [c, h i c] at this; exact absurd rfl this
  have h2 : sub a (nand b (bit i)) := fun j hj => by
    rw [nand_testBit, h j hj, testBit_bit]
    have : i ≠ j := by rintro rfl; rw [h1.2] at hj; cases hj
    simp [this]
  have h3 := sz_mono h2
  have h4 := sz_without b i hb hi.1 h1.1
  omega
theorem reachT_part {n : Nat} {es : List (Int × Int)} (hn : n ≤ 7) (he : ∀ i, i < es.length → vA es i < n ∧ vB es i < n) (hp : ∀ i, i < es.length → 0 ≤ (es.getD i (0,0)).1 ∧ 0 ≤ (es.getD i (0,0)).2 ∧ (es.getD i (0,0)).1 < (n : Int) ∧ (es.getD i (0,0)).2 < (n : Int)) {x s C : Nat} (hs : s < n) (hC : Part es x s C) : reachT es x s n = C := by
  have hE : Ends es := fun i hi => ⟨by have := he i hi; omega, by have := he i hi; omega⟩
  have hsub : ∀ k, sub (reachT es x s k) C := fun k => reachT_in (hC.shut hE) (hC.self (by omega)) k
  have hgrow : ∀ k, sub (reachT es x s k) (reachT es x s (k+1)) := fun k => reachE_sub es x _ _
  have hbit : ∀ k, (reachT es x s k).testBit s = true := by
    intro k
    induction k with
    | zero => show (bit s).testBit s = true; rw [testBit_bit]; simp
    | succ k ih => exact hgrow k s ih
  have hdone : ∀ k, reachT es x s (k+1) = reachT es x s k → reachT es x s k = C := fun k hk => by
    have hsh : Shut es x (reachT es x s k) := reachE_shut hk
    have h2 := hC.within hsh (hbit k)
    have h8 := reachT_lt (n := (n : Int)) (by omega) hp (x := x) (show s < 8 by omega) k
    exact eq_of_bits h8 hC.1 (fun i hi => by rw [Bool.eq_iff_iff]; exact ⟨hsub k i, h2 i⟩)
  have hkeep : ∀ k, reachT es x s k = C → reachT es x s (k+1) = C := fun k hk => by
    have h1 := hgrow k
    have h2 := hsub (k+1)
    rw [hk] at h1
    have h8 := reachT_lt (n := (n : Int)) (by omega) hp (x := x) (show s < 8 by omega) (k+1)
    exact eq_of_bits h8 hC.1 (fun i hi => by rw [Bool.eq_iff_iff]; exact ⟨h2 i, h1 i⟩)
  have hCn : sub C (bit n - 1) := fun j hj => by
    have hsh : Shut es x (bit n - 1) := fun k hk hx => by
      rw [testBit_all, testBit_all]
      have := he k hk
      simp [this.1, this.2]
    exact hC.within hsh (by rw [testBit_all]; simpa using hs) j hj
  have hsz : sz C ≤ n := by have := sz_mono hCn; rwa [sz_all (by omega)] at this
  have hmain : ∀ k, reachT es x s k = C ∨ k + 1 ≤ sz (reachT es x s k) := by
    intro k
    induction k with
    | zero => right; show 1 ≤ sz (bit s); rw [sz_bit (by omega)]; exact Nat.le_refl _
    | succ k ih =>
      rcases ih with h | h
      · exact .inl (hkeep k h)
      · by_cases c : reachT es x s (k+1) = reachT es x s k
        · exact .inl (by rw [c]; exact hdone k c)
        · right
          have h8 := reachT_lt (n := (n : Int)) (by omega) hp (x := x) (show s < 8 by omega) (k+1)
          have := sub_size h8 (hgrow k) (fun g => c g.symm)
          omega
  rcases hmain n with h | h
  · exact h
  · have := sz_mono (hsub n)
    omega

end Go.Proofs.Ytmcffbmhkbijlaa

namespace Go.Proofs.Ytmcffbmhkbijlaa
set_option linter.unusedVariables false

def Inside (es : List (Int × Int)) (x v : Nat) : Prop := ∀ i, i < es.length → x.testBit i = true → v.testBit (vA es i) = true ∧ v.testBit (vB es i) = true
theorem Inside.shut {es : List (Int × Int)} {x v : Nat} (h : Inside es x v) : Shut es x v := fun i hi hx => by rw [(h i hi hx).1, (h i hi hx).2]
theorem Inside.alone {es : List (Int × Int)} {x v j : Nat} (h : Inside es x v) (hj : v.testBit j = false) : Shut es x (bit j) := fun i hi hx => by
  have h1 := h i hi hx
  rw [testBit_bit, testBit_bit]
  have a : j ≠ vA es i := by rintro rfl; rw [h1.1] at hj; exact absurd hj.symm (by decide)
  have b : j ≠ vB es i := by rintro rfl; rw [h1.2] at hj; exact absurd hj.symm (by decide)
  simp [a, b]
theorem Inside.rep {es : List (Int × Int)} {x v j : Nat} (h : Inside es x v) (hj : v.testBit j = false) : Rep es x j := fun k hk => by
  have := hk _ (h.alone hj)
  rw [testBit_bit, testBit_bit] at this
  have : j = k := by simpa using this
  omega
/-- the vertices not in v, and the least one of v -/
def Rest (n v d : Nat) : Nat := nand (bit n - 1) v ||| bit d
theorem rest_testBit {n v d i : Nat} : (Rest n v d).testBit i = ((decide (i < n) && !v.testBit i) || decide (d = i)) := by
  unfold Rest; rw [Nat.testBit_or, nand_testBit, testBit_all, testBit_bit]
theorem rest_lt {n v d : Nat} (hn : n ≤ 8) (hd : d < 8) : Rest n v d < 256 := or_lt _ _ (nand_lt _ _ 8 (by have := bit_le n hn; show bit n - 1 < 256; omega)) (bit_lt256 d hd)
theorem rest_sz {n v d : Nat} (hn : n ≤ 8) (hv : v < bit n) (hd : v.testBit d = true) (hd8 : d < 8) : sz (Rest n v d) + sz v = n + 1 := by
  have hb := bit_le n hn
  have hsub : (bit n - 1) &&& v = v := by
    refine eq_of_bits (Nat.and_lt_two_pow _ (show v < 2 ^ 8 by omega)) (by omega) (fun i hi => ?_)
    rw [Nat.testBit_and, testBit_all]
    cases c : v.testBit i
    · simp
    · have := (lt_pow_iff n v hn (by omega)).1 hv i hi c
      simp [this]
  have h1 := sz_diff (bit n - 1) v
  rw [hsub, sz_all hn] at h1
  have h2 := sz_add (a := nand (bit n - 1) v) hd8 (by rw [nand_testBit, hd]; simp)
  unfold Rest
  omega

structure Grf (n : Nat) (es : List (Int × Int)) : Prop where
  n7 : n ≤ 7
  e8 : es.length ≤ 8
  lt : ∀ i, i < es.length → vA es i < n ∧ vB es i < n
  pos : ∀ i, i < es.length → 0 ≤ (es.getD i (0,0)).1 ∧ 0 ≤ (es.getD i (0,0)).2 ∧ (es.getD i (0,0)).1 < (n : Int) ∧ (es.getD i (0,0)).2 < (n : Int)
theorem Grf.of {n : Nat} {es : List (Int × Int)} (h : isGraph (n : Int) es) : Grf n es :=
  ⟨by have := h.2.1; omega, h.2.2.1, fun i hi => by have := h.2.2.2 i hi; unfold vA vB; omega, h.2.2.2⟩
theorem Grf.ends {n : Nat} {es : List (Int × Int)} (h : Grf n es) : Ends es := fun i hi => by have := h.lt i hi; have := h.n7; omega

def Tr (n : Nat) (es : List (Int × Int)) (x v R : Nat) : Prop := Inside es x v ∧ sz x + 1 = sz v ∧ sz R + sz x = n
def Sp (n : Nat) (es : List (Int × Int)) (x v d : Nat) : Prop := sz x + 1 = sz v ∧ reachT es x d n = v

theorem reps_inside {n : Nat} {es : List (Int × Int)} (hG : Grf n es) {x v d R C : Nat} (hv : v < bit n) (hd : v.testBit d = true) (hmin : ∀ i, i < 8 → v.testBit i = true → d ≤ i) (hI : Inside es x v) (hR : Reps n es x R) (hC : Part es x d C) : sub (Rest n v d) R ∧ (C = v ↔ R = Rest n v d) := by
  have hn8 : n ≤ 8 := by have := hG.n7; omega
  have hb := bit_le n hn8
  have hv8 : v < 256 := by omega
  have hd8 := lt_of_testBit hv8 hd
  have hdn : d < n := (lt_pow_iff n v hn8 hv8).1 hv d hd8 hd
  have hsh := hI.shut
  have hdr : Rep es x d := fun j hj => by
    have h1 := hj v hsh
    rw [hd] at h1
    exact hmin j (lt_of_testBit hv8 h1.symm) h1.symm
  have hsubR : sub (Rest n v d) R := fun i hi => by
    rw [rest_testBit, Bool.or_eq_true, Bool.and_eq_true, decide_eq_true_eq, decide_eq_true_eq, Bool.not_eq_true'] at hi
    rcases hi with ⟨h1, h2⟩ | h
    · exact (hR.2 i (by omega)).2 ⟨h1, hI.rep h2⟩
    · subst h; exact (hR.2 d hd8).2 ⟨hdn, hdr⟩
  have hCv : sub C v := hC.within hsh hd
  refine ⟨hsubR, ?_, ?_⟩
  · rintro rfl
    refine eq_of_bits hR.1 (rest_lt hn8 hd8) (fun i hi => ?_)
    rw [Bool.eq_iff_iff]
    refine ⟨fun h => ?_, hsubR i⟩
    have h1 := (hR.2 i hi).1 h
    rw [rest_testBit]
    cases c : C.testBit i
    · simp [h1.1]
    · have := Rep.one hdr h1.2 ((hC.2 i hi).1 c)
      simp [this]
  · intro hRe
    refine eq_of_bits hC.1 hv8 (fun i hi => ?_)
    rw [Bool.eq_iff_iff]
    refine ⟨hCv i, fun h => ?_⟩
    obtain ⟨r, h1, h2, h3⟩ := Rep.ex es x i
    have hrv : v.testBit r = true := by rw [← h3 v hsh]; exact h
    have hin : i < n := (lt_pow_iff n v hn8 hv8).1 hv i hi h
    have hrR := (hR.2 r (by omega)).2 ⟨by omega, h2⟩
    rw [hRe, rest_testBit, hrv] at hrR
    have : d = r := by simpa using hrR
    subst this
    exact (hC.2 i hi).2 h3.symm

theorem tree_iff {n : Nat} {es : List (Int × Int)} (hG : Grf n es) {x v d R : Nat} (hx : x < bit es.length) (hv : v < bit n) (hd : v.testBit d = true) (hmin : ∀ i, i < 8 → v.testBit i = true → d ≤ i) (hR : Reps n es x R) : Tr n es x v R ↔ Sp n es x v d := by
  have hn8 : n ≤ 8 := by have := hG.n7; omega
  have hb := bit_le n hn8
  have hbe := bit_le _ hG.e8
  have hv8 : v < 256 := by omega
  have hx8 : x < 256 := by omega
  have hd8 := lt_of_testBit hv8 hd
  have hdn : d < n := (lt_pow_iff n v hn8 hv8).1 hv d hd8 hd
  obtain ⟨C, hC⟩ := Part.ex es x d
  have hreach := reachT_part hG.n7 hG.lt hG.pos hdn hC
  have hrs := rest_sz hn8 hv hd hd8
  unfold Sp
  rw [hreach]
  constructor
  · rintro ⟨hI, hs, hc⟩
    obtain ⟨h1, h2⟩ := reps_inside hG hv hd hmin hI hR hC
    refine ⟨hs, h2.2 ?_⟩
    apply Classical.byContradiction
    intro hne
    have := sub_size hR.1 h1 (fun g => hne g.symm)
    omega
  · rintro ⟨hs, hCv⟩
    have hI : Inside es x v := fun i hi hxi => by
      have hsh := hC.shut hG.ends i hi hxi
      rw [hCv] at hsh
      cases cA : v.testBit (vA es i)
      case true => rw [cA] at hsh; exact ⟨rfl, hsh.symm⟩
      case false =>
        exfalso
        rw [cA] at hsh
        have hi8 : i < 8 := by have := hG.e8; omega
        have hsp : nand x (bit i) ||| bit i = x := eq_of_bits (or_lt _ _ (nand_lt _ _ 8 hx8) (bit_lt256 i hi8)) hx8 (fun k hk => by
          rw [Nat.testBit_or, nand_testBit, testBit_bit]
          by_cases c : i = k
          · subst c; simp [hxi]
          · simp [c])
        have hsz := sz_without x i hx8 hi8 hxi
        obtain ⟨R', hR'⟩ := Reps.ex n es (nand x (bit i))
        have hmany := Reps.many hG.lt hn8 _ (nand x (bit i)) R' (Nat.lt_of_le_of_lt (nand_le _ _) hx) hG.e8 rfl hR'
        have hdj : ∀ j, j < 8 → v.testBit j = true → Jn es (nand x (bit i)) d j := fun j hj hvj => by
          have h1 : Jn es x d j := (hC.2 j hj).1 (by rw [hCv]; exact hvj)
          rw [← hsp] at h1
          have hle := hG.lt i hi
          rcases Jn.more hG.ends hi hd8 hj h1 with g | ⟨g1, g2⟩ | ⟨g1, g2⟩
          · exact g
          · have g3 : Jn es x d (vA es i) := by rw [← hsp]; exact g1.mono (sub_or _ _)
            have := (hC.2 (vA es i) (by omega)).2 g3
            rw [hCv, cA] at this; cases this
          · have g3 : Jn es x d (vB es i) := by rw [← hsp]; exact g1.mono (sub_or _ _)
            have := (hC.2 (vB es i) (by omega)).2 g3
            rw [hCv, ← hsh] at this; cases this
        have hsubR : sub R' (Rest n v d) := fun j hj => by
          have hj8 := lt_of_testBit hR'.1 hj
          have h1 := (hR'.2 j hj8).1 hj
          rw [rest_testBit]
          cases c : v.testBit j
          · simp [h1.1]
          · have h2 := h1.2 d (hdj j hj8 c).symm
            have h3 := hmin j hj8 c
            have : d = j := by omega
            simp [this]
        have := sz_mono hsubR
        omega
    obtain ⟨h1, h2⟩ := reps_inside hG hv hd hmin hI hR hC
    have hRe := h2.1 hCv
    refine ⟨hI, hs, ?_⟩
    rw [hRe]; omega

/-- the ends of edges -/
def endsTo (es : List (Int × Int)) (x : Nat) : Nat → Nat
  | 0 => 0
  | k + 1 => if x.testBit k = true then endsTo es x k ||| (bit (vA es k) ||| bit (vB es k)) else endsTo es x k
theorem endsTo_testBit (es : List (Int × Int)) (x : Nat) (k j : Nat) : (endsTo es x k).testBit j = true ↔ ∃ i, i < k ∧ x.testBit i = true ∧ (vA es i = j ∨ vB es i = j) := by
  induction k with
  | zero => simp [endsTo]
  | succ k ih =>
    unfold endsTo
    constructor
    · intro h
      split at h
      · rename_i hx
        rw [Nat.testBit_or, Nat.testBit_or, testBit_bit, testBit_bit] at h
        simp only [Bool.or_eq_true, decide_eq_true_eq] at h
        rcases h with h | h
        · obtain ⟨i, h1, h2⟩ := ih.1 h
          exact ⟨i, by omega, h2⟩
        · exact ⟨k, by omega, hx, h⟩
      · obtain ⟨i, h1, h2⟩ := ih.1 h
        exact ⟨i, by omega, h2⟩
    · rintro ⟨i, h1, h2, h3⟩
      by_cases e : i = k
      · subst e
        rw [if_pos h2, Nat.testBit_or, Nat.testBit_or, testBit_bit, testBit_bit]
        simp only [Bool.or_eq_true, decide_eq_true_eq]
        exact .inr h3
      · have := ih.2 ⟨i, by omega, h2, h3⟩
        split
        · rw [Nat.testBit_or, this]; rfl
        · exact this
theorem endsTo_lt {n : Nat} {es : List (Int × Int)} (hG : Grf n es) (x k : Nat) (hk : k ≤ es.length) : endsTo es x k < bit n := by
  have hn8 : n ≤ 8 := by have := hG.n7; omega
  have hb := bit_le n hn8
  have hbits : ∀ i, (endsTo es x k).testBit i = true → i < n := fun i hi => by
    obtain ⟨j, h1, h2, h3⟩ := (endsTo_testBit es x k i).1 hi
    have := hG.lt j (by omega)
    omega
  exact Nat.lt_pow_two_of_testBit _ (fun i hi => by
    cases c : (endsTo es x k).testBit i
    · rfl
    · have := hbits i c; omega)
/-- a tree with an edge has the ends of its edges for vertices -/
theorem tree_ends {n : Nat} {es : List (Int × Int)} (hG : Grf n es) {x v d : Nat} (hx : x < bit es.length) (hx0 : x ≠ 0) (hv : v < bit n) (hd : v.testBit d = true) (hI : Inside es x v) (hs : Sp n es x v d) : endsTo es x es.length = v := by
  have hn8 : n ≤ 8 := by have := hG.n7; omega
  have hb := bit_le n hn8
  have hbe := bit_le _ hG.e8
  have hv8 : v < 256 := by omega
  have hx8 : x < 256 := by omega
  have hd8 := lt_of_testBit hv8 hd
  have hdn : d < n := (lt_pow_iff n v hn8 hv8).1 hv d hd8 hd
  obtain ⟨C, hC⟩ := Part.ex es x d
  have hreach := reachT_part hG.n7 hG.lt hG.pos hdn hC
  have hCv : C = v := by rw [← hreach]; exact hs.2
  refine eq_of_bits (Nat.lt_of_lt_of_le (endsTo_lt hG x es.length (Nat.le_refl _)) (by omega)) hv8 (fun j hj => ?_)
  rw [Bool.eq_iff_iff, endsTo_testBit]
  constructor
  · rintro ⟨i, h1, h2, h3⟩
    have := hI i h1 h2
    rcases h3 with rfl | rfl
    · exact this.1
    · exact this.2
  · intro hvj
    apply Classical.byContradiction
    intro hno
    have hsh : Shut es x (bit j) := fun i hi hxi => by
      rw [testBit_bit, testBit_bit]
      have a : j ≠ vA es i := fun g => hno ⟨i, hi, hxi, .inl g.symm⟩
      have b : j ≠ vB es i := fun g => hno ⟨i, hi, hxi, .inr g.symm⟩
      simp [a, b]
    have hjd : ∀ k, k < 8 → v.testBit k = true → k = j := fun k hk hvk => by
      have h1 : Jn es x d k := (hC.2 k hk).1 (by rw [hCv]; exact hvk)
      have h2 : Jn es x d j := (hC.2 j hj).1 (by rw [hCv]; exact hvj)
      have h3 := (h2.symm.trans h1) _ hsh
      rw [testBit_bit, testBit_bit] at h3
      have : j = k := by simpa using h3
      exact this.symm
    have h1 : v = bit j := eq_of_bits hv8 (bit_lt256 j hj) (fun k hk => by
      rw [testBit_bit, Bool.eq_iff_iff, decide_eq_true_eq]
      exact ⟨fun h => (hjd k hk h).symm, fun h => by rw [← h]; exact hvj⟩)
    have h2 := hs.1
    rw [h1, sz_bit hj] at h2
    obtain ⟨e, he, h3, _⟩ := low_facts x hx8 hx0
    have h4 : sz (bit e) ≤ sz x := sz_mono (fun k hk => by
      rw [testBit_bit, decide_eq_true_eq] at hk
      subst hk
      have := low_facts x hx8 hx0
      obtain ⟨e', _, l1, l2, _⟩ := this
      have : e' = e := by
        have h5 : bit e' = bit e := by rw [← l1, h3]
        have h6 := congrArg (fun y => y.testBit e) h5
        simp only [testBit_bit] at h6
        simpa using h6
      rw [← this]; exact l2)
    rw [sz_bit he] at h4
    omega

end Go.Proofs.Ytmcffbmhkbijlaa
