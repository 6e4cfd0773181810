/-
  Twins, plainly: two ways to tell them.
-/
import Derived.Test.YtcljgnmlpfddiaaTreesW
import Derived.Test.YtcljgnmlpfddiaaSpans
namespace Go.Proofs.Ytcljgnmlpfddiaa
open Go.RowKit
set_option linter.unusedVariables false

def TrP (n : Nat) (es : List (Int × Int)) (x v : Nat) : Prop := ∃ R, Reps n es x R ∧ Tr n es x v R
def SpP (n : Nat) (es : List (Int × Int)) (x v : Nat) : Prop := ∃ d, d < 8 ∧ low v = bit d ∧ Sp n es x v d
theorem low_of {v : Nat} (hv : v < 256) (h0 : v ≠ 0) {d : Nat} (hd : d < 8) (h : low v = bit d) : v.testBit d = true ∧ ∀ i, i < 8 → v.testBit i = true → d ≤ i := by
  obtain ⟨e, he, h1, h2, _, h3, _⟩ := low_facts v hv h0
  have : e = d := by
    have h4 := congrArg (fun x => x.testBit d) (show bit e = bit d by rw [← h1, h])
    simp only [testBit_bit] at h4
    simpa using h4
  subst this
  exact ⟨h2, h3⟩
theorem trP_iff {n : Nat} {es : List (Int × Int)} (hG : Grf n es) {x v : Nat} (hx : x < bit es.length) (hv : v < bit n) (h0 : v ≠ 0) : TrP n es x v ↔ SpP n es x v := by
  have hn8 : n ≤ 8 := by have := hG.n7; omega
  have hb := bit_le n hn8
  have hv8 : v < 256 := by omega
  obtain ⟨R, hR⟩ := Reps.ex n es x
  constructor
  · rintro ⟨R, hR, hT⟩
    obtain ⟨d, hd, h1, h2, _, h3, _⟩ := low_facts v hv8 h0
    exact ⟨d, hd, h1, (tree_iff hG hx hv h2 h3 hR).1 hT⟩
  · rintro ⟨d, hd, h1, hS⟩
    obtain ⟨h2, h3⟩ := low_of hv8 h0 hd h1
    exact ⟨R, hR, (tree_iff hG hx hv h2 h3 hR).2 hS⟩

/-- as rotaref tells them -/
def TwQ (n : Nat) (es : List (Int × Int)) (need a b v : Nat) : Prop := sub need v ∧ TrP n es a v ∧ TrP n es b v
def TwR (n : Nat) (es : List (Int × Int)) (need a b : Nat) : Prop := a &&& b = 0 ∧ sz a = sz b ∧ ∃ v, need ≤ v ∧ v < bit n ∧ TwQ n es need a b v
/-- the vertices of the first tree -/
def vOf (es : List (Int × Int)) (need a k : Nat) : Nat := if a = 0 then need else endsTo es a k
/-- as game tells them -/
def TwG (n : Nat) (es : List (Int × Int)) (need a b : Nat) : Prop := sub need (vOf es need a es.length) ∧ SpP n es a (vOf es need a es.length) ∧ a &&& b = 0 ∧ SpP n es b (vOf es need a es.length)
theorem vOf_step (es : List (Int × Int)) (need a k : Nat) : vOf es need a (k+1) = if a.testBit k = true then vOf es need a k ||| (bit (vA es k) ||| bit (vB es k)) else vOf es need a k := by
  unfold vOf
  by_cases h : a = 0
  · subst h; simp
  · simp only [if_neg h]; rfl
theorem vOf_lt {n : Nat} {es : List (Int × Int)} (hG : Grf n es) {need a k : Nat} (hk : k ≤ es.length) (hn : need < bit n) : vOf es need a k < bit n := by
  unfold vOf
  split
  · exact hn
  · exact endsTo_lt hG a k hk
theorem sub_le {a b : Nat} (h : sub a b) : a ≤ b := by
  have : a ||| b = b := or_eq_iff.2 h
  have h2 : a ≤ a ||| b := Nat.left_le_or
  omega
theorem twins_iff {n : Nat} {es : List (Int × Int)} (hG : Grf n es) {need a b : Nat} (hn : need < bit n) (h0 : need ≠ 0) (ha : a < bit es.length) (hb : b < bit es.length) : TwG n es need a b ↔ TwR n es need a b := by
  have hn8 : n ≤ 8 := by have := hG.n7; omega
  have hbn := bit_le n hn8
  have hne : ∀ v, sub need v → v ≠ 0 := fun v h e => by
    subst e
    have := sub_le h
    omega
  constructor
  · rintro ⟨h1, h2, h3, h4⟩
    have hv := vOf_lt hG (a := a) (Nat.le_refl es.length) hn
    have hv0 := hne _ h1
    refine ⟨h3, ?_, _, sub_le h1, hv, h1, (trP_iff hG ha hv hv0).2 h2, (trP_iff hG hb hv hv0).2 h4⟩
    obtain ⟨d, _, _, e1, _⟩ := h2
    obtain ⟨d', _, _, e2, _⟩ := h4
    omega
  · rintro ⟨h1, h2, v, h3, hv, h4, h5, h6⟩
    have hv0 := hne _ h4
    have hS := (trP_iff hG ha hv hv0).1 h5
    have hve : vOf es need a es.length = v := by
      unfold vOf
      split
      · rename_i hz
        subst hz
        obtain ⟨d, hd, hl, hs, _⟩ := hS
        rw [sz_zero] at hs
        apply Classical.byContradiction
        intro hc
        have h7 := sub_size (show v < 256 by omega) h4 hc
        obtain ⟨e, he, hb2⟩ := exists_bit (show need < 256 by omega) h0
        have h8 : sz (bit e) ≤ sz need := sz_mono (fun k hk => by
          rw [testBit_bit, decide_eq_true_eq] at hk
          subst hk; exact hb2)
        rw [sz_bit he] at h8
        omega
      · rename_i hz
        obtain ⟨d, hd, hl, hsp⟩ := hS
        obtain ⟨hdb, _⟩ := low_of (show v < 256 by omega) hv0 hd hl
        obtain ⟨R, hR, hT⟩ := h5
        exact tree_ends hG ha hz hv hdb hT.1 hsp
    unfold TwG
    rw [hve]
    exact ⟨h4, hS, h1, (trP_iff hG hb hv hv0).1 h6⟩
def TwIs (m : Nat) (P : Nat → Nat → Prop) (x y e : Int) : Prop := (∃ a b : Nat, a < bit m ∧ b < bit m ∧ P a b ∧ (∀ a', a' < a → ∀ b', b' < bit m → ¬ P a' b') ∧ (∀ b', b' < b → ¬ P a b') ∧ x = a ∧ y = b ∧ e = 0) ∨ ((∀ a, a < bit m → ∀ b, b < bit m → ¬ P a b) ∧ x = 0 ∧ y = 0 ∧ e = 5)
theorem TwIs.hit {m : Nat} {P : Nat → Nat → Prop} {x y e : Int} (h : TwIs m P x y e) {a b : Nat} (ha : a < bit m) (hb : b < bit m) (hp : P a b) (hA : ∀ a', a' < a → ∀ b', b' < bit m → ¬ P a' b') (hB : ∀ b', b' < b → ¬ P a b') : x = a ∧ y = b ∧ e = 0 := by
  rcases h with ⟨c, d, h1, h2, h3, h4, h5, h6, h7, h8⟩ | ⟨h1, _⟩
  · have hac : a = c := by
      rcases Nat.lt_trichotomy a c with g | g | g
      · exact absurd hp (h4 a g b hb)
      · exact g
      · exact absurd h3 (hA c g d h2)
    subst hac
    have hbd : b = d := by
      rcases Nat.lt_trichotomy b d with g | g | g
      · exact absurd hp (h5 b g)
      · exact g
      · exact absurd h3 (hB d g)
    subst hbd
    exact ⟨h6, h7, h8⟩
  · exact absurd hp (h1 a ha b hb)
theorem TwIs.miss {m : Nat} {P : Nat → Nat → Prop} {x y e : Int} (h : TwIs m P x y e) (hA : ∀ a, a < bit m → ∀ b, b < bit m → ¬ P a b) : x = 0 ∧ y = 0 ∧ e = 5 := by
  rcases h with ⟨c, d, h1, h2, h3, _⟩ | ⟨_, h2⟩
  · exact absurd h3 (hA c h1 d h2)
  · exact h2
theorem TwIs.of {m : Nat} {P Q : Nat → Nat → Prop} {x y e : Int} (h : TwIs m P x y e) (hPQ : ∀ a b, a < bit m → b < bit m → (P a b ↔ Q a b)) : TwIs m Q x y e := by
  rcases h with ⟨c, d, h1, h2, h3, h4, h5, h6⟩ | ⟨h1, h2⟩
  · exact .inl ⟨c, d, h1, h2, (hPQ c d h1 h2).1 h3, fun a' ha b' hb hq => h4 a' ha b' hb ((hPQ a' b' (by omega) hb).2 hq), fun b' hb hq => h5 b' hb ((hPQ c b' h1 (by omega)).2 hq), h6⟩
  · exact .inr ⟨fun a ha b hb hq => h1 a ha b hb ((hPQ a b ha hb).2 hq), h2⟩
theorem least_nat {P : Nat → Prop} : ∀ n y, y ≤ n → P y → ∃ d, d ≤ y ∧ P d ∧ ∀ z, z < d → ¬ P z := by
  intro n
  induction n with
  | zero => intro y hy h; exact ⟨y, Nat.le_refl _, h, fun z hz => by omega⟩
  | succ n ih =>
    intro y hy h
    by_cases g : ∃ z, z < y ∧ P z
    · obtain ⟨z, h1, h2⟩ := g
      obtain ⟨d, h3, h4, h5⟩ := ih z (by omega) h2
      exact ⟨d, by omega, h4, h5⟩
    · exact ⟨y, Nat.le_refl _, h, fun z hz hp => g ⟨z, hz, hp⟩⟩
theorem TwIs.ex (m : Nat) (P : Nat → Nat → Prop) : (∃ a b : Nat, TwIs m P a b 0) ∨ TwIs m P 0 0 5 := by
  by_cases h : ∃ a b, a < bit m ∧ b < bit m ∧ P a b
  · obtain ⟨a, b, h1, h2, h3⟩ := h
    obtain ⟨c, c1, ⟨d, d1, d2⟩, c3⟩ := least_nat (P := fun a => ∃ b, b < bit m ∧ P a b) a a (Nat.le_refl _) ⟨b, h2, h3⟩
    obtain ⟨f, f1, f2, f3⟩ := least_nat (P := fun b => P c b) d d (Nat.le_refl _) d2
    exact .inl ⟨c, f, .inl ⟨c, f, by omega, by omega, f2, fun a' ha b' hb hp => c3 a' ha ⟨b', hb, hp⟩, f3, rfl, rfl, rfl⟩⟩
  · exact .inr (.inr ⟨fun a ha b hb hp => h ⟨a, b, ha, hb, hp⟩, rfl, rfl, rfl⟩)

end Go.Proofs.Ytcljgnmlpfddiaa
