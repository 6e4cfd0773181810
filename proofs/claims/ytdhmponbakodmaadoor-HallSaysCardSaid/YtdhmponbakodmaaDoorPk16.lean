
/-
  Matchings by ways that alternate, plainly. No program in sight.
  math/bits.Len and TrailingZeros of a set below 256 (the latter by a laid table).
-/
import Derived.Test.YtdhmponbakodmaaDoorPk05
import Derived.Test.YtdhmponbakodmaaDoorPk08
import Derived.Test.YtdhmponbakodmaaDoorPk15
import Derived.Test.YtdhmponbakodmaaDoorPk03
namespace Go.Proofs.YtdhmponbakodmaaDoor
set_option linter.unusedVariables false

/-- of each element that is not in X the set that it stands for, or -1: each of the sets S has just one -/
structure Mt (n : Nat) (l : List Nat) (S : Nat → Prop) (X : Nat) (of : Nat → Int) : Prop where
  val : ∀ i, i < n → X.testBit i = false → of i = -1 ∨ ∃ q, S q ∧ of i = (q : Int) ∧ (l.getD q 0).testBit i = true
  inj : ∀ i j, i < n → j < n → X.testBit i = false → X.testBit j = false → of i = of j → 0 ≤ of i → i = j
  all : ∀ q, S q → ∃ i, i < n ∧ X.testBit i = false ∧ of i = (q : Int)
/-- a set of elements that a search does not leave -/
def ClU (n : Nat) (l : List Nat) (of : Nat → Int) (U : Nat) : Prop := ∀ i, i < n → U.testBit i = true → 0 ≤ of i ∧ sub (l.getD (of i).toNat 0) U
/-- what a search has seen since s0 -/
def ClF (n : Nat) (l : List Nat) (of : Nat → Int) (s0 s : Nat) : Prop := ∀ i, i < n → s.testBit i = true → s0.testBit i = false → 0 ≤ of i ∧ sub (l.getD (of i).toNat 0) s
structure GPre (n : Nat) (l : List Nat) (S : Nat → Prop) (X s k : Nat) (of : Nat → Int) : Prop where
  mt : Mt n l S X of
  sub_ : sub X s
  lt : s < bit n
  new : ¬ S k
  klt : k < l.length
structure GFail (n : Nat) (l : List Nat) (of : Nat → Int) (s0 s k : Nat) : Prop where
  up : sub s0 s
  lt : s < bit n
  has : sub (l.getD k 0) s
  cl : ClF n l of s0 s
structure GWin (n : Nat) (l : List Nat) (S : Nat → Prop) (X : Nat) (of : Nat → Int) (s0 k : Nat) (of' : Nat → Int) : Prop where
  mt : Mt n l (fun q => S q ∨ q = k) X of'
  keep : ∀ j, j < n → s0.testBit j = true → of' j = of j
  out : ∀ U, ClU n l of U → ¬ sub (l.getD k 0) U ∧ ∀ i, i < n → U.testBit i = true → of' i = of i
/-- under way -/
structure LInv (n : Nat) (l : List Nat) (of : Nat → Int) (s0 s : Nat) : Prop where
  up : sub s0 s
  lt : s < bit n
  cl : ClF n l of s0 s
theorem LInv.start {n l of s0} (h : s0 < bit n) : LInv n l of s0 s0 := ⟨fun _ h => h, h, fun i _ h1 h2 => by rw [h1] at h2; cases h2⟩
theorem or_bit_lt {n s i : Nat} (hn : n ≤ 8) (hs : s < bit n) (hi : i < n) : s ||| bit i < bit n := by
  have hb := bit_le n hn
  have hbi := bit_lt i (by omega)
  refine (lt_pow_iff n _ hn (or_lt s (bit i) (by omega) (by omega))).2 fun j hj h => ?_
  rw [Nat.testBit_or, testBit_bit] at h
  simp at h
  rcases h with h | h
  · exact (lt_pow_iff n s hn (by omega)).1 hs j hj h
  · omega
theorem or_bit_at (s i j : Nat) : (s ||| bit i).testBit j = true ↔ s.testBit j = true ∨ i = j := by
  rw [Nat.testBit_or, testBit_bit]; simp
theorem or_bit_not {s i j : Nat} (h : (s ||| bit i).testBit j = false) : s.testBit j = false ∧ i ≠ j := by
  rw [Nat.testBit_or, testBit_bit] at h
  simpa using h
theorem upd_at (of : Nat → Int) (i : Nat) (x : Int) : (fun j => if j = i then x else of j) i = x := by simp

section
variable {n : Nat} {l : List Nat} {S : Nat → Prop} {X s0 s k i : Nat} {of of1 : Nat → Int}
/-- a free element -/
theorem GPre.free (h : GPre n l S X s0 k of) (hL : LInv n l of s0 s) (hi : i < n) (hk : (l.getD k 0).testBit i = true) (hs : s.testBit i = false) (hf : of i < 0) :
    GWin n l S X of s0 k (fun j => if j = i then (k : Int) else of j) := by
  have hX : X.testBit i = false := by
    cases c : X.testBit i
    · rfl
    · have := hL.up i (h.sub_ i c); rw [this] at hs; cases hs
  have hneS : ∀ j, of j = (k : Int) → j < n → X.testBit j = false → False := fun j e hj hXj => by
    rcases h.mt.val j hj hXj with g | ⟨q, hq, e2, _⟩
    · omega
    · have : q = k := by omega
      subst this; exact h.new hq
  refine ⟨⟨fun j hj hXj => ?_, fun a b ha hb hXa hXb e hp => ?_, fun q hq => ?_⟩, fun j hj hsj => ?_, fun U hU => ⟨fun hsub => ?_, fun j hj hUj => ?_⟩⟩
  · by_cases c : j = i
    · subst c
      exact .inr ⟨k, .inr rfl, upd_at _ _ _, hk⟩
    · simp only [if_neg c]
      rcases h.mt.val j hj hXj with g | ⟨q, hq, g⟩
      · exact .inl g
      · exact .inr ⟨q, .inl hq, g⟩
  · by_cases c : a = i
    · by_cases d : b = i
      · omega
      · simp only [if_pos c, if_neg d] at e
        exact (hneS b e.symm hb hXb).elim
    · by_cases d : b = i
      · simp only [if_neg c, if_pos d] at e
        exact (hneS a e ha hXa).elim
      · simp only [if_neg c, if_neg d] at e hp
        exact h.mt.inj a b ha hb hXa hXb e hp
  · rcases hq with hq | rfl
    · obtain ⟨j, hj, hXj, e⟩ := h.mt.all q hq
      refine ⟨j, hj, hXj, ?_⟩
      rw [if_neg (fun c => by subst c; omega)]; exact e
    · exact ⟨i, hi, hX, upd_at _ _ _⟩
  · show (if j = i then (k : Int) else of j) = of j
    rw [if_neg]
    rintro rfl
    have := hL.up j hsj
    rw [this] at hs; cases hs
  · have := (hU i hi (hsub i hk)).1
    omega
  · show (if j = i then (k : Int) else of j) = of j
    rw [if_neg]
    rintro rfl
    have := (hU j hi hUj).1
    omega
/-- an element that stands for another set: that one is asked for another element -/
theorem GPre.deep (h : GPre n l S X s0 k of) (hn : n ≤ 8) (hL : LInv n l of s0 s) (hi : i < n) (hs : s.testBit i = false) {q : Nat} (hq : of i = (q : Int)) (hlen : ∀ q, S q → q < l.length) :
    GPre n l (fun p => S p ∧ p ≠ q) (X ||| bit i) (s ||| bit i) q of ∧ S q := by
  have hX : X.testBit i = false := by
    cases c : X.testBit i
    · rfl
    · have := hL.up i (h.sub_ i c); rw [this] at hs; cases hs
  have hSq : S q := by
    rcases h.mt.val i hi hX with g | ⟨p, hp, e, _⟩
    · omega
    · have : p = q := by omega
      subst this; exact hp
  refine ⟨⟨⟨fun j hj hXj => ?_, fun a b ha hb hXa hXb e hp => ?_, fun p hp => ?_⟩, fun j hj => ?_, or_bit_lt hn hL.lt hi, fun c => c.2 rfl, hlen q hSq⟩, hSq⟩
  · obtain ⟨h1, h2⟩ := or_bit_not hXj
    rcases h.mt.val j hj h1 with g | ⟨p, hp, e, g⟩
    · exact .inl g
    · refine .inr ⟨p, ⟨hp, fun c => ?_⟩, e, g⟩
      subst c
      exact h2 (h.mt.inj i j hi hj hX h1 (by omega) (by omega))
  · exact h.mt.inj a b ha hb (or_bit_not hXa).1 (or_bit_not hXb).1 e hp
  · obtain ⟨j, hj, hXj, e⟩ := h.mt.all p hp.1
    refine ⟨j, hj, ?_, e⟩
    cases c : (X ||| bit i).testBit j
    · rfl
    · rcases (or_bit_at X i j).1 c with g | g
      · rw [hXj] at g; cases g
      · subst g; exact absurd (show p = q by omega) hp.2
  · rcases (or_bit_at X i j).1 hj with g | g
    · exact (or_bit_at s i j).2 (.inl (hL.up j (h.sub_ j g)))
    · exact (or_bit_at s i j).2 (.inr g)
theorem GPre.won (h : GPre n l S X s0 k of) (hL : LInv n l of s0 s) (hi : i < n) (hk : (l.getD k 0).testBit i = true) (hs : s.testBit i = false) {q : Nat} (hq : of i = (q : Int)) (hSq : S q)
    (g : GWin n l (fun p => S p ∧ p ≠ q) (X ||| bit i) of (s ||| bit i) q of1) : GWin n l S X of s0 k (fun j => if j = i then (k : Int) else of1 j) := by
  have hX : X.testBit i = false := by
    cases c : X.testBit i
    · rfl
    · have := hL.up i (h.sub_ i c); rw [this] at hs; cases hs
  have hXi : ∀ j, j ≠ i → X.testBit j = false → (X ||| bit i).testBit j = false := fun j hj hXj => by
    cases c : (X ||| bit i).testBit j
    · rfl
    · rcases (or_bit_at X i j).1 c with g | g
      · rw [hXj] at g; cases g
      · exact absurd g.symm hj
  have hback : ∀ p, ((S p ∧ p ≠ q) ∨ p = q) → S p := fun p hp => by
    rcases hp with hp | rfl
    · exact hp.1
    · exact hSq
  have hforth : ∀ p, S p → ((S p ∧ p ≠ q) ∨ p = q) := fun p hp => by
    by_cases c : p = q
    · exact .inr c
    · exact .inl ⟨hp, c⟩
  have hneS : ∀ j, j ≠ i → of1 j = (k : Int) → j < n → X.testBit j = false → False := fun j hji e hj hXj => by
    rcases g.mt.val j hj (hXi j hji hXj) with g2 | ⟨p, hp, e2, _⟩
    · omega
    · have : p = k := by omega
      subst this; exact h.new (hback p hp)
  have hnU : ∀ U, ClU n l of U → U.testBit i = true → False := fun U hU hUi => by
    have := (hU i hi hUi).2
    rw [hq] at this
    exact (g.out U hU).1 this
  refine ⟨⟨fun j hj hXj => ?_, fun a b ha hb hXa hXb e hp => ?_, fun p hp => ?_⟩, fun j hj hsj => ?_, fun U hU => ⟨fun hsub => ?_, fun j hj hUj => ?_⟩⟩
  · by_cases c : j = i
    · subst c
      exact .inr ⟨k, .inr rfl, upd_at _ _ _, hk⟩
    · simp only [if_neg c]
      rcases g.mt.val j hj (hXi j c hXj) with g2 | ⟨p, hp, g2⟩
      · exact .inl g2
      · exact .inr ⟨p, .inl (hback p hp), g2⟩
  · by_cases c : a = i
    · by_cases d : b = i
      · omega
      · simp only [if_pos c, if_neg d] at e
        exact (hneS b d e.symm hb hXb).elim
    · by_cases d : b = i
      · simp only [if_neg c, if_pos d] at e
        exact (hneS a c e ha hXa).elim
      · simp only [if_neg c, if_neg d] at e hp
        exact g.mt.inj a b ha hb (hXi a c hXa) (hXi b d hXb) e hp
  · rcases hp with hp | rfl
    · obtain ⟨j, hj, hXj, e⟩ := g.mt.all p (hforth p hp)
      obtain ⟨h1, h2⟩ := or_bit_not hXj
      refine ⟨j, hj, h1, ?_⟩
      rw [if_neg (fun c => h2 c.symm)]; exact e
    · exact ⟨i, hi, hX, upd_at _ _ _⟩
  · show (if j = i then (k : Int) else of1 j) = of j
    rw [if_neg]
    · exact g.keep j hj ((or_bit_at s i j).2 (.inl (hL.up j hsj)))
    · rintro rfl
      have := hL.up j hsj
      rw [this] at hs; cases hs
  · exact hnU U hU (hsub i hk)
  · show (if j = i then (k : Int) else of1 j) = of j
    rw [if_neg (fun c => by subst c; exact hnU U hU hUj)]
    exact (g.out U hU).2 j hj hUj
/-- it finds none: on -/
theorem LInv.lost (hL : LInv n l of s0 s) {s1 q : Nat} (hq : of i = (q : Int)) (g : GFail n l of (s ||| bit i) s1 q) : LInv n l of s0 s1 where
  up := fun j hj => g.up j ((or_bit_at s i j).2 (.inl (hL.up j hj)))
  lt := g.lt
  cl := fun j hj h1 h2 => by
    by_cases c : (s ||| bit i).testBit j = true
    · rcases (or_bit_at s i j).1 c with d | rfl
      · obtain ⟨e1, e2⟩ := hL.cl j hj d h2
        exact ⟨e1, fun x hx => g.up x ((or_bit_at s i x).2 (.inl (e2 x hx)))⟩
      · rw [hq]
        exact ⟨by omega, g.has⟩
    · have c' : (s ||| bit i).testBit j = false := by cases e : (s ||| bit i).testBit j; rfl; exact absurd e c
      exact g.cl j hj h1 c'
theorem LInv.last (hL : LInv n l of s0 s) (hlt : l.getD k 0 < 256) (h : nand (l.getD k 0) s = 0) : GFail n l of s0 s k where
  up := hL.up
  lt := hL.lt
  has := fun j hj => by
    have : (nand (l.getD k 0) s).testBit j = false := by rw [h]; simp
    rw [nand_testBit, hj] at this
    simpa using this
  cl := hL.cl
end

/-! ### all sets, one behind the other -/
/-- the sets that have elements of their own; a set of elements that no search leaves, with all of the others -/
structure Md (n : Nat) (l : List Nat) (k : Nat) (S : Nat) (U : Nat) (of : Nat → Int) : Prop where
  mt : Mt n l (fun q => S.testBit q = true) 0 of
  slt : S < bit k
  cl : ClU n l of U
  ult : U < bit n
  rest : ∀ q, q < k → S.testBit q = false → sub (l.getD q 0) U
theorem Md.start (n : Nat) (l : List Nat) : Md n l 0 0 0 (fun _ => -1) where
  mt := ⟨fun i _ _ => .inl rfl, fun i j _ _ _ _ _ h => by simp at h, fun q h => by simp at h⟩
  slt := by show 0 < 2 ^ 0; decide
  cl := fun i _ h => by simp at h
  ult := Nat.pow_pos (by decide)
  rest := fun q hq => by omega
theorem Md.pre {n l k S U of} (h : Md n l k S U of) (hk : k < l.length) (hk8 : k ≤ 8) : GPre n l (fun q => S.testBit q = true) 0 0 k of where
  mt := h.mt
  sub_ := fun j hj => by simp at hj
  lt := Nat.pow_pos (by decide)
  new := fun c => by
    have hb := bit_le k hk8
    have := (lt_pow_iff k S hk8 (by have := h.slt; omega)).1 h.slt k (lt_of_testBit (by have := h.slt; omega) c) c
    omega
  klt := hk
theorem Md.win {n l k S U of of'} (h : Md n l k S U of) (hk8 : k < 8) (g : GWin n l (fun q => S.testBit q = true) 0 of 0 k of') : Md n l (k + 1) (S ||| bit k) U of' where
  mt := by
    have := g.mt
    refine ⟨fun i hi hX => ?_, this.inj, fun q hq => this.all q ((or_bit_at S k q).1 hq |>.imp id Eq.symm)⟩
    rcases this.val i hi hX with e | ⟨q, hq, e⟩
    · exact .inl e
    · exact .inr ⟨q, (or_bit_at S k q).2 (hq.imp id Eq.symm), e⟩
  slt := or_bit_lt (by omega) (Nat.lt_of_lt_of_le h.slt (bit_mono (by omega))) (by omega)
  cl := fun i hi hU => by rw [(g.out U h.cl).2 i hi hU]; exact h.cl i hi hU
  ult := h.ult
  rest := fun q hq hS => by
    obtain ⟨h1, h2⟩ := or_bit_not hS
    exact h.rest q (by omega) h1
theorem Md.lose {n l k S U of s} (hn : n ≤ 8) (h : Md n l k S U of) (g : GFail n l of 0 s k) : Md n l (k + 1) S (U ||| s) of where
  mt := h.mt
  slt := Nat.lt_of_lt_of_le h.slt (bit_mono (by omega))
  cl := fun i hi hU => by
    rw [Nat.testBit_or] at hU
    simp at hU
    rcases hU with hU | hU
    · obtain ⟨h1, h2⟩ := h.cl i hi hU
      exact ⟨h1, fun j hj => by rw [Nat.testBit_or, h2 j hj]; rfl⟩
    · obtain ⟨h1, h2⟩ := g.cl i hi hU (by simp)
      exact ⟨h1, fun j hj => by rw [Nat.testBit_or, h2 j hj]; simp⟩
  ult := or_lt_bit h.ult g.lt
  rest := fun q hq hS => by
    by_cases c : q = k
    · subst c
      exact fun j hj => by rw [Nat.testBit_or, g.has j hj]; simp
    · exact fun j hj => by rw [Nat.testBit_or, h.rest q (by omega) hS j hj]; rfl

/-! ### counting -/
theorem isum_one {f : Nat → Int} {n : Nat} (h01 : ∀ i, i < n → f i = 0 ∨ f i = 1) (h1 : ∀ i j, i < n → j < n → f i = 1 → f j = 1 → i = j) : isum f n ≤ 1 := by
  induction n with
  | zero => show (0 : Int) ≤ 1; decide
  | succ n ih =>
    simp only [isum]
    rcases h01 n (by omega) with e | e
    · have := ih (fun i hi => h01 i (by omega)) (fun i j hi hj => h1 i j (by omega) (by omega))
      omega
    · have : isum f n = 0 := isum_zero (fun i hi => by
        rcases h01 i (by omega) with g | g
        · exact g
        · have := h1 i n (by omega) (by omega) g e; omega)
      omega
theorem szI (s : Nat) : (sz s : Int) = isum (fun v => if s.testBit v = true then 1 else 0) 8 := by
  have e : ∀ k, (((elemsTo s k).length : Nat) : Int) = isum (fun v => if s.testBit v = true then 1 else 0) k := by
    intro k
    induction k with
    | zero => rfl
    | succ k ih =>
      rw [elemsTo_step]
      have e : isum (fun v => if s.testBit v = true then (1 : Int) else 0) (k + 1) = isum (fun v => if s.testBit v = true then 1 else 0) k + (if s.testBit k = true then 1 else 0) := rfl
      rw [e, ← ih]
      cases h : s.testBit k
      · rw [if_neg (by decide), if_neg (by decide)]; omega
      · rw [if_pos rfl, if_pos rfl, List.length_append]; simp
  exact e 8
theorem isum_leq {f g : Nat → Int} {n : Nat} (h : ∀ i, i < n → f i ≤ g i) : isum f n ≤ isum g n := by
  induction n with
  | zero => exact Int.le_refl _
  | succ n ih =>
    have h1 := ih (fun i hi => h i (by omega))
    have h2 := h n (by omega)
    simp only [isum]; omega
/-- one for one: no more than there are -/
theorem sz_inj {s t : Nat} (f : Nat → Nat) (h : ∀ q, q < 8 → s.testBit q = true → f q < 8 ∧ t.testBit (f q) = true) (hi : ∀ p q, p < 8 → q < 8 → s.testBit p = true → s.testBit q = true → f p = f q → p = q) : sz s ≤ sz t := by
  have key : (sz s : Int) ≤ sz t := by
    rw [szI, szI]
    have e1 : isum (fun v => if s.testBit v = true then (1 : Int) else 0) 8 ≤ isum (fun v => isum (fun i => if i = f v ∧ s.testBit v = true then (1 : Int) else 0) 8) 8 := isum_leq fun v hv => by
      split
      case isTrue c =>
        have := isum_pick (g := fun _ => (1 : Int)) (h v hv c).1
        refine Int.le_trans (Int.le_of_eq this.symm) (isum_leq fun i _ => ?_)
        by_cases d : i = f v
        · rw [if_pos d, if_pos ⟨d, c⟩]; exact Int.le_refl _
        · rw [if_neg d]; split <;> omega
      case isFalse c =>
        have : isum (fun i => if i = f v ∧ s.testBit v = true then (1 : Int) else 0) 8 = 0 := isum_zero fun i _ => if_neg (fun d => c d.2)
        rw [this]; exact Int.le_refl _
    rw [isum_swap] at e1
    refine Int.le_trans e1 (isum_leq fun i hi8 => ?_)
    by_cases c : t.testBit i = true
    · rw [if_pos c]
      refine isum_one (fun v _ => by split; exact .inr rfl; exact .inl rfl) (fun a b ha hb h1 h2 => ?_)
      have h1' : i = f a ∧ s.testBit a = true := by
        apply Classical.byContradiction; intro d; rw [if_neg d] at h1; cases h1
      have h2' : i = f b ∧ s.testBit b = true := by
        apply Classical.byContradiction; intro d; rw [if_neg d] at h2; cases h2
      exact hi a b ha hb h1'.2 h2'.2 (h1'.1.symm.trans h2'.1)
    · rw [if_neg c]
      have : isum (fun v => if i = f v ∧ s.testBit v = true then (1 : Int) else 0) 8 = 0 := isum_zero fun v hv => if_neg (fun d => c (by rw [d.1]; exact (h v hv d.2).2))
      rw [this]; exact Int.le_refl _
  omega

/-- what sets lie in -/
theorem sevTo_at (l : List Nat) (s i : Nat) : ∀ k, (sevTo l s k).testBit i = true ↔ ∃ q, q < k ∧ s.testBit q = true ∧ (l.getD q 0).testBit i = true := by
  intro k
  induction k with
  | zero =>
    constructor
    · intro h; simp [sevTo] at h
    · rintro ⟨q, hq, _⟩; omega
  | succ k ih =>
    have e : sevTo l s (k + 1) = if s.testBit k = true then sevTo l s k ||| l.getD k 0 else sevTo l s k := rfl
    rw [e]
    by_cases c : s.testBit k = true
    · rw [if_pos c, Nat.testBit_or]
      simp only [Bool.or_eq_true]
      rw [ih]
      constructor
      · rintro (⟨q, h1, h2⟩ | h)
        · exact ⟨q, by omega, h2⟩
        · exact ⟨k, by omega, c, h⟩
      · rintro ⟨q, h1, h2, h3⟩
        by_cases d : q = k
        · subst d; exact .inr h3
        · exact .inl ⟨q, by omega, h2, h3⟩
    · rw [if_neg c, ih]
      constructor
      · rintro ⟨q, h1, h2⟩; exact ⟨q, by omega, h2⟩
      · rintro ⟨q, h1, h2, h3⟩
        by_cases d : q = k
        · subst d; exact absurd h2 c
        · exact ⟨q, by omega, h2, h3⟩
theorem sev_at {l : List Nat} {s i : Nat} : (sev l s).testBit i = true ↔ ∃ q, q < l.length ∧ s.testBit q = true ∧ (l.getD q 0).testBit i = true := sevTo_at l s i _

/-- by what is missing -/
def mtTo (l : List Nat) : Nat → Nat
  | 0 => l.length
  | k + 1 => min (mtTo l k) (l.length - sz k + sz (sev l k))
theorem mtTo_le (l : List Nat) : ∀ k, mtTo l k ≤ l.length ∧ ∀ s, s < k → mtTo l k ≤ l.length - sz s + sz (sev l s) := by
  intro k
  induction k with
  | zero => exact ⟨Nat.le_refl _, fun s hs => by omega⟩
  | succ k ih =>
    simp only [mtTo]
    refine ⟨by omega, fun s hs => ?_⟩
    by_cases c : s = k
    · subst c; omega
    · have := ih.2 s (by omega); omega
theorem mtTo_ge {l : List Nat} {x : Nat} (h0 : x ≤ l.length) : ∀ k, (∀ s, s < k → x ≤ l.length - sz s + sz (sev l s)) → x ≤ mtTo l k := by
  intro k
  induction k with
  | zero => intro _; exact h0
  | succ k ih =>
    intro h
    have h1 := ih (fun s hs => h s (by omega))
    have h2 := h k (by omega)
    simp only [mtTo]; omega
/-- the greatest matching -/
def mtN (l : List Nat) : Nat := mtTo l (bit l.length)

/-- as many as can be -/
theorem Md.many {n : Nat} {l : List Nat} {S U : Nat} {of : Nat → Int} (hn : n ≤ 8) (hl : l.length ≤ 8) (hls : ∀ q, q < l.length → l.getD q 0 < bit n) (h : Md n l l.length S U of) : sz S = mtN l := by
  have hbn := bit_le n hn
  have hbl := bit_le l.length hl
  have hS8 : S < 256 := by have := h.slt; omega
  have hU8 : U < 256 := by have := h.ult; omega
  have hSl : ∀ q, S.testBit q = true → q < l.length := fun q hq => (lt_pow_iff l.length S hl hS8).1 h.slt q (lt_of_testBit hS8 hq) hq
  have hUl : ∀ i, U.testBit i = true → i < n := fun q hq => (lt_pow_iff n U hn hU8).1 h.ult q (lt_of_testBit hU8 hq) hq
  have hSz : sz S ≤ l.length := sz_le_m hl h.slt
  apply Nat.le_antisymm
  · refine mtTo_ge hSz _ fun s hs => ?_
    have hs8 : s < 256 := by omega
    -- those of s that have one
    have e1 := sz_diff S s
    have e2 : sz (S &&& s) ≤ sz (sev l s) := by
      classical
      refine sz_inj (fun q => if h : S.testBit q = true then Classical.choose (‹Md n l l.length S U of›.mt.all q h) else 0) (fun q hq hb => ?_) (fun p q hp hq hb1 hb2 e => ?_)
      · rw [Nat.testBit_and] at hb
        simp at hb
        simp only [dif_pos hb.1]
        obtain ⟨h1, h2, h3⟩ := Classical.choose_spec (h.mt.all q hb.1)
        generalize Classical.choose (h.mt.all q hb.1) = i at *
        refine ⟨by omega, sev_at.2 ⟨q, hSl q hb.1, hb.2, ?_⟩⟩
        rcases h.mt.val i h1 h2 with g | ⟨p, hp, g1, g2⟩
        · omega
        · have : p = q := by omega
          subst this; exact g2
      · rw [Nat.testBit_and] at hb1 hb2
        simp at hb1 hb2
        simp only [dif_pos hb1.1, dif_pos hb2.1] at e
        have h1 := (Classical.choose_spec (h.mt.all p hb1.1)).2.2
        have h2 := (Classical.choose_spec (h.mt.all q hb2.1)).2.2
        rw [e, h2] at h1
        omega
    have e3 : sz (nand S s) ≤ sz (nand (bit l.length - 1) s) := sz_mono (fun i hi => by
      rw [nand_testBit] at hi ⊢
      simp at hi
      rw [testBit_all, hi.2]
      simpa using hSl i hi.1)
    have e4 := sz_nand_all hl hs
    omega
  · -- what no search leaves
    classical
    obtain ⟨Q, hQ8, hQ⟩ := exists_set (fun q => S.testBit q = true ∧ ∃ i, i < n ∧ U.testBit i = true ∧ of i = (q : Int))
    have hQl : ∀ q, Q.testBit q = true → S.testBit q = true ∧ ∃ i, i < n ∧ U.testBit i = true ∧ of i = (q : Int) := fun q hq => (hQ q (lt_of_testBit hQ8 hq)).1 hq
    have eU : sz U ≤ sz Q := by
      refine sz_inj (fun i => (of i).toNat) (fun i hi hb => ?_) (fun p q hp hq hb1 hb2 e => ?_)
      · have hin := hUl i hb
        have h0 := (h.cl i hin hb).1
        rcases h.mt.val i hin (by simp) with g | ⟨p, hp, g1, g2⟩
        · omega
        · have hp8 : p < 8 := lt_of_testBit hS8 hp
          show (of i).toNat < 8 ∧ Q.testBit (of i).toNat = true
          rw [g1, show ((p : Int)).toNat = p by omega]
          exact ⟨hp8, (hQ p hp8).2 ⟨hp, i, hin, hb, g1⟩⟩
      · have hpn := hUl p hb1
        have hqn := hUl q hb2
        have h0 := (h.cl p hpn hb1).1
        have h0' := (h.cl q hqn hb2).1
        exact h.mt.inj p q hpn hqn (by simp) (by simp) (by have e' : (of p).toNat = (of q).toNat := e; omega) h0
    have hs : ∀ q, (nand (bit l.length - 1) S ||| Q).testBit q = true → q < l.length ∧ sub (l.getD q 0) U := fun q hq => by
      rw [Nat.testBit_or, nand_testBit, testBit_all] at hq
      simp at hq
      rcases hq with ⟨h1, h2⟩ | h1
      · exact ⟨h1, h.rest q h1 h2⟩
      · obtain ⟨h2, i, hi, hUi, e⟩ := hQl q h1
        have := (h.cl i hi hUi).2
        rw [e, show ((q : Int)).toNat = q by omega] at this
        exact ⟨hSl q h2, this⟩
    have hlt : nand (bit l.length - 1) S ||| Q < bit l.length := by
      refine (lt_pow_iff l.length _ hl (or_lt _ _ (nand_lt _ _ 8 (by omega)) hQ8)).2 fun q _ hq => (hs q hq).1
    have e5 := (mtTo_le l (bit l.length)).2 _ hlt
    have e6 : sz (sev l (nand (bit l.length - 1) S ||| Q)) ≤ sz U := sz_mono (fun i hi => by
      obtain ⟨q, h1, h2, h3⟩ := sev_at.1 hi
      exact (hs q h2).2 i h3)
    have e7 := sz_incl (nand (bit l.length - 1) S) Q
    have e8 : nand (bit l.length - 1) S &&& Q = 0 := by
      apply Nat.eq_of_testBit_eq
      intro q
      rw [Nat.testBit_and, nand_testBit, Nat.zero_testBit]
      cases c : Q.testBit q
      · simp
      · rw [(hQl q c).1]; simp
    rw [e8, sz_zero] at e7
    have e9 := sz_nand_all hl h.slt
    have e10 := sz_le_m hl hlt
    show mtTo l (bit l.length) ≤ sz S
    omega

end Go.Proofs.YtdhmponbakodmaaDoor

namespace Go.Proofs.YtdhmponbakodmaaDoor
open Go.RowKit
set_option linter.unusedVariables false

/-- one behind the greatest element; 0: there is none -/
def lenN (t : Nat) : Nat := if (elems t).length = 0 then 0 else (elems t).getD ((elems t).length - 1) 0 + 1
/-- the least element -/
def tzN (t : Nat) : Nat := (elems t).getD 0 0
/-- the table that the library lays -/
def dbr : List Int := [0, 1, 56, 2, 57, 49, 28, 3, 61, 58, 42, 50, 38, 29, 17, 4, 62, 47, 59, 36, 45, 43, 51, 22, 53, 39, 33, 30, 24, 18, 12, 5, 63, 55, 48, 27, 60, 41, 37, 16, 46, 35, 44, 21, 52, 32, 23, 11, 54, 26, 40, 15, 34, 20, 31, 10, 25, 14, 19, 9, 13, 8, 7, 6]
def Dbr (B : Nat) (W : World) : Prop := 1 < B ∧ ∀ i, i < 64 → W.cell? ⟨1, i, none⟩ = some (.int .u8 (dbr.getD i 0))
theorem Dbr.cell {B : Nat} {W : World} (h : Dbr B W) (u : Later B W) {i : Nat} (hi : i < 64) : u.val.cell? ⟨1, i, none⟩ = some (.int .u8 (dbr.getD i 0)) := by
  rw [u.cell (a := ⟨1, i, none⟩) h.1]; exact h.2 i hi

theorem tz_at (t : Nat) (ht : t < 256) (h0 : t ≠ 0) : ∃ i : Nat, i < 64 ∧ IntKind.u64.wrap (bits .and .u64 (t : Int) (IntKind.u64.wrap (-(t : Int))) * 285870213051353865) / 288230376151711744 = (i : Int) ∧ dbr.getD i 0 = (tzN t : Int) := by
  have : ∀ t : Fin 256, t.val ≠ 0 → ∃ i : Fin 64, IntKind.u64.wrap (bits .and .u64 (t.val : Int) (IntKind.u64.wrap (-(t.val : Int))) * 285870213051353865) / 288230376151711744 = (i.val : Int) ∧ dbr.getD i.val 0 = (tzN t.val : Int) := by decide +kernel
  obtain ⟨i, h⟩ := this ⟨t, ht⟩ h0
  exact ⟨i.val, i.isLt, h⟩
theorem tz_le (t : Nat) (ht : t < 256) : tzN t ≤ 8 ∧ lenN t ≤ 8 := by
  have : ∀ t : Fin 256, tzN t.val ≤ 8 ∧ lenN t.val ≤ 8 := by decide +kernel
  exact this ⟨t, ht⟩

set_option maxRecDepth 100000 in
set_option maxHeartbeats 1000000 in
theorem c_tz64 {B : Nat} {W : World} (u : Later B W) (t : Nat) (ht : t < 256) (h0 : t ≠ 0) (hD : Dbr B W) :
    Calls Tryd.prog 29 #[.int .u64 t] u.val (Ret B W (.int .i64 (tzN t))) := by
  obtain ⟨i, hi, E, hv⟩ := tz_at t ht h0
  have c0 := hD.cell u hi
  have hz := (tz_le t ht).1
  rw [hv] at c0
  clear hv hD
  generalize tzN t = z at *
  have d1 : ((t : Int) == 0) = false := by rw [beq_eq_false_iff_ne]; omega
  go_enter Tryd.func29, Tryd.ntmps29
  go_wp2
  go_ret
  exact Ret.mk _ (vint (by first | rfl | exact IntWalk.i64_in _ (by omega)))

set_option maxHeartbeats 400000 in
theorem c_tz {B : Nat} {W : World} (u : Later B W) (t : Nat) (ht : t < 256) (h0 : t ≠ 0) (hD : Dbr B W) :
    Calls Tryd.prog 21 #[.int .u64 t] u.val (Ret B W (.int .i64 (tzN t))) := by
  have H := Lib.hid (c_tz64 u t ht h0 hD)
  clear hD h0
  go_enter Tryd.func21, Tryd.ntmps21
  go_wp2_with (first | (go_at_call 29; (with_reducible refine (H.out).mono ?_); rintro e _ ⟨rfl, v1, rfl⟩))
  go_ret
  exact Ret.mk _ rfl

end Go.Proofs.YtdhmponbakodmaaDoor
