
/-
  Trees of a graph, plainly: two ways to tell them. No program in sight.
-/
import Derived.Test.YtdhkobeagfmcnaaDoorConn
namespace Go.Proofs.YtdhkobeagfmcnaaDoor
set_option linter.unusedVariables false

def Inside (es : List (Int × Int)) (x v : Nat) : Prop := ∀ i, i < es.length → x.testBit i = true → v.testBit (vA es i) = true ∧ v.testBit (vB es i) = true
theorem Inside.shut {es : List (Int × Int)} {x v : Nat} (h : Inside es x v) : Shut es x v := fun i hi hx => by rw [(h i hi hx).1, (h i hi hx).2]
theorem Inside.alone {es : List (Int × Int)} {x v j : Nat} (h : Inside es x v) (hj : v.testBit j = false) : Shut es x (bit j) := fun i hi hx => by
  have h1 := h i hi hx
  rw [testBit_bit, testBit_bit]
  have a : j ≠ vA es i := by rintro rfl; rw [h1.1] at hj; exact absurd hj.symm (by decide)
  have b : j ≠ vB es i := by rintro rfl; rw [h1.2] at hj; exact absurd hj.symm (by decide)
  simp [a, b]
theorem Inside.rep {es : List (Int × Int)} {x v j : Nat} (h : Inside es x v) (hj : v.testBit j = false) : Rep es x j := fun k hk => by
  have := hk _ (h.alone hj)
  rw [testBit_bit, testBit_bit] at this
  have : j = k := by simpa using this
  omega
/-- the vertices not in v, and the least one of v -/
def Rest (n v d : Nat) : Nat := nand (bit n - 1) v ||| bit d
theorem rest_testBit {n v d i : Nat} : (Rest n v d).testBit i = ((decide (i < n) && !v.testBit i) || decide (d = i)) := by
  unfold Rest; rw [Nat.testBit_or, nand_testBit, testBit_all, testBit_bit]
theorem rest_lt {n v d : Nat} (hn : n ≤ 8) (hd : d < 8) : Rest n v d < 256 := or_lt _ _ (nand_lt _ _ 8 (by have := bit_le n hn; show bit n - 1 < 256; omega)) (bit_lt256 d hd)
theorem rest_sz {n v d : Nat} (hn : n ≤ 8) (hv : v < bit n) (hd : v.testBit d = true) (hd8 : d < 8) : sz (Rest n v d) + sz v = n + 1 := by
  have hb := bit_le n hn
  have hsub : (bit n - 1) &&& v = v := by
    refine eq_of_bits (Nat.and_lt_two_pow _ (show v < 2 ^ 8 by omega)) (by omega) (fun i hi => ?_)
    rw [Nat.testBit_and, testBit_all]
    cases c : v.testBit i
    · simp
    · have := (lt_pow_iff n v hn (by omega)).1 hv i hi c
      simp [this]
  have h1 := sz_diff (bit n - 1) v
  rw [hsub, sz_all hn] at h1
  have h2 := sz_add (a := nand (bit n - 1) v) hd8 (by rw [nand_testBit, hd]; simp)
  unfold Rest
  omega

structure Grf (n : Nat) (es : List (Int × Int)) : Prop where
  n7 : n ≤ 7
  e8 : es.length ≤ 8
  lt : ∀ i, i < es.length → vA es i < n ∧ vB es i < n
  pos : ∀ i, i < es.length → 0 ≤ (es.getD i (0,0)).1 ∧ 0 ≤ (es.getD i (0,0)).2 ∧ (es.getD i (0,0)).1 < (n : Int) ∧ (es.getD i (0,0)).2 < (n : Int)
theorem Grf.of {n : Nat} {es : List (Int × Int)} (h : isGraph (n : Int) es) : Grf n es :=
  ⟨by have := h.2.1; omega, h.2.2.1, fun i hi => by have := h.2.2.2 i hi; unfold vA vB; omega, h.2.2.2⟩
theorem Grf.ends {n : Nat} {es : List (Int × Int)} (h : Grf n es) : Ends es := fun i hi => by have := h.lt i hi; have := h.n7; omega

def Tr (n : Nat) (es : List (Int × Int)) (x v R : Nat) : Prop := Inside es x v ∧ sz x + 1 = sz v ∧ sz R + sz x = n
def Sp (n : Nat) (es : List (Int × Int)) (x v d : Nat) : Prop := sz x + 1 = sz v ∧ reachT es x d n = v

theorem reps_inside {n : Nat} {es : List (Int × Int)} (hG : Grf n es) {x v d R C : Nat} (hv : v < bit n) (hd : v.testBit d = true) (hmin : ∀ i, i < 8 → v.testBit i = true → d ≤ i) (hI : Inside es x v) (hR : Reps n es x R) (hC : Part es x d C) : sub (Rest n v d) R ∧ (C = v ↔ R = Rest n v d) := by
  have hn8 : n ≤ 8 := by have := hG.n7; omega
  have hb := bit_le n hn8
  have hv8 : v < 256 := by omega
  have hd8 := lt_of_testBit hv8 hd
  have hdn : d < n := (lt_pow_iff n v hn8 hv8).1 hv d hd8 hd
  have hsh := hI.shut
  have hdr : Rep es x d := fun j hj => by
    have h1 := hj v hsh
    rw [hd] at h1
    exact hmin j (lt_of_testBit hv8 h1.symm) h1.symm
  have hsubR : sub (Rest n v d) R := fun i hi => by
    rw [rest_testBit, Bool.or_eq_true, Bool.and_eq_true, decide_eq_true_eq, decide_eq_true_eq, Bool.not_eq_true'] at hi
    rcases hi with ⟨h1, h2⟩ | h
    · exact (hR.2 i (by omega)).2 ⟨h1, hI.rep h2⟩
    · subst h; exact (hR.2 d hd8).2 ⟨hdn, hdr⟩
  have hCv : sub C v := hC.within hsh hd
  refine ⟨hsubR, ?_, ?_⟩
  · rintro rfl
    refine eq_of_bits hR.1 (rest_lt hn8 hd8) (fun i hi => ?_)
    rw [Bool.eq_iff_iff]
    refine ⟨fun h => ?_, hsubR i⟩
    have h1 := (hR.2 i hi).1 h
    rw [rest_testBit]
    cases c : C.testBit i
    · simp [h1.1]
    · have := Rep.one hdr h1.2 ((hC.2 i hi).1 c)
      simp [this]
  · intro hRe
    refine eq_of_bits hC.1 hv8 (fun i hi => ?_)
    rw [Bool.eq_iff_iff]
    refine ⟨hCv i, fun h => ?_⟩
    obtain ⟨r, h1, h2, h3⟩ := Rep.ex es x i
    have hrv : v.testBit r = true := by rw [← h3 v hsh]; exact h
    have hin : i < n := (lt_pow_iff n v hn8 hv8).1 hv i hi h
    have hrR := (hR.2 r (by omega)).2 ⟨by omega, h2⟩
    rw [hRe, rest_testBit, hrv] at hrR
    have : d = r := by simpa using hrR
    subst this
    exact (hC.2 i hi).2 h3.symm

theorem tree_iff {n : Nat} {es : List (Int × Int)} (hG : Grf n es) {x v d R : Nat} (hx : x < bit es.length) (hv : v < bit n) (hd : v.testBit d = true) (hmin : ∀ i, i < 8 → v.testBit i = true → d ≤ i) (hR : Reps n es x R) : Tr n es x v R ↔ Sp n es x v d := by
  have hn8 : n ≤ 8 := by have := hG.n7; omega
  have hb := bit_le n hn8
  have hbe := bit_le _ hG.e8
  have hv8 : v < 256 := by omega
  have hx8 : x < 256 := by omega
  have hd8 := lt_of_testBit hv8 hd
  have hdn : d < n := (lt_pow_iff n v hn8 hv8).1 hv d hd8 hd
  obtain ⟨C, hC⟩ := Part.ex es x d
  have hreach := reachT_part hG.n7 hG.lt hG.pos hdn hC
  have hrs := rest_sz hn8 hv hd hd8
  unfold Sp
  rw [hreach]
  constructor
  · rintro ⟨hI, hs, hc⟩
    obtain ⟨h1, h2⟩ := reps_inside hG hv hd hmin hI hR hC
    refine ⟨hs, h2.2 ?_⟩
    apply Classical.byContradiction
    intro hne
    have := sub_size hR.1 h1 (fun g => hne g.symm)
    omega
  · rintro ⟨hs, hCv⟩
    have hI : Inside es x v := fun i hi hxi => by
      have hsh := hC.shut hG.ends i hi hxi
      rw [hCv] at hsh
      cases cA : v.testBit (vA es i)
      case true => rw [cA] at hsh; exact ⟨rfl, hsh.symm⟩
      case false =>
        exfalso
        rw [cA] at hsh
        have hi8 : i < 8 := by have := hG.e8; omega
        have hsp : nand x (bit i) ||| bit i = x := eq_of_bits (or_lt _ _ (nand_lt _ _ 8 hx8) (bit_lt256 i hi8)) hx8 (fun k hk => by
          rw [Nat.testBit_or, nand_testBit, testBit_bit]
          by_cases c : i = k
          · subst c; simp [hxi]
          · simp [c])
        have hsz := sz_without x i hx8 hi8 hxi
        obtain ⟨R', hR'⟩ := Reps.ex n es (nand x (bit i))
        have hmany := Reps.many hG.lt hn8 _ (nand x (bit i)) R' (Nat.lt_of_le_of_lt (nand_le _ _) hx) hG.e8 rfl hR'
        have hdj : ∀ j, j < 8 → v.testBit j = true → Jn es (nand x (bit i)) d j := fun j hj hvj => by
          have h1 : Jn es x d j := (hC.2 j hj).1 (by rw [hCv]; exact hvj)
          rw [← hsp] at h1
          have hle := hG.lt i hi
          rcases Jn.more hG.ends hi hd8 hj h1 with g | ⟨g1, g2⟩ | ⟨g1, g2⟩
          · exact g
          · have g3 : Jn es x d (vA es i) := by rw [← hsp]; exact g1.mono (sub_or _ _)
            have := (hC.2 (vA es i) (by omega)).2 g3
            rw [hCv, cA] at this; cases this
          · have g3 : Jn es x d (vB es i) := by rw [← hsp]; exact g1.mono (sub_or _ _)
            have := (hC.2 (vB es i) (by omega)).2 g3
            rw [hCv, ← hsh] at this; cases this
        have hsubR : sub R' (Rest n v d) := fun j hj => by
          have hj8 := lt_of_testBit hR'.1 hj
          have h1 := (hR'.2 j hj8).1 hj
          rw [rest_testBit]
          cases c : v.testBit j
          · simp [h1.1]
          · have h2 := h1.2 d (hdj j hj8 c).symm
            have h3 := hmin j hj8 c
            have : d = j := by omega
            simp [this]
        have := sz_mono hsubR
        omega
    obtain ⟨h1, h2⟩ := reps_inside hG hv hd hmin hI hR hC
    have hRe := h2.1 hCv
    refine ⟨hI, hs, ?_⟩
    rw [hRe]; omega

/-- the ends of edges -/
def endsTo (es : List (Int × Int)) (x : Nat) : Nat → Nat
  | 0 => 0
  | k + 1 => if x.testBit k = true then endsTo es x k ||| (bit (vA es k) ||| bit (vB es k)) else endsTo es x k
theorem endsTo_testBit (es : List (Int × Int)) (x : Nat) (k j : Nat) : (endsTo es x k).testBit j = true ↔ ∃ i, i < k ∧ x.testBit i = true ∧ (vA es i = j ∨ vB es i = j) := by
  induction k with
  | zero => simp [endsTo]
  | succ k ih =>
    unfold endsTo
    constructor
    · intro h
      split at h
      · rename_i hx
        rw [Nat.testBit_or, Nat.testBit_or, testBit_bit, testBit_bit] at h
        simp only [Bool.or_eq_true, decide_eq_true_eq] at h
        rcases h with h | h
        · obtain ⟨i, h1, h2⟩ := ih.1 h
          exact ⟨i, by omega, h2⟩
        · exact ⟨k, by omega, hx, h⟩
      · obtain ⟨i, h1, h2⟩ := ih.1 h
        exact ⟨i, by omega, h2⟩
    · rintro ⟨i, h1, h2, h3⟩
      by_cases e : i = k
      · subst e
        rw [if_pos h2, Nat.testBit_or, Nat.testBit_or, testBit_bit, testBit_bit]
        simp only [Bool.or_eq_true, decide_eq_true_eq]
        exact .inr h3
      · have := ih.2 ⟨i, by omega, h2, h3⟩
        split
        · rw [Nat.testBit_or, this]; rfl
        · exact this
theorem endsTo_lt {n : Nat} {es : List (Int × Int)} (hG : Grf n es) (x k : Nat) (hk : k ≤ es.length) : endsTo es x k < bit n := by
  have hn8 : n ≤ 8 := by have := hG.n7; omega
  have hb := bit_le n hn8
  have hbits : ∀ i, (endsTo es x k).testBit i = true → i < n := fun i hi => by
    obtain ⟨j, h1, h2, h3⟩ := (endsTo_testBit es x k i).1 hi
    have := hG.lt j (by omega)
    omega
  exact Nat.lt_pow_two_of_testBit _ (fun i hi => by
    cases c : (endsTo es x k).testBit i
    · rfl
    · have := hbits i c; omega)
/-- a tree with an edge has the ends of its edges for vertices -/
theorem tree_ends {n : Nat} {es : List (Int × Int)} (hG : Grf n es) {x v d : Nat} (hx : x < bit es.length) (hx0 : x ≠ 0) (hv : v < bit n) (hd : v.testBit d = true) (hI : Inside es x v) (hs : Sp n es x v d) : endsTo es x es.length = v := by
  have hn8 : n ≤ 8 := by have := hG.n7; omega
  have hb := bit_le n hn8
  have hbe := bit_le _ hG.e8
  have hv8 : v < 256 := by omega
  have hx8 : x < 256 := by omega
  have hd8 := lt_of_testBit hv8 hd
  have hdn : d < n := (lt_pow_iff n v hn8 hv8).1 hv d hd8 hd
  obtain ⟨C, hC⟩ := Part.ex es x d
  have hreach := reachT_part hG.n7 hG.lt hG.pos hdn hC
  have hCv : C = v := by rw [← hreach]; exact hs.2
  refine eq_of_bits (Nat.lt_of_lt_of_le (endsTo_lt hG x es.length (Nat.le_refl _)) (by omega)) hv8 (fun j hj => ?_)
  rw [Bool.eq_iff_iff, endsTo_testBit]
  constructor
  · rintro ⟨i, h1, h2, h3⟩
    have := hI i h1 h2
    rcases h3 with rfl | rfl
    · exact this.1
    · exact this.2
  · intro hvj
    apply Classical.byContradiction
    intro hno
    have hsh : Shut es x (bit j) := fun i hi hxi => by
      rw [testBit_bit, testBit_bit]
      have a : j ≠ vA es i := fun g => hno ⟨i, hi, hxi, .inl g.symm⟩
      have b : j ≠ vB es i := fun g => hno ⟨i, hi, hxi, .inr g.symm⟩
      simp [a, b]
    have hjd : ∀ k, k < 8 → v.testBit k = true → k = j := fun k hk hvk => by
      have h1 : Jn es x d k := (hC.2 k hk).1 (by rw [hCv]; exact hvk)
      have h2 : Jn es x d j := (hC.2 j hj).1 (by rw [hCv]; exact hvj)
      have h3 := (h2.symm.trans h1) _ hsh
      rw [testBit_bit, testBit_bit] at h3
      have : j = k := by simpa using h3
      exact this.symm
    have h1 : v = bit j := eq_of_bits hv8 (bit_lt256 j hj) (fun k hk => by
      rw [testBit_bit, Bool.eq_iff_iff, decide_eq_true_eq]
      exact ⟨fun h => (hjd k hk h).symm, fun h => by rw [← h]; exact hvj⟩)
    have h2 := hs.1
    rw [h1, sz_bit hj] at h2
    obtain ⟨e, he, h3, _⟩ := low_facts x hx8 hx0
    have h4 : sz (bit e) ≤ sz x := sz_mono (fun k hk => by
      rw [testBit_bit, decide_eq_true_eq] at hk
      subst hk
      have := low_facts x hx8 hx0
      obtain ⟨e', _, l1, l2, _⟩ := this
      have : e' = e := by
        have h5 : bit e' = bit e := by rw [← l1, h3]
        have h6 := congrArg (fun y => y.testBit e) h5
        simp only [testBit_bit] at h6
        simpa using h6
      rw [← this]; exact l2)
    rw [sz_bit he] at h4
    omega

end Go.Proofs.YtdhkobeagfmcnaaDoor
