
/-
  Trees of a graph, plainly: two ways to tell them. No program in sight.
  Labels that edges spread: each vertex ends with the least one of its part. No program in sight.
  Tables of numbers that a call makes and writes; results that are a list and an error.
-/
import Derived.Test.YtffnpokceomncaaPk07
import Derived.Test.YtffnpokceomncaaPk02
namespace Go.Proofs.Ytffnpokceomncaa
set_option linter.unusedVariables false

def Inside (es : List (Int × Int)) (x v : Nat) : Prop := ∀ i, i < es.length → x.testBit i = true → v.testBit (vA es i) = true ∧ v.testBit (vB es i) = true
theorem Inside.shut {es : List (Int × Int)} {x v : Nat} (h : Inside es x v) : Shut es x v := fun i hi hx => by rw [(h i hi hx).1, (h i hi hx).2]
theorem Inside.alone {es : List (Int × Int)} {x v j : Nat} (h : Inside es x v) (hj : v.testBit j = false) : Shut es x (bit j) := fun i hi hx => by
  have h1 := h i hi hx
  rw [testBit_bit, testBit_bit]
  have a : j ≠ vA es i := by rintro rfl; rw [h1.1] at hj; exact absurd hj.symm (by decide)
  have b : j ≠ vB es i := by rintro rfl; rw [h1.2] at hj; exact absurd hj.symm (by decide)
  simp [a, b]
theorem Inside.rep {es : List (Int × Int)} {x v j : Nat} (h : Inside es x v) (hj : v.testBit j = false) : Rep es x j := fun k hk => by
  have := hk _ (h.alone hj)
  rw [testBit_bit, testBit_bit] at this
  have : j = k := by simpa using this
  omega
/-- the vertices not in v, and the least one of v -/
def Rest (n v d : Nat) : Nat := nand (bit n - 1) v ||| bit d
theorem rest_testBit {n v d i : Nat} : (Rest n v d).testBit i = ((decide (i < n) && !v.testBit i) || decide (d = i)) := by
  unfold Rest; rw [Nat.testBit_or, nand_testBit, testBit_all, testBit_bit]
theorem rest_lt {n v d : Nat} (hn : n ≤ 8) (hd : d < 8) : Rest n v d < 256 := or_lt _ _ (nand_lt _ _ 8 (by have := bit_le n hn; show bit n - 1 < 256; omega)) (bit_lt256 d hd)
theorem rest_sz {n v d : Nat} (hn : n ≤ 8) (hv : v < bit n) (hd : v.testBit d = true) (hd8 : d < 8) : sz (Rest n v d) + sz v = n + 1 := by
  have hb := bit_le n hn
  have hsub : (bit n - 1) &&& v = v := by
    refine eq_of_bits (Nat.and_lt_two_pow _ (show v < 2 ^ 8 by omega)) (by omega) (fun i hi => ?_)
    rw [Nat.testBit_and, testBit_all]
    cases c : v.testBit i
    · simp
    · have := (lt_pow_iff n v hn (by omega)).1 hv i hi c
      simp [this]
  have h1 := sz_diff (bit n - 1) v
  rw [hsub, sz_all hn] at h1
  have h2 := sz_add (a := nand (bit n - 1) v) hd8 (by rw [nand_testBit, hd]; simp)
  unfold Rest
  omega

structure Grf (n : Nat) (es : List (Int × Int)) : Prop where
  n7 : n ≤ 7
  e8 : es.length ≤ 8
  lt : ∀ i, i < es.length → vA es i < n ∧ vB es i < n
  pos : ∀ i, i < es.length → 0 ≤ (es.getD i (0,0)).1 ∧ 0 ≤ (es.getD i (0,0)).2 ∧ (es.getD i (0,0)).1 < (n : Int) ∧ (es.getD i (0,0)).2 < (n : Int)
theorem Grf.of {n : Nat} {es : List (Int × Int)} (h : isGraph (n : Int) es) : Grf n es :=
  ⟨by have := h.2.1; omega, h.2.2.1, fun i hi => by have := h.2.2.2 i hi; unfold vA vB; omega, h.2.2.2⟩
theorem Grf.ends {n : Nat} {es : List (Int × Int)} (h : Grf n es) : Ends es := fun i hi => by have := h.lt i hi; have := h.n7; omega

def Tr (n : Nat) (es : List (Int × Int)) (x v R : Nat) : Prop := Inside es x v ∧ sz x + 1 = sz v ∧ sz R + sz x = n
def Sp (n : Nat) (es : List (Int × Int)) (x v d : Nat) : Prop := sz x + 1 = sz v ∧ reachT es x d n = v

theorem reps_inside {n : Nat} {es : List (Int × Int)} (hG : Grf n es) {x v d R C : Nat} (hv : v < bit n) (hd : v.testBit d = true) (hmin : ∀ i, i < 8 → v.testBit i = true → d ≤ i) (hI : Inside es x v) (hR : Reps n es x R) (hC : Part es x d C) : sub (Rest n v d) R ∧ (C = v ↔ R = Rest n v d) := by
  have hn8 : n ≤ 8 := by have := hG.n7; omega
  have hb := bit_le n hn8
  have hv8 : v < 256 := by omega
  have hd8 := lt_of_testBit hv8 hd
  have hdn : d < n := (lt_pow_iff n v hn8 hv8).1 hv d hd8 hd
  have hsh := hI.shut
  have hdr : Rep es x d := fun j hj => by
    have h1 := hj v hsh
    rw [hd] at h1
    exact hmin j (lt_of_testBit hv8 h1.symm) h1.symm
  have hsubR : sub (Rest n v d) R := fun i hi => by
    rw [rest_testBit, Bool.or_eq_true, Bool.and_eq_true, decide_eq_true_eq, decide_eq_true_eq, Bool.not_eq_true'] at hi
    rcases hi with ⟨h1, h2⟩ | h
    · exact (hR.2 i (by omega)).2 ⟨h1, hI.rep h2⟩
    · subst h; exact (hR.2 d hd8).2 ⟨hdn, hdr⟩
  have hCv : sub C v := hC.within hsh hd
  refine ⟨hsubR, ?_, ?_⟩
  · rintro rfl
    refine eq_of_bits hR.1 (rest_lt hn8 hd8) (fun i hi => ?_)
    rw [Bool.eq_iff_iff]
    refine ⟨fun h => ?_, hsubR i⟩
    have h1 := (hR.2 i hi).1 h
    rw [rest_testBit]
    cases c : C.testBit i
    · simp [h1.1]
    · have := Rep.one hdr h1.2 ((hC.2 i hi).1 c)
      simp [this]
  · intro hRe
    refine eq_of_bits hC.1 hv8 (fun i hi => ?_)
    rw [Bool.eq_iff_iff]
    refine ⟨hCv i, fun h => ?_⟩
    obtain ⟨r, h1, h2, h3⟩ := Rep.ex es x i
    have hrv : v.testBit r = true := by rw [← h3 v hsh]; exact h
    have hin : i < n := (lt_pow_iff n v hn8 hv8).1 hv i hi h
    have hrR := (hR.2 r (by omega)).2 ⟨by omega, h2⟩
    rw [hRe, rest_testBit, hrv] at hrR
    have : d = r := by simpa using hrR
    subst this
    exact (hC.2 i hi).2 h3.symm

theorem tree_iff {n : Nat} {es : List (Int × Int)} (hG : Grf n es) {x v d R : Nat} (hx : x < bit es.length) (hv : v < bit n) (hd : v.testBit d = true) (hmin : ∀ i, i < 8 → v.testBit i = true → d ≤ i) (hR : Reps n es x R) : Tr n es x v R ↔ Sp n es x v d := by
  have hn8 : n ≤ 8 := by have := hG.n7; omega
  have hb := bit_le n hn8
  have hbe := bit_le _ hG.e8
  have hv8 : v < 256 := by omega
  have hx8 : x < 256 := by omega
  have hd8 := lt_of_testBit hv8 hd
  have hdn : d < n := (lt_pow_iff n v hn8 hv8).1 hv d hd8 hd
  obtain ⟨C, hC⟩ := Part.ex es x d
  have hreach := reachT_part hG.n7 hG.lt hG.pos hdn hC
  have hrs := rest_sz hn8 hv hd hd8
  unfold Sp
  rw [hreach]
  constructor
  · rintro ⟨hI, hs, hc⟩
    obtain ⟨h1, h2⟩ := reps_inside hG hv hd hmin hI hR hC
    refine ⟨hs, h2.2 ?_⟩
    apply Classical.byContradiction
    intro hne
    have := sub_size hR.1 h1 (fun g => hne g.symm)
    omega
  · rintro ⟨hs, hCv⟩
    have hI : Inside es x v := fun i hi hxi => by
      have hsh := hC.shut hG.ends i hi hxi
      rw [hCv] at hsh
      cases cA : v.testBit (vA es i)
      case true => rw [cA] at hsh; exact ⟨rfl, hsh.symm⟩
      case false =>
        exfalso
        rw [cA] at hsh
        have hi8 : i < 8 := by have := hG.e8; omega
        have hsp : nand x (bit i) ||| bit i = x := eq_of_bits (or_lt _ _ (nand_lt _ _ 8 hx8) (bit_lt256 i hi8)) hx8 (fun k hk => by
          rw [Nat.testBit_or, nand_testBit, testBit_bit]
          by_cases c : i = k
          · subst c; simp [hxi]
          · simp [c])
        have hsz := sz_without x i hx8 hi8 hxi
        obtain ⟨R', hR'⟩ := Reps.ex n es (nand x (bit i))
        have hmany := Reps.many hG.lt hn8 _ (nand x (bit i)) R' (Nat.lt_of_le_of_lt (nand_le _ _) hx) hG.e8 rfl hR'
        have hdj : ∀ j, j < 8 → v.testBit j = true → Jn es (nand x (bit i)) d j := fun j hj hvj => by
          have h1 : Jn es x d j := (hC.2 j hj).1 (by rw [hCv]; exact hvj)
          rw [← hsp] at h1
          have hle := hG.lt i hi
          rcases Jn.more hG.ends hi hd8 hj h1 with g | ⟨g1, g2⟩ | ⟨g1, g2⟩
          · exact g
          · have g3 : Jn es x d (vA es i) := by rw [← hsp]; exact g1.mono (sub_or _ _)
            have := (hC.2 (vA es i) (by omega)).2 g3
            rw [hCv, cA] at this; cases this
          · have g3 : Jn es x d (vB es i) := by rw [← hsp]; exact g1.mono (sub_or _ _)
            have := (hC.2 (vB es i) (by omega)).2 g3
            rw [hCv, ← hsh] at this; cases this
        have hsubR : sub R' (Rest n v d) := fun j hj => by
          have hj8 := lt_of_testBit hR'.1 hj
          have h1 := (hR'.2 j hj8).1 hj
          rw [rest_testBit]
          cases c : v.testBit j
          · simp [h1.1]
          · have h2 := h1.2 d (hdj j hj8 c).symm
            have h3 := hmin j hj8 c
            have : d = j := by omega
            simp [this]
        have := sz_mono hsubR
        omega
    obtain ⟨h1, h2⟩ := reps_inside hG hv hd hmin hI hR hC
    have hRe := h2.1 hCv
    refine ⟨hI, hs, ?_⟩
    rw [hRe]; omega

/-- the ends of edges -/
def endsTo (es : List (Int × Int)) (x : Nat) : Nat → Nat
  | 0 => 0
  | k + 1 => if x.testBit k = true then endsTo es x k ||| (bit (vA es k) ||| bit (vB es k)) else endsTo es x k
theorem endsTo_testBit (es : List (Int × Int)) (x : Nat) (k j : Nat) : (endsTo es x k).testBit j = true ↔ ∃ i, i < k ∧ x.testBit i = true ∧ (vA es i = j ∨ vB es i = j) := by
  induction k with
  | zero => simp [endsTo]
  | succ k ih =>
    unfold endsTo
    constructor
    · intro h
      split at h
      · rename_i hx
        rw [Nat.testBit_or, Nat.testBit_or, testBit_bit, testBit_bit] at h
        simp only [Bool.or_eq_true, decide_eq_true_eq] at h
        rcases h with h | h
        · obtain ⟨i, h1, h2⟩ := ih.1 h
          exact ⟨i, by omega, h2⟩
        · exact ⟨k, by omega, hx, h⟩
      · obtain ⟨i, h1, h2⟩ := ih.1 h
        exact ⟨i, by omega, h2⟩
    · rintro ⟨i, h1, h2, h3⟩
      by_cases e : i = k
      · subst e
        rw [if_pos h2, Nat.testBit_or, Nat.testBit_or, testBit_bit, testBit_bit]
        simp only [Bool.or_eq_true, decide_eq_true_eq]
        exact .inr h3
      · have := ih.2 ⟨i, by omega, h2, h3⟩
        split
        · rw [Nat.testBit_or, this]; rfl
        · exact this
theorem endsTo_lt {n : Nat} {es : List (Int × Int)} (hG : Grf n es) (x k : Nat) (hk : k ≤ es.length) : endsTo es x k < bit n := by
  have hn8 : n ≤ 8 := by have := hG.n7; omega
  have hb := bit_le n hn8
  have hbits : ∀ i, (endsTo es x k).testBit i = true → i < n := fun i hi => by
    obtain ⟨j, h1, h2, h3⟩ := (endsTo_testBit es x k i).1 hi
    have := hG.lt j (by omega)
    omega
  exact Nat.lt_pow_two_of_testBit _ (fun i hi => by
    cases c : (endsTo es x k).testBit i
    · rfl
    · have := hbits i c; omega)
/-- a tree with an edge has the ends of its edges for vertices -/
theorem tree_ends {n : Nat} {es : List (Int × Int)} (hG : Grf n es) {x v d : Nat} (hx : x < bit es.length) (hx0 : x ≠ 0) (hv : v < bit n) (hd : v.testBit d = true) (hI : Inside es x v) (hs : Sp n es x v d) : endsTo es x es.length = v := by
  have hn8 : n ≤ 8 := by have := hG.n7; omega
  have hb := bit_le n hn8
  have hbe := bit_le _ hG.e8
  have hv8 : v < 256 := by omega
  have hx8 : x < 256 := by omega
  have hd8 := lt_of_testBit hv8 hd
  have hdn : d < n := (lt_pow_iff n v hn8 hv8).1 hv d hd8 hd
  obtain ⟨C, hC⟩ := Part.ex es x d
  have hreach := reachT_part hG.n7 hG.lt hG.pos hdn hC
  have hCv : C = v := by rw [← hreach]; exact hs.2
  refine eq_of_bits (Nat.lt_of_lt_of_le (endsTo_lt hG x es.length (Nat.le_refl _)) (by omega)) hv8 (fun j hj => ?_)
  rw [Bool.eq_iff_iff, endsTo_testBit]
  constructor
  · rintro ⟨i, h1, h2, h3⟩
    have := hI i h1 h2
    rcases h3 with rfl | rfl
    · exact this.1
    · exact this.2
  · intro hvj
    apply Classical.byContradiction
    intro hno
    have hsh : Shut es x (bit j) := fun i hi hxi => by
      rw [testBit_bit, testBit_bit]
      have a : j ≠ vA es i := fun g => hno ⟨i, hi, hxi, .inl g.symm⟩
      have b : j ≠ vB es i := fun g => hno ⟨i, hi, hxi, .inr g.symm⟩
      simp [a, b]
    have hjd : ∀ k, k < 8 → v.testBit k = true → k = j := fun k hk hvk => by
      have h1 : Jn es x d k := (hC.2 k hk).1 (by rw [hCv]; exact hvk)
      have h2 : Jn es x d j := (hC.2 j hj).1 (by rw [hCv]; exact hvj)
      have h3 := (h2.symm.trans h1) _ hsh
      rw [testBit_bit, testBit_bit] at h3
      have : j = k := by simpa using h3
      exact this.symm
    have h1 : v = bit j := eq_of_bits hv8 (bit_lt256 j hj) (fun k hk => by
      rw [testBit_bit, Bool.eq_iff_iff, decide_eq_true_eq]
      exact ⟨fun h => (hjd k hk h).symm, fun h => by rw [← h]; exact hvj⟩)
    have h2 := hs.1
    rw [h1, sz_bit hj] at h2
    obtain ⟨e, he, h3, _⟩ := low_facts x hx8 hx0
    have h4 : sz (bit e) ≤ sz x := sz_mono (fun k hk => by
      rw [testBit_bit, decide_eq_true_eq] at hk
      subst hk
      have := low_facts x hx8 hx0
      obtain ⟨e', _, l1, l2, _⟩ := this
      have : e' = e := by
        have h5 : bit e' = bit e := by rw [← l1, h3]
        have h6 := congrArg (fun y => y.testBit e) h5
        simp only [testBit_bit] at h6
        simpa using h6
      rw [← this]; exact l2)
    rw [sz_bit he] at h4
    omega

end Go.Proofs.Ytffnpokceomncaa

namespace Go.Proofs.Ytffnpokceomncaa
set_option linter.unusedVariables false

def lblE (es : List (Int × Int)) (x : Nat) (p : Nat → Nat) : Nat → Nat → Nat
  | 0 => p
  | k + 1 => fun j => if x.testBit k = true ∧ (j = vA es k ∨ j = vB es k) then min (lblE es x p k (vA es k)) (lblE es x p k (vB es k)) else lblE es x p k j
def lblT (es : List (Int × Int)) (x : Nat) : Nat → Nat → Nat
  | 0 => fun j => j
  | k + 1 => lblE es x (lblT es x k) es.length
theorem lblE_succ (es : List (Int × Int)) (x : Nat) (p : Nat → Nat) (k j : Nat) : lblE es x p (k+1) j = if x.testBit k = true ∧ (j = vA es k ∨ j = vB es k) then min (lblE es x p k (vA es k)) (lblE es x p k (vB es k)) else lblE es x p k j := rfl
theorem lblE_step (es : List (Int × Int)) (x : Nat) (p : Nat → Nat) (k j : Nat) : lblE es x p (k+1) j ≤ lblE es x p k j := by
  rw [lblE_succ]
  split
  · rename_i h
    rcases h.2 with rfl | rfl <;> omega
  · exact Nat.le_refl _
theorem lblE_mono (es : List (Int × Int)) (x : Nat) (p : Nat → Nat) (j : Nat) {k l : Nat} (h : k ≤ l) : lblE es x p l j ≤ lblE es x p k j := by
  induction l with
  | zero => have : k = 0 := by omega
            subst this; exact Nat.le_refl _
  | succ l ih =>
    by_cases e : k = l + 1
    · subst e; exact Nat.le_refl _
    · have := ih (by omega)
      have := lblE_step es x p l j
      omega
theorem lblE_jn {es : List (Int × Int)} {x : Nat} {p : Nat → Nat} (h : ∀ j, Jn es x j (p j)) : ∀ k, k ≤ es.length → ∀ j, Jn es x j (lblE es x p k j) := by
  intro k
  induction k with
  | zero => intro _ j; exact h j
  | succ k ih =>
    intro hk j
    have h1 := ih (by omega)
    rw [lblE_succ]
    split
    · rename_i hh
      have he := Jn.edge (es := es) (x := x) (show k < es.length by omega) hh.1
      have hA := h1 (vA es k)
      have hB := h1 (vB es k)
      rcases Nat.le_total (lblE es x p k (vA es k)) (lblE es x p k (vB es k)) with g | g
      · rw [Nat.min_eq_left g]
        rcases hh.2 with rfl | rfl
        · exact hA
        · exact he.symm.trans hA
      · rw [Nat.min_eq_right g]
        rcases hh.2 with rfl | rfl
        · exact he.trans hB
        · exact hB
    · exact h1 j
theorem lblT_jn (es : List (Int × Int)) (x : Nat) : ∀ k j, Jn es x j (lblT es x k j) := by
  intro k
  induction k with
  | zero => intro j; exact Jn.refl _ _ _
  | succ k ih => exact lblE_jn ih _ (Nat.le_refl _)

theorem chain_full {T : Nat → Nat} {C n : Nat} (h8 : ∀ k, T k < 256) (hC : C < 256) (hsub : ∀ k, sub (T k) C) (hgrow : ∀ k, sub (T k) (T (k+1))) (h0 : 1 ≤ sz (T 0)) (hstop : ∀ k, T (k+1) = T k → sub C (T k)) (hn : sz C ≤ n) : T n = C := by
  have hdone : ∀ k, T (k+1) = T k → T k = C := fun k hk => eq_of_bits (h8 k) hC (fun i hi => by rw [Bool.eq_iff_iff]; exact ⟨hsub k i, hstop k hk i⟩)
  have hkeep : ∀ k, T k = C → T (k+1) = C := fun k hk => by
    have h1 := hgrow k
    rw [hk] at h1
    exact eq_of_bits (h8 _) hC (fun i hi => by rw [Bool.eq_iff_iff]; exact ⟨hsub _ i, h1 i⟩)
  have hmain : ∀ k, T k = C ∨ k + 1 ≤ sz (T k) := by
    intro k
    induction k with
    | zero => exact .inr h0
    | succ k ih =>
      rcases ih with h | h
      · exact .inl (hkeep k h)
      · by_cases c : T (k+1) = T k
        · exact .inl (by rw [c]; exact hdone k c)
        · right
          have := sub_size (h8 (k+1)) (hgrow k) (fun g => c g.symm)
          omega
  rcases hmain n with h | h
  · exact h
  · have := sz_mono (hsub n)
    omega

theorem lblT_rep {n : Nat} {es : List (Int × Int)} (hG : Grf n es) {x i r : Nat} (hi : i < n) (hr : Rep es x r) (hj : Jn es x i r) : lblT es x n i = r := by
  have hn7 := hG.n7
  have hri : r ≤ i := hr i hj.symm
  obtain ⟨C, hC⟩ := Part.ex es x r
  have hCn : sub C (bit n - 1) := fun j hj => by
    have hsh : Shut es x (bit n - 1) := fun k hk hx => by
      rw [testBit_all, testBit_all]
      have := hG.lt k hk
      simp [this.1, this.2]
    exact hC.within hsh (by rw [testBit_all]; simp; omega) j hj
  have hsz : sz C ≤ n := by have := sz_mono hCn; rwa [sz_all (by omega)] at this
  have hT : ∀ k, ∃ T, T < 256 ∧ ∀ j, j < 8 → (T.testBit j = true ↔ j < n ∧ lblT es x k j = r) := fun k => exists_set _
  let T : Nat → Nat := fun k => Classical.choose (hT k)
  have hT8 : ∀ k, T k < 256 := fun k => (Classical.choose_spec (hT k)).1
  have hTb : ∀ k j, j < 8 → ((T k).testBit j = true ↔ j < n ∧ lblT es x k j = r) := fun k => (Classical.choose_spec (hT k)).2
  have hmin : ∀ p : Nat → Nat, (∀ j, Jn es x j (p j)) → ∀ j, Jn es x j r → r ≤ p j := fun p hp j hj => hr _ (hj.symm.trans (hp j))
  have hfull : T n = C := by
    refine chain_full hT8 hC.1 (fun k j hj => ?_) (fun k j hj => ?_) ?_ (fun k hk => ?_) hsz
    · have h8 := lt_of_testBit (hT8 k) hj
      have := (hTb k j h8).1 hj
      exact (hC.2 j h8).2 (by have h := lblT_jn es x k j; rw [this.2] at h; exact h.symm)
    · have h8 := lt_of_testBit (hT8 k) hj
      have h1 := (hTb k j h8).1 hj
      refine (hTb (k+1) j h8).2 ⟨h1.1, ?_⟩
      have hJ : Jn es x j r := by have h := lblT_jn es x k j; rw [h1.2] at h; exact h
      have h2 := hmin _ (lblT_jn es x (k+1)) j hJ
      have h3 : lblT es x (k+1) j ≤ lblT es x k j := lblE_mono es x (lblT es x k) j (Nat.zero_le _)
      omega
    · have h1 : (T 0).testBit r = true := (hTb 0 r (by omega)).2 ⟨by omega, rfl⟩
      have h2 : sub (bit r) (T 0) := fun j hj => by
        rw [testBit_bit, decide_eq_true_eq] at hj
        subst hj; exact h1
      have := sz_mono h2
      rw [sz_bit (by omega)] at this
      exact this
    · have hpull : ∀ e, e < es.length → x.testBit e = true → ∀ a b, (a = vA es e ∧ b = vB es e) ∨ (a = vB es e ∧ b = vA es e) → (T k).testBit a = true → (T k).testBit b = true := fun e he hx a b hab ha => by
        have hlt := hG.lt e he
        have hbn : b < n := by rcases hab with ⟨_, rfl⟩ | ⟨_, rfl⟩ <;> omega
        have han : a < n := by rcases hab with ⟨rfl, _⟩ | ⟨rfl, _⟩ <;> omega
        rw [← hk]
        have h1 := (hTb k a (by omega)).1 ha
        refine (hTb (k+1) b (by omega)).2 ⟨hbn, ?_⟩
        have hJa : Jn es x a r := by have h := lblT_jn es x k a; rw [h1.2] at h; exact h
        have hJab : Jn es x a b := by
          have h := Jn.edge (es := es) (x := x) he hx
          rcases hab with ⟨rfl, rfl⟩ | ⟨rfl, rfl⟩
          · exact h
          · exact h.symm
        have hJb : Jn es x b r := hJab.symm.trans hJa
        have h2 := hmin _ (lblT_jn es x (k+1)) b hJb
        have h3 : lblT es x (k+1) b ≤ lblE es x (lblT es x k) (e+1) b := lblE_mono es x (lblT es x k) b (by omega)
        have h4 : lblE es x (lblT es x k) e a ≤ lblT es x k a := lblE_mono es x (lblT es x k) a (Nat.zero_le _)
        have h5 : lblE es x (lblT es x k) (e+1) b ≤ lblE es x (lblT es x k) e a := by
          show (if x.testBit e = true ∧ (b = vA es e ∨ b = vB es e) then min (lblE es x (lblT es x k) e (vA es e)) (lblE es x (lblT es x k) e (vB es e)) else _) ≤ _
          rw [if_pos ⟨hx, by rcases hab with ⟨_, h⟩ | ⟨_, h⟩; exact .inr h; exact .inl h⟩]
          rcases hab with ⟨rfl, _⟩ | ⟨rfl, _⟩
          · exact Nat.min_le_left _ _
          · exact Nat.min_le_right _ _
        omega
      have hsh : Shut es x (T k) := fun e he hx => by
        rw [Bool.eq_iff_iff]
        exact ⟨hpull e he hx _ _ (.inl ⟨rfl, rfl⟩), hpull e he hx _ _ (.inr ⟨rfl, rfl⟩)⟩
      have hrT : (T k).testBit r = true := (hTb k r (by omega)).2 ⟨by omega, by
        have h1 := hmin _ (lblT_jn es x k) r (Jn.refl _ _ _)
        have h2 : ∀ k, lblT es x k r ≤ r := by
          intro k
          induction k with
          | zero => exact Nat.le_refl _
          | succ k ih =>
            have : lblT es x (k+1) r ≤ lblT es x k r := lblE_mono es x (lblT es x k) r (Nat.zero_le _)
            omega
        have := h2 k
        omega⟩
      exact hC.within hsh hrT
  have hiC : C.testBit i = true := (hC.2 i (by omega)).2 hj.symm
  rw [← hfull] at hiC
  exact ((hTb n i (by omega)).1 hiC).2

def cntTo (p : Nat → Nat) : Nat → Nat
  | 0 => 0
  | k + 1 => if p k = k then cntTo p k + 1 else cntTo p k
theorem cntTo_bsum (p : Nat → Nat) (k : Nat) : cntTo p k = bsum (fun i => if p i = i then 1 else 0) k := by
  induction k with
  | zero => rfl
  | succ k ih =>
    simp only [bsum, cntTo]
    split <;> omega
theorem bsum_tailL {f : Nat → Nat} {k l : Nat} (h : k ≤ l) (hf : ∀ i, k ≤ i → f i = 0) : bsum f l = bsum f k := by
  induction l with
  | zero => have : k = 0 := by omega
            subst this; rfl
  | succ l ih =>
    by_cases e : k = l + 1
    · subst e; rfl
    · simp only [bsum]
      rw [ih (by omega), hf l (by omega)]
      omega
theorem cntTo_le (p : Nat → Nat) (k : Nat) : cntTo p k ≤ k := by
  induction k with
  | zero => exact Nat.le_refl _
  | succ k ih => unfold cntTo; split <;> omega
theorem isle_is {n : Nat} {es : List (Int × Int)} (hG : Grf n es) {x R : Nat} (hR : Reps n es x R) : cntTo (lblT es x n) n = sz R := by
  have hn7 := hG.n7
  rw [cntTo_bsum, sz_sum, bsum_tailL (k := n) (l := 8) (by omega) (fun i hi => by
    cases c : R.testBit i
    · rfl
    · have := (hR.2 i (lt_of_testBit hR.1 c)).1 c
      omega)]
  refine bsum_congr (fun i hi => ?_)
  obtain ⟨r, h1, h2, h3⟩ := Rep.ex es x i
  have hl := lblT_rep hG hi h2 h3
  rw [hl]
  by_cases c : r = i
  · subst c
    rw [if_pos rfl, (hR.2 r (by omega)).2 ⟨hi, h2⟩]; rfl
  · rw [if_neg c]
    cases d : R.testBit i
    · rfl
    · exact absurd (Rep.one h2 ((hR.2 i (by omega)).1 d).2 h3.symm) c

end Go.Proofs.Ytffnpokceomncaa

namespace Go.Proofs.Ytffnpokceomncaa
open Go.RowKit
set_option linter.unusedVariables false

theorem mk_tab (n : Nat) (h : n ≤ 1048576) : ∀ w : World, (Instr.makeSlice 35 (.int .i64 (n : Int)) (.int .i64 (n : Int))).run Try.prog w = .ok (.slice (some ⟨w.heap.size, 0, none⟩) n n) (w.alloc (.cells (madeCells #[.int .i64 0] n) 3)) :=
  fun w => run_make_row' (P := Try.prog) 35 3 (.int .i64 0) 8 Try.underlying35 info_int rfl .i64 .i64 n (by omega) (by omega) w

/-- a table of numbers in block g -/
def ITab (w : World) (g n : Nat) (A : Nat → Int) : Prop := w.rowIs g 3 n (fun j => .int .i64 (A j))
theorem ITab.lt {w : World} {g n : Nat} {A : Nat → Int} (h : ITab w g n A) : g < w.heap.size := World.rowIs.lt h
theorem ITab.keep {w w' : World} {g n : Nat} {A : Nat → Int} (h : ITab w g n A) (hb : Below w.heap.size w w') : ITab w' g n A := World.rowIs.of_block h (hb.block g (World.rowIs.lt h))
theorem ITab.keep_at {w w' : World} {g n B : Nat} {A : Nat → Int} (h : ITab w g n A) (hb : Below B w w') (hg : g < B) : ITab w' g n A := World.rowIs.of_block h (hb.block g hg)
theorem ITab.cell {w : World} {g n : Nat} {A : Nat → Int} (h : ITab w g n A) {i : Nat} (hi : i < n) : w.cell? ⟨g, i, none⟩ = some (.int .i64 (A i)) := World.rowIs.cell h hi
theorem ITab.frozen {w : World} {g n : Nat} {A : Nat → Int} (h : ITab w g n A) (i : Nat) : w.frozen? ⟨g, i, none⟩ = false := World.rowIs.frozen h i
theorem ITab.set {w : World} {g n : Nat} {A : Nat → Int} (h : ITab w g n A) (i : Nat) (v : Int) {A' : Nat → Int} (e : ∀ j, j < n → A' j = if j = i then v else A j) : ITab (w.setCell ⟨g, i, none⟩ (.int .i64 v)) g n A' :=
  World.rowIs.congr (World.rowIs.set h i _) (fun j hj => by
    show (if j = i then _ else _ : Value) = _
    rw [e j hj]; split <;> rfl)
theorem ITab.congr {w : World} {g n : Nat} {A A' : Nat → Int} (h : ITab w g n A) (e : ∀ j, j < n → A j = A' j) : ITab w g n A' := World.rowIs.congr h (fun j hj => by show Value.int _ _ = Value.int _ _; rw [e j hj])
theorem ITab.other {w : World} {g n : Nat} {A : Nat → Int} (h : ITab w g n A) {b i : Nat} (hne : g ≠ b) (x : Value) : ITab (w.setCell ⟨b, i, none⟩ x) g n A := World.rowIs.of_block h (Below.heap_setCell _ _ _ _ (by rintro rfl; exact hne rfl))
theorem ITab.made (w : World) (n : Nat) : ITab (w.alloc (.cells (madeCells #[.int .i64 0] n) 3)) w.heap.size n (fun _ => 0) := World.rowIs_made w (.int .i64 0) n 3
/-- the numbers of a table -/
def tabL (n : Nat) (A : Nat → Int) : List Int := (List.range n).map A
theorem tabL_len (n : Nat) (A : Nat → Int) : (tabL n A).length = n := by simp [tabL]
theorem tabL_getD {n : Nat} {A : Nat → Int} {i : Nat} (h : i < n) : (tabL n A).getD i 0 = A i := by simp [tabL, h]
theorem tabL_snoc (n : Nat) (A : Nat → Int) : tabL (n + 1) A = tabL n A ++ [A n] := by simp [tabL, List.range_succ]
theorem tabL_congr {n : Nat} {A A' : Nat → Int} (h : ∀ j, j < n → A j = A' j) : tabL n A = tabL n A' := by
  unfold tabL
  exact List.map_congr_left (fun j hj => h j (by simpa using hj))
theorem ITab.ints {w : World} {g n : Nat} {A : Nat → Int} (h : ITab w g n A) : IntsAt w.heap.size w (some ⟨g, 0, none⟩) (tabL n A) := by
  intro _
  refine ⟨g, 0, rfl, h.lt, fun k hk => ?_⟩
  rw [tabL_len] at hk
  rw [tabL_getD hk, Nat.zero_add]
  exact h.cell hk
theorem ITab.reads {w : World} {g n cap : Nat} {A : Nat → Int} (h : ITab w g n A) : Reads w.heap.size w (.slice (some ⟨g, 0, none⟩) n cap) (tabL n A) :=
  ⟨_, _, by rw [tabL_len], h.ints, fun h => by cases h⟩

/-- a list and an error -/
def ListE (xs : List Int) (e : Int) (v : Value) (w : World) : Prop := ∃ v1, v = .tuple #[v1, .int .i64 e] ∧ Reads w.heap.size w v1 xs
theorem ListE.mk {xs : List Int} {e : Int} {v1 : Value} {w : World} (h : Reads w.heap.size w v1 xs) : ListE xs e (.tuple #[v1, .int .i64 e]) w := ⟨v1, rfl, h⟩
theorem ListE.no {e : Int} {w : World} : ListE [] e (.tuple #[.slice none 0 0, .int .i64 e]) w := ⟨_, rfl, Reads.nil _ _⟩

end Go.Proofs.Ytffnpokceomncaa
