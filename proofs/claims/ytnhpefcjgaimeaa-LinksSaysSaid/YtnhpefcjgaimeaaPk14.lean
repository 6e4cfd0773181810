
/-
  What is reached in a directed graph, as a set; the first of the fewest vertices that bar all ways. No program in sight.
  The elements of a set as a rising list. No program in sight.
-/
import Derived.Test.YtnhpefcjgaimeaaPk06
import Derived.Test.YtnhpefcjgaimeaaPk13
import Derived.Test.YtnhpefcjgaimeaaPk03
namespace Go.Proofs.Ytnhpefcjgaimeaa
set_option linter.unusedVariables false

/-- what is reached, as a set -/
noncomputable def rchS (es : List (Int × Int)) (fr gone : Nat) : Nat := Classical.choose (exists_set (Rch (Edge es) fr gone))
theorem rchS_lt (es : List (Int × Int)) (fr gone : Nat) : rchS es fr gone < 256 := (Classical.choose_spec (exists_set (Rch (Edge es) fr gone))).1
theorem rchS_mem (es : List (Int × Int)) (fr gone : Nat) {v : Nat} (hv : v < 8) : (rchS es fr gone).testBit v = true ↔ Rch (Edge es) fr gone v := (Classical.choose_spec (exists_set (Rch (Edge es) fr gone))).2 v hv

theorem edge_at (es : List (Int × Int)) {k : Nat} (hk : k < es.length) : Edge es (vA es k) (vB es k) := ⟨k, hk, rfl, rfl⟩
theorem Grf.edge {n : Nat} {es : List (Int × Int)} (hG : Grf n es) {u v : Nat} (h : Edge es u v) : u < n ∧ v < n := by
  obtain ⟨k, hk, rfl, rfl⟩ := h
  exact hG.lt k hk
theorem bit_lt_of {n s v : Nat} (hn : n ≤ 8) (hs : s < bit n) (h : s.testBit v = true) : v < n := by
  have hb := bit_le n hn
  have h8 : s < 256 := by omega
  exact (lt_pow_iff n s hn h8).1 hs v (lt_of_testBit h8 h) h
theorem Grf.rch {n : Nat} {es : List (Int × Int)} (hG : Grf n es) {fr gone v : Nat} (hfr : fr < bit n) (h : Rch (Edge es) fr gone v) : v < n :=
  h.lt (fun v hv => bit_lt_of (by have := hG.n7; omega) hfr hv) (fun u v e => (hG.edge e).2)
theorem rchS_bit {n : Nat} {es : List (Int × Int)} (hG : Grf n es) {fr gone : Nat} (hfr : fr < bit n) : rchS es fr gone < bit n := by
  have := hG.n7
  refine (lt_pow_iff n _ (by omega) (rchS_lt es fr gone)).2 fun i hi h => hG.rch hfr ((rchS_mem es fr gone hi).1 h)

/-- a set that lies within what is reached and has where it begins -/
structure Rin (n : Nat) (es : List (Int × Int)) (fr gone s : Nat) : Prop where
  lt : s < bit n
  sub : ∀ v, s.testBit v = true → Rch (Edge es) fr gone v
  base : ∀ v, fr.testBit v = true → gone.testBit v = false → s.testBit v = true
def closedR (es : List (Int × Int)) (gone s : Nat) : Prop := ∀ u v, Edge es u v → s.testBit u = true → gone.testBit v = false → s.testBit v = true
theorem Rin.start {n : Nat} {es : List (Int × Int)} {fr gone : Nat} (hfr : fr < bit n) : Rin n es fr gone (nand fr gone) where
  lt := by have := nand_le fr gone; omega
  sub := fun v h => by rw [nand_testBit] at h; simp at h; exact Rch.base h.1 h.2
  base := fun v h g => by rw [nand_testBit, h, g]; rfl
theorem Rin.last {n : Nat} {es : List (Int × Int)} {fr gone s : Nat} (h : Rin n es fr gone s) (hG : Grf n es) (hfr : fr < bit n) (hc : closedR es gone s) : s = rchS es fr gone := by
  have hn := hG.n7
  have hb := bit_le n (by omega)
  have hlt := h.lt
  refine eq_of_bits (by omega) (rchS_lt es fr gone) (fun v hv => ?_)
  rw [Bool.eq_iff_iff, rchS_mem es fr gone hv]
  constructor
  · exact h.sub v
  · intro g
    clear hv
    induction g with
    | base h1 h2 => exact h.base _ h1 h2
    | step hu he hg ih => exact hc _ _ he ih hg
theorem Rin.add {n : Nat} {es : List (Int × Int)} {fr gone s : Nat} (h : Rin n es fr gone s) (hG : Grf n es) {v : Nat} (hv : v < n) (hr : Rch (Edge es) fr gone v) : Rin n es fr gone (s ||| bit v) where
  lt := by
    have hn := hG.n7
    have hb := bit_le n (by omega)
    have hlt := h.lt
    have hbv := bit_lt v (by omega)
    refine (lt_pow_iff n _ (by omega) (or_lt s (bit v) (by omega) (by omega))).2 fun i hi hb => ?_
    rw [Nat.testBit_or, testBit_bit] at hb
    simp at hb
    rcases hb with hb | hb
    · exact bit_lt_of (by omega) hlt hb
    · omega
  sub := fun w hw => by
    rw [Nat.testBit_or, testBit_bit] at hw
    simp at hw
    rcases hw with hw | rfl
    · exact h.sub w hw
    · exact hr
  base := fun w h1 h2 => by rw [Nat.testBit_or, h.base w h1 h2]; rfl

/-- rotaref: one round: what the first k edges add -/
def passT (es : List (Int × Int)) (s gone : Nat) : Nat → Nat
  | 0 => s
  | k + 1 => if s.testBit (vA es k) = true ∧ gone.testBit (vB es k) = false then passT es s gone k ||| bit (vB es k) else passT es s gone k
theorem passT_rin {n : Nat} {es : List (Int × Int)} {fr gone s : Nat} (hG : Grf n es) (h : Rin n es fr gone s) : ∀ k, k ≤ es.length → Rin n es fr gone (passT es s gone k) := by
  intro k
  induction k with
  | zero => intro _; exact h
  | succ k ih =>
    intro hk
    have hi := ih (by omega)
    show Rin n es fr gone (if _ then _ else _)
    split
    case isTrue c => exact hi.add hG (hG.lt k (by omega)).2 (Rch.step (h.sub _ c.1) (edge_at es (by omega)) c.2)
    case isFalse c => exact hi
theorem passT_up (es : List (Int × Int)) (s gone : Nat) : ∀ k v, s.testBit v = true → (passT es s gone k).testBit v = true := by
  intro k
  induction k with
  | zero => intro v h; exact h
  | succ k ih =>
    intro v h
    show (if _ then _ else _ : Nat).testBit v = true
    split
    · rw [Nat.testBit_or, ih v h]; rfl
    · exact ih v h
theorem passT_has (es : List (Int × Int)) (s gone : Nat) : ∀ k i, i < k → s.testBit (vA es i) = true → gone.testBit (vB es i) = false → (passT es s gone k).testBit (vB es i) = true := by
  intro k
  induction k with
  | zero => intro i hi; omega
  | succ k ih =>
    intro i hi h1 h2
    show (if _ then _ else _ : Nat).testBit _ = true
    by_cases e : i = k
    · subst e
      rw [if_pos ⟨h1, h2⟩, Nat.testBit_or, testBit_bit]
      simp
    · have := ih i (by omega) h1 h2
      split
      · rw [Nat.testBit_or, this]; rfl
      · exact this
theorem passT_closed {es : List (Int × Int)} {s gone : Nat} (h : passT es s gone es.length = s) : closedR es gone s := by
  rintro u v ⟨k, hk, rfl, rfl⟩ h1 h2
  have := passT_has es s gone es.length k hk h1 h2
  rwa [h] at this
theorem le_of_bits {a b : Nat} (h : ∀ v, a.testBit v = true → b.testBit v = true) : a ≤ b := by
  have e : a ||| b = b := or_eq_iff.2 h
  have h2 : a ≤ a ||| b := Nat.left_le_or
  omega
theorem passT_lt {es : List (Int × Int)} {s gone : Nat} (h : ¬ passT es s gone es.length = s) : s < passT es s gone es.length := by
  have := le_of_bits (passT_up es s gone es.length)
  omega

/-- links: one round in place -/
def swpT (es : List (Int × Int)) (s gone : Nat) : Nat → Nat
  | 0 => s
  | k + 1 => if (swpT es s gone k).testBit (vA es k) = true then swpT es s gone k ||| nand (bit (vB es k)) gone else swpT es s gone k
theorem nand_bit_gone {v gone : Nat} : nand (bit v) gone = if gone.testBit v = true then 0 else bit v := by
  apply Nat.eq_of_testBit_eq
  intro i
  rw [nand_testBit, testBit_bit]
  by_cases e : v = i
  · subst e
    cases h : gone.testBit v
    · simp [testBit_bit]
    · simp
  · cases h : gone.testBit v
    · simp [testBit_bit, e]
    · simp [e]
theorem swpT_rin {n : Nat} {es : List (Int × Int)} {fr gone s : Nat} (hG : Grf n es) (h : Rin n es fr gone s) : ∀ k, k ≤ es.length → Rin n es fr gone (swpT es s gone k) := by
  intro k
  induction k with
  | zero => intro _; exact h
  | succ k ih =>
    intro hk
    have hi := ih (by omega)
    show Rin n es fr gone (if _ then _ else _)
    split
    case isTrue c =>
      rw [nand_bit_gone]
      cases hg : gone.testBit (vB es k)
      · rw [if_neg (by decide)]
        exact hi.add hG (hG.lt k (by omega)).2 (Rch.step (hi.sub _ c) (edge_at es (by omega)) hg)
      · rw [if_pos rfl, Nat.or_zero]; exact hi
    case isFalse c => exact hi
theorem swpT_up (es : List (Int × Int)) (s gone : Nat) : ∀ j k v, (swpT es s gone j).testBit v = true → (swpT es s gone (j + k)).testBit v = true := by
  intro j k
  induction k with
  | zero => intro v h; exact h
  | succ k ih =>
    intro v h
    have e : swpT es s gone (j + (k + 1)) = if (swpT es s gone (j + k)).testBit (vA es (j + k)) = true then swpT es s gone (j + k) ||| nand (bit (vB es (j + k))) gone else swpT es s gone (j + k) := rfl
    rw [e]
    split
    · rw [Nat.testBit_or, ih v h]; rfl
    · exact ih v h
theorem swpT_closed {n : Nat} {es : List (Int × Int)} {fr s gone : Nat} (hG : Grf n es) (hR : Rin n es fr gone s) (h : swpT es s gone es.length = s) : closedR es gone s := by
  have hn := hG.n7
  have hb := bit_le n (by omega)
  -- nothing was added on the way
  have hall : ∀ k, k ≤ es.length → swpT es s gone k = s := fun k hk => by
    have h1 := (swpT_rin hG hR k hk).lt
    have h2 := hR.lt
    refine eq_of_bits (by omega) (by omega) fun i hi => ?_
    rw [Bool.eq_iff_iff]
    constructor
    · intro g
      have := swpT_up es s gone k (es.length - k) i g
      rwa [show k + (es.length - k) = es.length by omega, h] at this
    · intro g
      have := swpT_up es s gone 0 k i g
      rwa [Nat.zero_add] at this
  rintro u v ⟨k, hk, rfl, rfl⟩ h1 h2
  have e := hall (k + 1) (by omega)
  have e2 : swpT es s gone (k + 1) = if (swpT es s gone k).testBit (vA es k) = true then swpT es s gone k ||| nand (bit (vB es k)) gone else swpT es s gone k := rfl
  have h1' : s.testBit (vA es k) = true := h1
  have h2' : gone.testBit (vB es k) = false := h2
  rw [e2, hall k (by omega), if_pos h1', nand_bit_gone, h2', if_neg (by decide)] at e
  show s.testBit (vB es k) = true
  rw [← e, Nat.testBit_or, testBit_bit]
  simp
/-- r rounds -/
def swpR (es : List (Int × Int)) (s gone : Nat) : Nat → Nat
  | 0 => s
  | r + 1 => swpT es (swpR es s gone r) gone es.length
theorem swpR_rin {n : Nat} {es : List (Int × Int)} {fr gone s : Nat} (hG : Grf n es) (h : Rin n es fr gone s) : ∀ r, Rin n es fr gone (swpR es s gone r)
  | 0 => h
  | r + 1 => swpT_rin hG (swpR_rin hG h r) _ (Nat.le_refl _)
theorem swpR_stay {es : List (Int × Int)} {s gone r : Nat} (h : swpR es s gone (r + 1) = swpR es s gone r) : ∀ k, swpR es s gone (r + k) = swpR es s gone r := by
  intro k
  induction k with
  | zero => rfl
  | succ k ih =>
    show swpT es (swpR es s gone (r + k)) gone es.length = _
    rw [ih]; exact h
theorem swpR_last {n : Nat} {es : List (Int × Int)} {fr gone s : Nat} (hG : Grf n es) (hfr : fr < bit n) (h : Rin n es fr gone s) : swpR es s gone n = rchS es fr gone := by
  have hn := hG.n7
  have hb := bit_le n (by omega)
  have key : ∀ r, (∃ q, q < r ∧ swpR es s gone (q + 1) = swpR es s gone q) ∨ r ≤ sz (swpR es s gone r) := by
    intro r
    induction r with
    | zero => exact .inr (Nat.zero_le _)
    | succ r ih =>
      rcases ih with ⟨q, hq, e⟩ | hs
      · exact .inl ⟨q, by omega, e⟩
      · by_cases e : swpR es s gone (r + 1) = swpR es s gone r
        · exact .inl ⟨r, by omega, e⟩
        · refine .inr ?_
          have h1 := (swpR_rin hG h r).lt
          have h2 := (swpR_rin hG h (r + 1)).lt
          have hsub : sub (swpR es s gone r) (swpR es s gone (r + 1)) := fun i hi => by
            have := swpT_up es (swpR es s gone r) gone 0 es.length i hi
            rwa [Nat.zero_add] at this
          apply Classical.byContradiction
          intro c
          exact e (eq_of_sub_sz (by omega) (by omega) hsub (by omega)).symm
  have hR := swpR_rin hG h n
  refine hR.last hG hfr ?_
  rcases key n with ⟨q, hq, e⟩ | hs
  · have e1 := swpR_stay e (n - q)
    rw [show q + (n - q) = n by omega] at e1
    rw [e1]
    exact swpT_closed hG (swpR_rin hG h q) e
  · intro u v he hu hg
    have hv := (hG.edge he).2
    -- all vertices are in it
    have hlt := hR.lt
    have ha : swpR es s gone n = bit n - 1 := by
      refine eq_of_sub_sz (by omega) (by omega) (fun i hi => ?_) ?_
      · rw [testBit_all]
        simpa using bit_lt_of (by omega) hlt hi
      · have : sz (bit n - 1) = n := by
          have : ∀ n : Fin 9, sz (bit n.val - 1) = n.val := by decide
          exact this ⟨n, by omega⟩
        omega
    rw [ha, testBit_all]
    simpa using hv

/-- the first of the fewest -/
def bst (ok : Nat → Bool) : Nat → Int
  | 0 => -1
  | k + 1 => if ok k = true ∧ (bst ok k < 0 ∨ sz k < sz (bst ok k).toNat) then (k : Int) else bst ok k
theorem bst_lo (ok : Nat → Bool) (k : Nat) : -1 ≤ bst ok k ∧ bst ok k < k := by
  induction k with
  | zero => simp only [bst]; omega
  | succ k ih => simp only [bst]; split <;> omega
theorem bst_spec (ok : Nat → Bool) (k : Nat) : (bst ok k < 0 ∧ ∀ s, s < k → ok s = false) ∨ (0 ≤ bst ok k ∧ ok (bst ok k).toNat = true ∧ ∀ s, s < k → ok s = true → sz (bst ok k).toNat ≤ sz s) := by
  induction k with
  | zero => exact .inl ⟨by simp only [bst]; omega, fun s hs => by omega⟩
  | succ k ih =>
    simp only [bst]
    split
    case isTrue c =>
      refine .inr ⟨by omega, by simpa using c.1, fun s hs h => ?_⟩
      rw [show ((k : Int)).toNat = k by omega]
      by_cases e : s = k
      · subst e; exact Nat.le_refl _
      · rcases ih with ⟨h1, h2⟩ | ⟨h1, h2, h3⟩
        · have := h2 s (by omega); rw [this] at h; cases h
        · have := h3 s (by omega) h
          omega
    case isFalse c =>
      rcases ih with ⟨h1, h2⟩ | ⟨h1, h2, h3⟩
      · refine .inl ⟨h1, fun s hs => ?_⟩
        by_cases e : s = k
        · subst e
          cases h : ok s
          · rfl
          · exact absurd ⟨h, .inl h1⟩ c
        · exact h2 s (by omega)
      · refine .inr ⟨h1, h2, fun s hs h => ?_⟩
        by_cases e : s = k
        · subst e
          apply Classical.byContradiction
          intro g
          exact c ⟨h, .inr (by omega)⟩
        · exact h3 s (by omega) h

/-- does a set of vertices bar all ways? -/
noncomputable def barO (es : List (Int × Int)) (fr tw s : Nat) : Bool := decide (rchS es fr s &&& tw = 0)
noncomputable def barr (n : Nat) (es : List (Int × Int)) (fr tw : Nat) : Nat := (bst (barO es fr tw) (bit n)).toNat
theorem barO_iff {n : Nat} {es : List (Int × Int)} (hG : Grf n es) {fr tw s : Nat} (hfr : fr < bit n) : barO es fr tw s = true ↔ Bars (Edge es) fr tw s := by
  have hn := hG.n7
  unfold barO
  rw [decide_eq_true_eq, and_eq_zero_iff]
  constructor
  · intro h v hv
    exact h v ((rchS_mem es fr s (by have := hG.rch hfr hv; omega)).2 hv)
  · intro h v hv
    exact h v ((rchS_mem es fr s (lt_of_testBit (rchS_lt es fr s) hv)).1 hv)
theorem barr_all {n : Nat} {es : List (Int × Int)} (hG : Grf n es) {fr tw : Nat} (hfr : fr < bit n) : barO es fr tw (bit n - 1) = true := by
  rw [barO_iff hG hfr]
  intro v hv
  exfalso
  have h1 := hv.free
  have h2 := hG.rch hfr hv
  rw [testBit_all] at h1
  simp at h1
  omega
theorem barr_spec {n : Nat} {es : List (Int × Int)} (hG : Grf n es) {fr tw : Nat} (hfr : fr < bit n) : bst (barO es fr tw) (bit n) = (barr n es fr tw : Int) ∧ barr n es fr tw < bit n ∧ barO es fr tw (barr n es fr tw) = true ∧ ∀ s, s < bit n → barO es fr tw s = true → sz (barr n es fr tw) ≤ sz s := by
  have hn := hG.n7
  have hb := bit_le n (by omega)
  have hl := bst_lo (barO es fr tw) (bit n)
  rcases bst_spec (barO es fr tw) (bit n) with ⟨h1, h2⟩ | ⟨h1, h2, h3⟩
  · have := h2 (bit n - 1) (by omega)
    rw [barr_all hG hfr] at this; cases this
  · unfold barr
    exact ⟨by omega, by omega, h2, h3⟩
/-- as many ways keep apart as vertices bar them -/
theorem ways_barr {n : Nat} {es : List (Int × Int)} (hG : Grf n es) {fr tw : Nat} (hfr : fr < bit n) {k : Int} (h : MinCut (2 + 2 * n) (net n es fr tw) k) : k = sz (barr n es fr tw) := by
  have hn := hG.n7
  have hb := bit_le n (by omega)
  obtain ⟨_, h1, h2, h3⟩ := barr_spec (tw := tw) hG hfr
  refine minCut_bars (by omega) (fun v hv => bit_lt_of (by omega) hfr hv) (fun u v e => hG.edge e) h (fun v hv => bit_lt_of (by omega) h1 hv) ((barO_iff hG hfr).1 h2) fun s hs hsn hB => ?_
  refine h3 s ((lt_pow_iff n s (by omega) hs).2 fun i _ hi => hsn i hi) ((barO_iff hG hfr).2 hB)
/-- links.Cut: the same, told in another way -/
theorem bst_cut (ok : Nat → Bool) {n k : Nat} (hs : sz k ≤ n) : (ok k = true ∧ (bst ok k < 0 ∨ sz k < sz (bst ok k).toNat)) ↔ (sz k < (if bst ok k < 0 then n + 1 else sz (bst ok k).toNat) ∧ ok k = true) := by
  split
  case isTrue c => constructor
                   · intro h; exact ⟨by omega, h.1⟩
                   · intro h; exact ⟨h.2, .inl c⟩
  case isFalse c => constructor
                    · intro h; exact ⟨h.2.resolve_left c, h.1⟩
                    · intro h; exact ⟨h.2, .inr h.1⟩

/-- a set that ways lead from to all of another one -/
noncomputable def gamB (n : Nat) (es : List (Int × Int)) (tw s : Nat) : Bool := decide (sz s = sz tw ∧ sz (barr n es s tw) = sz s)

end Go.Proofs.Ytnhpefcjgaimeaa

namespace Go.Proofs.Ytnhpefcjgaimeaa
open Go.RowKit
set_option linter.unusedVariables false

theorem elems_first {s o : Nat} (ho : o < 8) (h : s.testBit o = true) (hmin : ∀ i, i < 8 → s.testBit i = true → o ≤ i) : (elems s)[0]? = some o := by
  rw [← List.head?_eq_getElem?]
  unfold elems
  rw [List.head?_filter, List.find?_range_eq_some]
  refine ⟨h, by simpa using ho, fun j hj => ?_⟩
  cases c : s.testBit j
  · rfl
  · have := hmin j (by omega) c; omega
theorem mem_elems {s x : Nat} : x ∈ elems s ↔ x < 8 ∧ s.testBit x = true := by simp [elems]
theorem elems_rise (s : Nat) {i j : Nat} (hij : i < j) (hj : j < (elems s).length) : (elems s).getD i 0 < (elems s).getD j 0 := by
  have hp : List.Pairwise (· < ·) (elems s) := (List.pairwise_lt_range).filter _
  have := List.pairwise_iff_getElem.1 hp i j (by omega) hj hij
  have a : (elems s).getD i 0 = (elems s)[i] := by simp [show i < (elems s).length by omega]
  have b : (elems s).getD j 0 = (elems s)[j] := by simp [hj]
  rw [a, b]; exact this
theorem elems_mem (s : Nat) {i : Nat} (h : i < (elems s).length) : (elems s).getD i 0 < 8 ∧ s.testBit ((elems s).getD i 0) = true := by
  have : (elems s).getD i 0 = (elems s)[i] := by simp [h]
  rw [this]
  exact mem_elems.1 (List.getElem_mem h)
theorem elems_at {s d : Nat} (hd : d < 8) (h : s.testBit d = true) : ∃ j, j < (elems s).length ∧ (elems s).getD j 0 = d ∧ ∀ i, i < j → (elems s).getD i 0 < d := by
  obtain ⟨j, hj, e⟩ := List.getElem_of_mem (mem_elems.2 ⟨hd, h⟩)
  have e2 : (elems s).getD j 0 = d := by simp [hj, e]
  exact ⟨j, hj, e2, fun i hi => by rw [← e2]; exact elems_rise s hi hj⟩

end Go.Proofs.Ytnhpefcjgaimeaa
