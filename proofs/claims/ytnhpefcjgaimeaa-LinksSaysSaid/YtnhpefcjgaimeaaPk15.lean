
/-
  Ways that keep apart, the first ones, plainly. No program in sight.
  Elements that stand for sets, the first such list, plainly. No program in sight.
-/
import Derived.Test.YtnhpefcjgaimeaaPk14
import Derived.Test.YtnhpefcjgaimeaaPk04
namespace Go.Proofs.Ytnhpefcjgaimeaa
set_option linter.unusedVariables false

/-- is there an edge? -/
def edB (es : List (Int × Int)) (u v : Nat) : Bool := (List.range es.length).any (fun k => decide (vA es k = u ∧ vB es k = v))
def lastN (way : List Nat) : Nat := way.getD (way.length - 1) 0
theorem lastN_one (v : Nat) : lastN [v] = v := rfl
theorem lastN_snoc (way : List Nat) (v : Nat) : lastN (way ++ [v]) = v := by
  unfold lastN
  rw [List.length_append, List.getD_eq_getElem?_getD, List.getElem?_append_right (by simp)]
  simp
/-- the first of some that is there -/
def fstTo {α : Type} (f : Nat → Option α) : Nat → Option α
  | 0 => none
  | k + 1 => match fstTo f k with
    | some x => some x
    | none => f k
theorem fstTo_none {α : Type} {f : Nat → Option α} {k : Nat} (h : ∀ j, j < k → f j = none) : fstTo f k = none := by
  induction k with
  | zero => rfl
  | succ k ih => simp only [fstTo]; rw [ih (fun j hj => h j (by omega))]; exact h k (by omega)
theorem fstTo_some {α : Type} {f : Nat → Option α} {k i : Nat} {x : α} (hi : i < k) (h : ∀ j, j < i → f j = none) (hx : f i = some x) : fstTo f k = some x := by
  induction k with
  | zero => omega
  | succ k ih =>
    simp only [fstTo]
    by_cases c : i = k
    · subst c
      rw [fstTo_none h]; exact hx
    · rw [ih (by omega)]

abbrev Rws := List (List Nat)
/-- on a way: to an end, or on -/
def onF (n : Nat) (ed : Nat → Nat → Bool) (tw : Nat) (nx : Nat → Option Rws) : Nat → List Nat → Nat → Option Rws
  | 0, _, _ => none
  | f + 1, way, used =>
    match (if tw.testBit (lastN way) = true then (nx used).map (fun r => way :: r) else none) with
    | some r => some r
    | none => fstTo (fun w => if used.testBit w = true ∨ ed (lastN way) w = false then none else onF n ed tw nx f (way ++ [w]) (used ||| bit w)) n
def onStep (n : Nat) (ed : Nat → Nat → Bool) (tw : Nat) (nx : Nat → Option Rws) (f : Nat) (way : List Nat) (used w : Nat) : Option Rws :=
  if used.testBit w = true ∨ ed (lastN way) w = false then none else onF n ed tw nx f (way ++ [w]) (used ||| bit w)
section
variable {n : Nat} {ed : Nat → Nat → Bool} {tw : Nat} {nx : Nat → Option Rws} {f : Nat} {way : List Nat} {used : Nat}
theorem onF_hit {r : Rws} (h : tw.testBit (lastN way) = true) (hr : nx used = some r) : onF n ed tw nx (f + 1) way used = some (way :: r) := by
  simp only [onF]
  rw [if_pos h, hr]; rfl
theorem onF_else (h : tw.testBit (lastN way) = false ∨ nx used = none) : onF n ed tw nx (f + 1) way used = fstTo (onStep n ed tw nx f way used) n := by
  have e : (if tw.testBit (lastN way) = true then (nx used).map (fun r => way :: r) else none) = (none : Option Rws) := by
    rcases h with h | h
    · rw [if_neg (by rw [h]; decide)]
    · split
      · rw [h]; rfl
      · rfl
  simp only [onF]
  rw [e]; rfl
end
/-- of each of some vertices a way -/
def waysF (n : Nat) (ed : Nat → Nat → Bool) (tw : Nat) : List Nat → Nat → Option Rws
  | [], _ => some []
  | v :: ls, gone => if gone.testBit v = true then none else onF n ed tw (waysF n ed tw ls) 8 [v] (gone ||| bit v)

/-- elements from one on -/
def elemsGe (fr v : Nat) : List Nat := (elems fr).filter (fun i => decide (v ≤ i))
theorem elemsGe_zero (fr : Nat) : elemsGe fr 0 = elems fr := by
  unfold elemsGe
  rw [List.filter_eq_self]
  intro i _; simp
theorem range_split {v : Nat} (hv : v < 8) : List.range 8 = List.range v ++ v :: (List.range' (v + 1) (8 - v - 1)) := by
  rw [List.range_eq_range', List.range_eq_range']
  have h1 : List.range' 0 8 = List.range' 0 v ++ List.range' (0 + v) (8 - v) := by
    rw [List.range'_append_1]; congr 1; omega
  rw [h1, Nat.zero_add, show 8 - v = (8 - v - 1) + 1 by omega, List.range'_succ]
  simp
theorem elemsGe_step (fr : Nat) {v : Nat} (hv : v < 8) : elemsGe fr v = if fr.testBit v = true then v :: elemsGe fr (v + 1) else elemsGe fr (v + 1) := by
  have key : ∀ k, elemsGe fr k = (List.range 8).filter (fun i => decide (k ≤ i) && fr.testBit i) := fun k => by
    unfold elemsGe elems
    rw [List.filter_filter]
  rw [key v, key (v + 1), range_split hv, List.filter_append, List.filter_append, List.filter_cons, List.filter_cons]
  have h1 : (List.range v).filter (fun i => decide (v ≤ i) && fr.testBit i) = [] := by
    rw [List.filter_eq_nil_iff]; intro i hi; simp at hi; simp; omega
  have h2 : (List.range v).filter (fun i => decide (v + 1 ≤ i) && fr.testBit i) = [] := by
    rw [List.filter_eq_nil_iff]; intro i hi; simp at hi; simp; omega
  have h3 : (List.range' (v + 1) (8 - v - 1)).filter (fun i => decide (v ≤ i) && fr.testBit i) = (List.range' (v + 1) (8 - v - 1)).filter (fun i => decide (v + 1 ≤ i) && fr.testBit i) := by
    apply List.filter_congr
    intro i hi
    rw [List.mem_range'_1] at hi
    rw [decide_eq_true (show v ≤ i by omega), decide_eq_true (show v + 1 ≤ i by omega)]
  rw [h1, h2, h3]
  cases h : fr.testBit v
  · simp
  · simp
theorem elemsGe_end {fr v : Nat} (h : ∀ i, fr.testBit i = true → i < v) : elemsGe fr v = [] := by
  unfold elemsGe
  rw [List.filter_eq_nil_iff]
  intro i hi
  have := h i (mem_elems.1 hi).2
  simp; omega

end Go.Proofs.Ytnhpefcjgaimeaa

namespace Go.Proofs.Ytnhpefcjgaimeaa
set_option linter.unusedVariables false

/-- the first list of elements, one for each set; g tells whether one more may come to those used -/
def rado (m : Nat) (g : Nat → Nat → Bool) : List Nat → Nat → Option (List Nat)
  | [], _ => some []
  | s :: rest, used => (List.range m).findSome? (fun i => if s.testBit i && g used i then (rado m g rest (used ||| bit i)).map (fun l => i :: l) else none)
def radoStep (m : Nat) (g : Nat → Nat → Bool) (s : Nat) (rest : List Nat) (used i : Nat) : Option (List Nat) := if s.testBit i && g used i then (rado m g rest (used ||| bit i)).map (fun l => i :: l) else none
theorem rado_some {m : Nat} {g : Nat → Nat → Bool} {s : Nat} {rest : List Nat} {used i : Nat} {l : List Nat} (hi : i < m) (h : radoStep m g s rest used i = some l) (hno : ∀ j, j < i → radoStep m g s rest used j = none) : rado m g (s :: rest) used = some l := by
  show (List.range m).findSome? (radoStep m g s rest used) = some l
  rw [List.findSome?_eq_some_iff]
  refine ⟨List.range i, i, List.range' (i+1) (m - i - 1), ?_, h, fun j hj => hno j (by simpa using hj)⟩
  rw [List.range_eq_range', List.range_eq_range']
  have h1 : List.range' 0 m = List.range' 0 i ++ List.range' (0 + i) (m - i) := by
    rw [List.range'_append_1]; congr 1; omega
  rw [h1, Nat.zero_add, show m - i = (m - i - 1) + 1 by omega, List.range'_succ]
  simp
theorem rado_none {m : Nat} {g : Nat → Nat → Bool} {s : Nat} {rest : List Nat} {used : Nat} (hno : ∀ j, j < m → radoStep m g s rest used j = none) : rado m g (s :: rest) used = none := by
  show (List.range m).findSome? (radoStep m g s rest used) = none
  rw [List.findSome?_eq_none_iff]
  intro j hj
  exact hno j (by simpa using hj)
theorem rado_len {m : Nat} {g : Nat → Nat → Bool} : ∀ (ls : List Nat) (used : Nat) (l : List Nat), rado m g ls used = some l → l.length = ls.length := by
  intro ls
  induction ls with
  | nil => intro used l h; cases h; rfl
  | cons s rest ih =>
    intro used l h
    have h' : (List.range m).findSome? (radoStep m g s rest used) = some l := h
    obtain ⟨i, hi, h2⟩ := List.exists_of_findSome?_eq_some h'
    unfold radoStep at h2
    split at h2
    · cases h3 : rado m g rest (used ||| bit i) with
      | none => rw [h3] at h2; cases h2
      | some l' =>
        rw [h3] at h2
        simp only [Option.map_some, Option.some.injEq] at h2
        rw [← h2]
        simp [ih _ _ h3]
    · cases h2
theorem findSome_congr {α β : Type} {f g : α → Option β} : ∀ l : List α, (∀ x, x ∈ l → f x = g x) → l.findSome? f = l.findSome? g := by
  intro l
  induction l with
  | nil => intro _; rfl
  | cons x l ih =>
    intro h
    rw [List.findSome?_cons, List.findSome?_cons, h x (by simp), ih (fun y hy => h y (by simp [hy]))]
/-- two ways to tell which elements may come agree where the sets that come up are alike -/
theorem rado_congr {m : Nat} {g g' : Nat → Nat → Bool} {I : Nat → Prop} (hg : ∀ used i, i < m → I used → g used i = g' used i) (hI : ∀ used i, i < m → I used → g used i = true → I (used ||| bit i)) : ∀ (ls : List Nat) (used : Nat), I used → rado m g ls used = rado m g' ls used := by
  intro ls
  induction ls with
  | nil => intro used _; rfl
  | cons s rest ih =>
    intro used hu
    have : ∀ i, i < m → radoStep m g s rest used i = radoStep m g' s rest used i := fun i hi => by
      unfold radoStep
      rw [← hg used i hi hu]
      by_cases c : (s.testBit i && g used i) = true
      · rw [if_pos c, if_pos c, ih _ (hI used i hi hu (by simp at c; exact c.2))]
      · rw [if_neg c, if_neg c]
    cases h : rado m g (s :: rest) used with
    | none =>
      refine (rado_none (fun j hj => ?_)).symm
      rw [← this j hj]
      have h' : (List.range m).findSome? (radoStep m g s rest used) = none := h
      rw [List.findSome?_eq_none_iff] at h'
      exact h' j (by simpa using hj)
    | some l =>
      have h' : (List.range m).findSome? (radoStep m g s rest used) = some l := h
      have h2 : (List.range m).findSome? (radoStep m g' s rest used) = some l := by
        rw [← h']
        exact (findSome_congr _ (fun j hj => (this j (by simpa using hj)))).symm
      exact h2.symm

/-- an element makes more of an independent set just if the two together are independent -/
def gProg (L : List Nat) (used i : Nat) : Bool := decide (rk L used < rk L (used ||| bit i))
def gRef (L : List Nat) (used i : Nat) : Bool := !used.testBit i && decide (rk L (used ||| bit i) = sz (used ||| bit i))
theorem rk_le_sz (L : List Nat) (s : Nat) : rk L s ≤ sz s := by
  rcases rkTo_at L s L.length with h | ⟨i, _, h⟩
  · unfold rk; omega
  · unfold rk; rw [h]
    exact sz_mono (fun k hk => by rw [Nat.testBit_and] at hk; simp at hk; exact hk.1)
theorem g_same {L : List Nat} {used i : Nat} (hu : used < 256) (hi : i < 8) (h : rk L used = sz used) : gProg L used i = gRef L used i := by
  unfold gProg gRef
  cases c : used.testBit i
  · have h1 := sz_add hi c
    have h2 := rk_le_sz L (used ||| bit i)
    rw [Bool.eq_iff_iff]
    simp only [Bool.not_false, Bool.true_and, decide_eq_true_eq]
    omega
  · have : used ||| bit i = used := eq_of_bits (or_lt _ _ hu (bit_lt256 i hi)) hu (fun k hk => by
      rw [Nat.testBit_or, testBit_bit]
      by_cases e : i = k
      · subst e; simp [c]
      · simp [e])
    rw [this]
    simp
theorem rado_same {L : List Nat} {m : Nat} (hm : m ≤ 8) (ls : List Nat) : rado m (gProg L) ls 0 = rado m (gRef L) ls 0 := by
  refine rado_congr (I := fun u => u < 256 ∧ rk L u = sz u) (fun used i hi h => g_same h.1 (by omega) h.2) (fun used i hi h hg => ⟨or_lt _ _ h.1 (bit_lt256 i (by omega)), ?_⟩) ls 0 ⟨by decide, ?_⟩
  · rw [g_same h.1 (by omega) h.2] at hg
    unfold gRef at hg
    simp only [Bool.and_eq_true, decide_eq_true_eq] at hg
    exact hg.2
  · have := rk_le_sz L 0
    rw [sz_zero] at this ⊢
    omega

end Go.Proofs.Ytnhpefcjgaimeaa
