/-
  Elements that stand for sets, the first such list, plainly. No program in sight.
-/
import Derived.Test.YtcljgnmlpfddiaaMatr
namespace Go.Proofs.Ytcljgnmlpfddiaa
set_option linter.unusedVariables false

/-- the first list of elements, one for each set; g tells whether one more may come to those used -/
def rado (m : Nat) (g : Nat → Nat → Bool) : List Nat → Nat → Option (List Nat)
  | [], _ => some []
  | s :: rest, used => (List.range m).findSome? (fun i => if s.testBit i && g used i then (rado m g rest (used ||| bit i)).map (fun l => i :: l) else none)
def radoStep (m : Nat) (g : Nat → Nat → Bool) (s : Nat) (rest : List Nat) (used i : Nat) : Option (List Nat) := if s.testBit i && g used i then (rado m g rest (used ||| bit i)).map (fun l => i :: l) else none
theorem rado_some {m : Nat} {g : Nat → Nat → Bool} {s : Nat} {rest : List Nat} {used i : Nat} {l : List Nat} (hi : i < m) (h : radoStep m g s rest used i = some l) (hno : ∀ j, j < i → radoStep m g s rest used j = none) : rado m g (s :: rest) used = some l := by
  show (List.range m).findSome? (radoStep m g s rest used) = some l
  rw [List.findSome?_eq_some_iff]
  refine ⟨List.range i, i, List.range' (i+1) (m - i - 1), ?_, h, fun j hj => hno j (by simpa using hj)⟩
  rw [List.range_eq_range', List.range_eq_range']
  have h1 : List.range' 0 m = List.range' 0 i ++ List.range' (0 + i) (m - i) := by
    rw [List.range'_append_1]; congr 1; omega
  rw [h1, Nat.zero_add, show m - i = (m - i - 1) + 1 by omega, List.range'_succ]
  simp
theorem rado_none {m : Nat} {g : Nat → Nat → Bool} {s : Nat} {rest : List Nat} {used : Nat} (hno : ∀ j, j < m → radoStep m g s rest used j = none) : rado m g (s :: rest) used = none := by
  show (List.range m).findSome? (radoStep m g s rest used) = none
  rw [List.findSome?_eq_none_iff]
  intro j hj
  exact hno j (by simpa using hj)
theorem rado_len {m : Nat} {g : Nat → Nat → Bool} : ∀ (ls : List Nat) (used : Nat) (l : List Nat), rado m g ls used = some l → l.length = ls.length := by
  intro ls
  induction ls with
  | nil => intro used l h; cases h; rfl
  | cons s rest ih =>
    intro used l h
    have h' : (List.range m).findSome? (radoStep m g s rest used) = some l := h
    obtain ⟨i, hi, h2⟩ := List.exists_of_findSome?_eq_some h'
    unfold radoStep at h2
    split at h2
    · cases h3 : rado m g rest (used ||| bit i) with
      | none => rw [h3] at h2; cases h2
      | some l' =>
        rw [h3] at h2
        simp only [Option.map_some, Option.some.injEq] at h2
        rw [← h2]
        simp [ih _ _ h3]
    · cases h2
theorem findSome_congr {α β : Type} {f g : α → Option β} : ∀ l : List α, (∀ x, x ∈ l → f x = g x) → l.findSome? f = l.findSome? g := by
  intro l
  induction l with
  | nil => intro _; rfl
  | cons x l ih =>
    intro h
    rw [List.findSome?_cons, List.findSome?_cons, h x (by simp), ih (fun y hy => h y (by simp [hy]))]
/-- two ways to tell which elements may come agree where the sets that come up are alike -/
theorem rado_congr {m : Nat} {g g' : Nat → Nat → Bool} {I : Nat → Prop} (hg : ∀ used i, i < m → I used → g used i = g' used i) (hI : ∀ used i, i < m → I used → g used i = true → I (used ||| bit i)) : ∀ (ls : List Nat) (used : Nat), I used → rado m g ls used = rado m g' ls used := by
  intro ls
  induction ls with
  | nil => intro used _; rfl
  | cons s rest ih =>
    intro used hu
    have : ∀ i, i < m → radoStep m g s rest used i = radoStep m g' s rest used i := fun i hi => by
      unfold radoStep
      rw [← hg used i hi hu]
      by_cases c : (s.testBit i && g used i) = true
      · rw [if_pos c, if_pos c, ih _ (hI used i hi hu (by simp at c; exact c.2))]
      · rw [if_neg c, if_neg c]
    cases h : rado m g (s :: rest) used with
    | none =>
      refine (rado_none (fun j hj => ?_)).symm
      rw [← this j hj]
      have h' : (List.range m).findSome? (radoStep m g s rest used) = none := h
      rw [List.findSome?_eq_none_iff] at h'
      exact h' j (by simpa using hj)
    | some l =>
      have h' : (List.range m).findSome? (radoStep m g s rest used) = some l := h
      have h2 : (List.range m).findSome? (radoStep m g' s rest used) = some l := by
        rw [← h']
        exact (findSome_congr _ (fun j hj => (this j (by simpa using hj)))).symm
      exact h2.symm

/-- an element makes more of an independent set just if the two together are independent -/
def gProg (L : List Nat) (used i : Nat) : Bool := decide (rk L used < rk L (used ||| bit i))
def gRef (L : List Nat) (used i : Nat) : Bool := !used.testBit i && decide (rk L (used ||| bit i) = sz (used ||| bit i))
theorem rk_le_sz (L : List Nat) (s : Nat) : rk L s ≤ sz s := by
  rcases rkTo_at L s L.length with h | ⟨i, _, h⟩
  · unfold rk; omega
  · unfold rk; rw [h]
    exact sz_mono (fun k hk => by rw [Nat.testBit_and] at hk; simp at hk; exact hk.1)
theorem g_same {L : List Nat} {used i : Nat} (hu : used < 256) (hi : i < 8) (h : rk L used = sz used) : gProg L used i = gRef L used i := by
  unfold gProg gRef
  cases c : used.testBit i
  · have h1 := sz_add hi c
    have h2 := rk_le_sz L (used ||| bit i)
    rw [Bool.eq_iff_iff]
    simp only [Bool.not_false, Bool.true_and, decide_eq_true_eq]
    omega
  · have : used ||| bit i = used := eq_of_bits (or_lt _ _ hu (bit_lt256 i hi)) hu (fun k hk => by
      rw [Nat.testBit_or, testBit_bit]
      by_cases e : i = k
      · subst e; simp [c]
      · simp [e])
    rw [this]
    simp
theorem rado_same {L : List Nat} {m : Nat} (hm : m ≤ 8) (ls : List Nat) : rado m (gProg L) ls 0 = rado m (gRef L) ls 0 := by
  refine rado_congr (I := fun u => u < 256 ∧ rk L u = sz u) (fun used i hi h => g_same h.1 (by omega) h.2) (fun used i hi h hg => ⟨or_lt _ _ h.1 (bit_lt256 i (by omega)), ?_⟩) ls 0 ⟨by decide, ?_⟩
  · rw [g_same h.1 (by omega) h.2] at hg
    unfold gRef at hg
    simp only [Bool.and_eq_true, decide_eq_true_eq] at hg
    exact hg.2
  · have := rk_le_sz L 0
    rw [sz_zero] at this ⊢
    omega

end Go.Proofs.Ytcljgnmlpfddiaa
