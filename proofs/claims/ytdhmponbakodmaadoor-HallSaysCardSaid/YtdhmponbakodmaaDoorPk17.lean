
/-
  Elements that stand for sets, the first such list, plainly. No program in sight.
  hall.Rado: its function value, which appends to a captured row and cuts it.
-/
import Derived.Test.YtdhmponbakodmaaDoorPk04
import Derived.Deep.CutRange
import Derived.Deep.CutBlock
import Derived.Deep.RegionHeld3
import Derived.Test.YtdhmponbakodmaaDoorPk08
import Derived.Test.YtdhmponbakodmaaDoorPk10
import Derived.Test.YtdhmponbakodmaaDoorPk12
namespace Go.Proofs.YtdhmponbakodmaaDoor
set_option linter.unusedVariables false

/-- the first list of elements, one for each set; g tells whether one more may come to those used -/
def rado (m : Nat) (g : Nat → Nat → Bool) : List Nat → Nat → Option (List Nat)
  | [], _ => some []
  | s :: rest, used => (List.range m).findSome? (fun i => if s.testBit i && g used i then (rado m g rest (used ||| bit i)).map (fun l => i :: l) else none)
def radoStep (m : Nat) (g : Nat → Nat → Bool) (s : Nat) (rest : List Nat) (used i : Nat) : Option (List Nat) := if s.testBit i && g used i then (rado m g rest (used ||| bit i)).map (fun l => i :: l) else none
theorem rado_some {m : Nat} {g : Nat → Nat → Bool} {s : Nat} {rest : List Nat} {used i : Nat} {l : List Nat} (hi : i < m) (h : radoStep m g s rest used i = some l) (hno : ∀ j, j < i → radoStep m g s rest used j = none) : rado m g (s :: rest) used = some l := by
  show (List.range m).findSome? (radoStep m g s rest used) = some l
  rw [List.findSome?_eq_some_iff]
  refine ⟨List.range i, i, List.range' (i+1) (m - i - 1), ?_, h, fun j hj => hno j (by simpa using hj)⟩
  rw [List.range_eq_range', List.range_eq_range']
  have h1 : List.range' 0 m = List.range' 0 i ++ List.range' (0 + i) (m - i) := by
    rw [List.range'_append_1]; congr 1; omega
  rw [h1, Nat.zero_add, show m - i = (m - i - 1) + 1 by omega, List.range'_succ]
  simp
theorem rado_none {m : Nat} {g : Nat → Nat → Bool} {s : Nat} {rest : List Nat} {used : Nat} (hno : ∀ j, j < m → radoStep m g s rest used j = none) : rado m g (s :: rest) used = none := by
  show (List.range m).findSome? (radoStep m g s rest used) = none
  rw [List.findSome?_eq_none_iff]
  intro j hj
  exact hno j (by simpa using hj)
theorem rado_len {m : Nat} {g : Nat → Nat → Bool} : ∀ (ls : List Nat) (used : Nat) (l : List Nat), rado m g ls used = some l → l.length = ls.length := by
  intro ls
  induction ls with
  | nil => intro used l h; cases h; rfl
  | cons s rest ih =>
    intro used l h
    have h' : (List.range m).findSome? (radoStep m g s rest used) = some l := h
    obtain ⟨i, hi, h2⟩ := List.exists_of_findSome?_eq_some h'
    unfold radoStep at h2
    split at h2
    · cases h3 : rado m g rest (used ||| bit i) with
      | none => rw [h3] at h2; cases h2
      | some l' =>
        rw [h3] at h2
        simp only [Option.map_some, Option.some.injEq] at h2
        rw [← h2]
        simp [ih _ _ h3]
    · cases h2
theorem findSome_congr {α β : Type} {f g : α → Option β} : ∀ l : List α, (∀ x, x ∈ l → f x = g x) → l.findSome? f = l.findSome? g := by
  intro l
  induction l with
  | nil => intro _; rfl
  | cons x l ih =>
    intro h
    rw [List.findSome?_cons, List.findSome?_cons, h x (by simp), ih (fun y hy => h y (by simp [hy]))]
/-- two ways to tell which elements may come agree where the sets that come up are alike -/
theorem rado_congr {m : Nat} {g g' : Nat → Nat → Bool} {I : Nat → Prop} (hg : ∀ used i, i < m → I used → g used i = g' used i) (hI : ∀ used i, i < m → I used → g used i = true → I (used ||| bit i)) : ∀ (ls : List Nat) (used : Nat), I used → rado m g ls used = rado m g' ls used := by
  intro ls
  induction ls with
  | nil => intro used _; rfl
  | cons s rest ih =>
    intro used hu
    have : ∀ i, i < m → radoStep m g s rest used i = radoStep m g' s rest used i := fun i hi => by
      unfold radoStep
      rw [← hg used i hi hu]
      by_cases c : (s.testBit i && g used i) = true
      · rw [if_pos c, if_pos c, ih _ (hI used i hi hu (by simp at c; exact c.2))]
      · rw [if_neg c, if_neg c]
    cases h : rado m g (s :: rest) used with
    | none =>
      refine (rado_none (fun j hj => ?_)).symm
      rw [← this j hj]
      have h' : (List.range m).findSome? (radoStep m g s rest used) = none := h
      rw [List.findSome?_eq_none_iff] at h'
      exact h' j (by simpa using hj)
    | some l =>
      have h' : (List.range m).findSome? (radoStep m g s rest used) = some l := h
      have h2 : (List.range m).findSome? (radoStep m g' s rest used) = some l := by
        rw [← h']
        exact (findSome_congr _ (fun j hj => (this j (by simpa using hj)))).symm
      exact h2.symm

/-- an element makes more of an independent set just if the two together are independent -/
def gProg (L : List Nat) (used i : Nat) : Bool := decide (rk L used < rk L (used ||| bit i))
def gRef (L : List Nat) (used i : Nat) : Bool := !used.testBit i && decide (rk L (used ||| bit i) = sz (used ||| bit i))
theorem rk_le_sz (L : List Nat) (s : Nat) : rk L s ≤ sz s := by
  rcases rkTo_at L s L.length with h | ⟨i, _, h⟩
  · unfold rk; omega
  · unfold rk; rw [h]
    exact sz_mono (fun k hk => by rw [Nat.testBit_and] at hk; simp at hk; exact hk.1)
theorem g_same {L : List Nat} {used i : Nat} (hu : used < 256) (hi : i < 8) (h : rk L used = sz used) : gProg L used i = gRef L used i := by
  unfold gProg gRef
  cases c : used.testBit i
  · have h1 := sz_add hi c
    have h2 := rk_le_sz L (used ||| bit i)
    rw [Bool.eq_iff_iff]
    simp only [Bool.not_false, Bool.true_and, decide_eq_true_eq]
    omega
  · have : used ||| bit i = used := eq_of_bits (or_lt _ _ hu (bit_lt256 i hi)) hu (fun k hk => by
      rw [Nat.testBit_or, testBit_bit]
      by_cases e : i = k
      · subst e; simp [c]
      · simp [e])
    rw [this]
    simp
theorem rado_same {L : List Nat} {m : Nat} (hm : m ≤ 8) (ls : List Nat) : rado m (gProg L) ls 0 = rado m (gRef L) ls 0 := by
  refine rado_congr (I := fun u => u < 256 ∧ rk L u = sz u) (fun used i hi h => g_same h.1 (by omega) h.2) (fun used i hi h hg => ⟨or_lt _ _ h.1 (bit_lt256 i (by omega)), ?_⟩) ls 0 ⟨by decide, ?_⟩
  · rw [g_same h.1 (by omega) h.2] at hg
    unfold gRef at hg
    simp only [Bool.and_eq_true, decide_eq_true_eq] at hg
    exact hg.2
  · have := rk_le_sz L 0
    rw [sz_zero] at this ⊢
    omega

end Go.Proofs.YtdhmponbakodmaaDoor

namespace Go.Proofs.YtdhmponbakodmaaDoor
open Go.RowKit
set_option linter.unusedVariables false

/-- worlds that agree with W below B but for block b -/
structure Aside (B b : Nat) (W : World) where
  val : World
  os : val.os = W.os
  tape : val.tape = W.tape
  output : val.output = W.output
  size : W.heap.size ≤ val.heap.size
  base : B ≤ val.heap.size
  block : ∀ k, k < B → k ≠ b → val.heap[k]? = W.heap[k]?
namespace Aside
variable {B b : Nat} {W : World}
def past (v : Aside B b W) (w : World) (h : Below B v.val w) : Aside B b W := ⟨w, h.os.trans v.os, h.tape.trans v.tape, h.output.trans v.output, Nat.le_trans v.size h.size, Nat.le_trans v.base h.size, fun k hk hb => (h.block k hk).trans (v.block k hk hb)⟩
def up (v : Aside B b W) (y : Later v.val.heap.size v.val) : Aside B b W := v.past y.val (y.below.mono v.base)
def drew (v : Aside B b W) : Aside B b W := v.past v.val.drew (Below.refl _ _).drew
def store (v : Aside B b W) (x : Value) : Aside B b W := ⟨v.val.setCell ⟨b, 0, none⟩ x, v.os, v.tape, v.output, by simpa using v.size, by simpa using v.base, fun k hk hb => (Below.heap_setCell _ _ _ _ hb).trans (v.block k hk hb)⟩
theorem cell (v : Aside B b W) {a : Addr} (h : a.block < B) (hb : a.block ≠ b) : v.val.cell? a = W.cell? a := World.cell?_of_block (w := W) (v.block a.block h hb)
theorem below (v : Aside B b W) {B0 : Nat} (h : B0 ≤ B) (hb : B0 ≤ b) : Below B0 W v.val := ⟨v.os, v.tape, v.output, v.size, fun k hk => v.block k (by omega) (by omega)⟩
end Aside

/-- the captured row -/
def OutAt (B b : Nat) (w : World) (xs : List Int) : Prop := ∃ ad cp, RowAt1 w b 22 (.slice ad xs.length cp) ∧ Own B w ad cp xs
theorem OutAt.keep {B b : Nat} {w w' : World} {xs : List Int} (h : OutAt B b w xs) (hb : Below w.heap.size w w') : OutAt B b w' xs := by
  obtain ⟨ad, cp, h1, h2⟩ := h
  exact ⟨ad, cp, h1.keep hb, h2.keep hb⟩
theorem RowAt1.store {w : World} {g : Nat} {t : TypeId} {v x : Value} (h : RowAt1 w g t v) : RowAt1 (w.setCell ⟨g, 0, none⟩ x) g t x := by
  have := heap_setCell_same w g 0 #[v] t x h
  simpa [RowAt1] using this
theorem RowAt1.frozen {w : World} {g : Nat} {t : TypeId} {v : Value} (h : RowAt1 w g t v) : w.frozen? ⟨g, 0, none⟩ = false := frozen_of_row w g 0 _ t h
theorem OutAt.stored {B b : Nat} {w : World} {t : Value} {ad : Option Addr} {cp : Nat} {xs : List Int} (hb : b < B) (h : RowAt1 w b 22 t) (ho : Own B w ad cp xs) : OutAt B b (w.setCell ⟨b, 0, none⟩ (.slice ad xs.length cp)) xs :=
  ⟨ad, cp, h.store, ownsRow_setCell_below ho hb _⟩
/-- an own row, cut -/
theorem Own.cut {B : Nat} {w : World} {g cap : Nat} {xs ys : List Int} (h : Own B w (some ⟨g, 0, none⟩) cap (xs ++ ys)) : Own B w (some ⟨g, 0, none⟩) cap xs := by
  obtain ⟨h1, h2⟩ := h
  refine ⟨by simp, ?_⟩
  rcases h2 with ⟨e, _⟩ | ⟨g', c, cur, e, hb, hh, hn, hc, hs, ht⟩
  · cases e
  · refine .inr ⟨g', c, cur, ?_, hb, hh, by simp at hn; omega, hc, hs, ?_⟩
    · simp only [Value.slice.injEq] at e ⊢
      exact ⟨e.1, trivial, e.2.2⟩
    · have := congrArg (List.take xs.length) ht
      rw [List.take_take] at this
      simp at this
      rw [Nat.mul_one, ← this]
theorem Own.room {B : Nat} {w : World} {ad : Option Addr} {cap : Nat} {xs : List Int} (h : Own B w ad cap xs) : xs.length ≤ cap := by
  rcases h.2 with ⟨e, hn⟩ | ⟨g, c, cur, e, _, _, hn, _⟩
  · omega
  · simp only [Value.slice.injEq] at e
    omega

/-- what the function value gives back -/
def RadoPost (B b : Nat) (W : World) (r : Option (List Nat)) (pre : List Nat) (e : Ending) (w' : World) : Prop :=
  ∃ v' : Aside B b W, w' = v'.val ∧ ((∃ l, r = some l ∧ e = .returned (.bool true) ∧ OutAt B b v'.val (ints (pre ++ l))) ∨ (r = none ∧ e = .returned (.bool false) ∧ OutAt B b v'.val (ints pre)))

end Go.Proofs.YtdhmponbakodmaaDoor
