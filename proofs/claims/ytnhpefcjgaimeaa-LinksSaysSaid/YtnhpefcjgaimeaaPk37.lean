
/-
  LOVASZ's extension, plainly: the sum by steps is the sum by sets of the heaviest ones.
  slices.IndexFunc, slices.ContainsFunc over lists of numbers, at function values that tell; rows of the call's own, written at a place.
-/
import Derived.Test.YtnhpefcjgaimeaaPk36
import Derived.Test.YtnhpefcjgaimeaaPk26
import Derived.Test.YtnhpefcjgaimeaaPk03
import Derived.Test.YtnhpefcjgaimeaaPk19
namespace Go.Proofs.Ytnhpefcjgaimeaa
set_option linter.unusedVariables false

/-- the first k of an order, as a set -/
def prfT (O : List Nat) : Nat → Nat
  | 0 => 0
  | k + 1 => prfT O k ||| bit (O.getD k 0)
theorem prfT_lt {m q : Nat} {O : List Nat} (hO : ∀ j, j < q → O.getD j 0 < m) : ∀ k, k ≤ q → prfT O k < bit m
  | 0, _ => Nat.one_le_two_pow
  | k + 1, hk => or_lt_bit (prfT_lt hO k (by omega)) (bit_lt_bit (hO k (by omega)))
/-- the vertex behind k elements -/
def verT (f : Nat → Int) (O : List Nat) : Nat → Nat → Int
  | 0, _ => 0
  | k + 1, t => if t = O.getD k 0 then f (prfT O (k + 1)) - f (prfT O k) else verT f O k t
def extT (w f : Nat → Int) (O : List Nat) : Nat → Int
  | 0 => 0
  | k + 1 => extT w f O k + w (O.getD k 0) * (f (prfT O (k + 1)) - f (prfT O k))
def nxtT (w : Nat → Int) (O : List Nat) (m k : Nat) : Int := if k < m then w (O.getD k 0) else 0
def lovT (w f : Nat → Int) (O : List Nat) (m : Nat) : Nat → Int
  | 0 => 0
  | k + 1 => lovT w f O m k + (w (O.getD k 0) - nxtT w O m (k + 1)) * f (prfT O (k + 1))
theorem lov_ext (w f : Nat → Int) (O : List Nat) (m : Nat) (h0 : f 0 = 0) : ∀ k, k ≤ m → extT w f O k = lovT w f O m k + nxtT w O m k * f (prfT O k)
  | 0, _ => by
    show (0 : Int) = 0 + _ * f 0
    rw [h0, Int.mul_zero, Int.add_zero]
  | k + 1, hk => by
    have ih := lov_ext w f O m h0 k (by omega)
    show extT w f O k + w (O.getD k 0) * (f (prfT O (k + 1)) - f (prfT O k)) = lovT w f O m k + (w (O.getD k 0) - nxtT w O m (k + 1)) * f (prfT O (k + 1)) + _
    have e : nxtT w O m k = w (O.getD k 0) := by unfold nxtT; rw [if_pos (by omega)]
    rw [ih, e, Int.mul_sub, Int.sub_mul]
    omega
theorem lov_all (w f : Nat → Int) (O : List Nat) (m : Nat) (h0 : f 0 = 0) : lovT w f O m m = extT w f O m := by
  rw [lov_ext w f O m h0 m (Nat.le_refl _)]
  have e : nxtT w O m m = 0 := by unfold nxtT; rw [if_neg (Nat.lt_irrefl _)]
  rw [e, Int.zero_mul, Int.add_zero]
theorem mul_bdI {a b : Int} {x y : Nat} (ha : a.natAbs ≤ x) (hb : b.natAbs ≤ y) : (a * b).natAbs ≤ x * y := by
  rw [Int.natAbs_mul]; exact Nat.mul_le_mul ha hb
theorem step_bd {a b : Int} (ha : -1000 ≤ a ∧ a ≤ 1000) (hb : -2000 ≤ b ∧ b ≤ 2000) : -2000000 ≤ a * b ∧ a * b ≤ 2000000 := by
  have := mul_bdI (a := a) (b := b) (x := 1000) (y := 2000) (by omega) (by omega)
  omega
theorem step_bd2 {a b : Int} (ha : -2000 ≤ a ∧ a ≤ 2000) (hb : -1000 ≤ b ∧ b ≤ 1000) : -2000000 ≤ a * b ∧ a * b ≤ 2000000 := by
  have := mul_bdI (a := a) (b := b) (x := 2000) (y := 1000) (by omega) (by omega)
  omega
theorem extT_bd {w f : Nat → Int} {O : List Nat} {m : Nat} (hO : ∀ j, j < m → O.getD j 0 < m) (hw : ∀ i, i < m → -1000 ≤ w i ∧ w i ≤ 1000) (hf : ∀ i, -1000 ≤ f i ∧ f i ≤ 1000) : ∀ k, k ≤ m → -2000000 * (k : Int) ≤ extT w f O k ∧ extT w f O k ≤ 2000000 * (k : Int)
  | 0, _ => ⟨by show _ ≤ (0 : Int); omega, by show (0 : Int) ≤ _; omega⟩
  | k + 1, hk => by
    have ih := extT_bd hO hw hf k (by omega)
    have h1 := hw _ (hO k (by omega))
    have h2 := hf (prfT O (k + 1))
    have h3 := hf (prfT O k)
    have h4 := step_bd h1 (b := f (prfT O (k + 1)) - f (prfT O k)) (by omega)
    show _ ≤ extT w f O k + w (O.getD k 0) * (f (prfT O (k + 1)) - f (prfT O k)) ∧ extT w f O k + w (O.getD k 0) * (f (prfT O (k + 1)) - f (prfT O k)) ≤ _
    generalize w (O.getD k 0) * (f (prfT O (k + 1)) - f (prfT O k)) = z at *
    omega
theorem nxtT_bd {w : Nat → Int} {O : List Nat} {m : Nat} (hO : ∀ j, j < m → O.getD j 0 < m) (hw : ∀ i, i < m → -1000 ≤ w i ∧ w i ≤ 1000) (k : Nat) : -1000 ≤ nxtT w O m k ∧ nxtT w O m k ≤ 1000 := by
  unfold nxtT
  split
  · exact hw _ (hO k (by omega))
  · omega
theorem lovT_bd {w f : Nat → Int} {O : List Nat} {m : Nat} (hO : ∀ j, j < m → O.getD j 0 < m) (hw : ∀ i, i < m → -1000 ≤ w i ∧ w i ≤ 1000) (hf : ∀ i, -1000 ≤ f i ∧ f i ≤ 1000) : ∀ k, k ≤ m → -2000000 * (k : Int) ≤ lovT w f O m k ∧ lovT w f O m k ≤ 2000000 * (k : Int)
  | 0, _ => ⟨by show _ ≤ (0 : Int); omega, by show (0 : Int) ≤ _; omega⟩
  | k + 1, hk => by
    have ih := lovT_bd hO hw hf k (by omega)
    have h1 := hw _ (hO k (by omega))
    have h2 := hf (prfT O (k + 1))
    have h3 := nxtT_bd hO hw (k + 1)
    have h4 := step_bd2 (a := w (O.getD k 0) - nxtT w O m (k + 1)) (by omega) h2
    show _ ≤ lovT w f O m k + (w (O.getD k 0) - nxtT w O m (k + 1)) * f (prfT O (k + 1)) ∧ lovT w f O m k + (w (O.getD k 0) - nxtT w O m (k + 1)) * f (prfT O (k + 1)) ≤ _
    generalize (w (O.getD k 0) - nxtT w O m (k + 1)) * f (prfT O (k + 1)) = z at *
    omega

end Go.Proofs.Ytnhpefcjgaimeaa

namespace Go.Proofs.Ytnhpefcjgaimeaa
open Go.RowKit
set_option linter.unusedVariables false

/-- a function value that tells of a list's elements whether they are of a kind, in whatever later world -/
def TellsE (B : Nat) (W : World) (k : FuncId) (caps : Array Value) (l : List Int) (p : Int → Bool) : Prop :=
  ∀ (v : Later B W) (i : Nat), i < l.length → Calls Try.prog k (#[.int .i64 (l.getD i 0)] ++ caps) v.val (Ret B W (.bool (p (l.getD i 0))))

theorem any_getI {l : List Int} {p : Int → Bool} : l.any p = true ↔ ∃ i, i < l.length ∧ p (l.getD i 0) = true := by
  rw [List.any_eq_true]
  constructor
  · rintro ⟨x, hx, h⟩
    obtain ⟨i, hi, e⟩ := List.getElem_of_mem hx
    exact ⟨i, hi, by simpa [hi, e] using h⟩
  · rintro ⟨i, hi, h⟩
    exact ⟨l.getD i 0, by simp [hi], h⟩

/-- a write at a place of a row of the call's own -/
theorem Own.put {B : Nat} {w : World} {g cap : Nat} {xs : List Int} (h : Own B w (some ⟨g, 0, none⟩) cap xs) {i : Nat} (hi : i < xs.length) (x : Int) : Own B (w.setCell ⟨g, i, none⟩ (.int .i64 x)) (some ⟨g, 0, none⟩) cap (xs.set i x) := by
  rcases h.2 with ⟨e, hn⟩ | ⟨g', c, cur, e, h1, h2, h3, h4, h5, h6⟩
  · cases e
  · simp only [Value.slice.injEq, Option.some.injEq, Addr.mk.injEq] at e
    obtain ⟨⟨e1, _⟩, _, e3⟩ := e
    subst e1; subst e3
    refine ⟨by simp, .inr ⟨g, cap, cur.setIfInBounds i (.int .i64 x), by simp, h1, ?_, by simpa using h3, h4, by simpa using h5, ?_⟩⟩
    · have h' : w.heap[g]? = _ := h2
      simp only [World.setCell, Array.getElem?_modify, h']
      simp
    · rw [Nat.mul_one] at h6 ⊢
      rw [List.length_set, Array.toList_setIfInBounds, List.map_set, ← h6, List.take_set]
theorem Own.cellAt {B : Nat} {w : World} {g cap : Nat} {xs : List Int} (h : Own B w (some ⟨g, 0, none⟩) cap xs) {i : Nat} (hi : i < xs.length) : w.cell? ⟨g, i, none⟩ = some (.int .i64 (xs.getD i 0)) := by
  obtain ⟨b, off, e, _, hc⟩ := h.reads (by rintro rfl; simp at hi)
  simp only [Option.some.injEq, Addr.mk.injEq] at e
  obtain ⟨rfl, rfl, _⟩ := e
  have := hc i hi
  rwa [Nat.zero_add] at this
theorem Own.fz {B : Nat} {w : World} {g cap : Nat} {xs : List Int} (h : Own B w (some ⟨g, 0, none⟩) cap xs) (i : Nat) : w.frozen? ⟨g, i, none⟩ = false := by
  rcases h.2 with ⟨e, hn⟩ | ⟨g', c, cur, e, h1, h2, h3, h4, h5, h6⟩
  · cases e
  · simp only [Value.slice.injEq, Option.some.injEq, Addr.mk.injEq] at e
    obtain ⟨⟨e1, _⟩, _⟩ := e
    subst e1
    have h' : w.heap[g]? = _ := h2
    unfold World.frozen?
    rw [h']; simp
theorem Own.base {B : Nat} {w : World} {g cap : Nat} {xs : List Int} (h : Own B w (some ⟨g, 0, none⟩) cap xs) : B ≤ g := by
  rcases h.2 with ⟨e, hn⟩ | ⟨g', c, cur, e, h1, h2, h3, h4, h5, h6⟩
  · cases e
  · simp only [Value.slice.injEq, Option.some.injEq, Addr.mk.injEq] at e
    obtain ⟨⟨e1, _⟩, _⟩ := e
    subst e1
    exact h1
theorem tabL_set (n : Nat) (A A' : Nat → Int) {i : Nat} (hi : i < n) (v : Int) (e : ∀ j, j < n → A' j = if j = i then v else A j) : (tabL n A).set i v = tabL n A' := by
  apply List.ext_getElem
  · simp [tabL]
  · intro j h1 h2
    have hj : j < n := by simpa [tabL] using h2
    simp only [tabL, List.getElem_set, List.getElem_map, List.getElem_range]
    rw [e j hj]
    by_cases c : j = i
    · subst c; simp
    · rw [if_neg (Ne.symm c), if_neg c]



end Go.Proofs.Ytnhpefcjgaimeaa
