
/-
  LOVASZ's extension, plainly: the sum by steps is the sum by sets of the heaviest ones.
  greedy.weights, rotaref.Priced, rotalaw.priced, rotaref.IsOrder.
  greedy.taken, greedy.sum, rotaref.Weighs.
-/
import Derived.Test.YtdieaijgoidocaaPk33
import Derived.Test.YtdieaijgoidocaaPk13
import Derived.Test.YtdieaijgoidocaaPk14
import Derived.Test.YtdieaijgoidocaaPk22
import Derived.Test.YtdieaijgoidocaaPk21
import Derived.IntWalk
namespace Go.Proofs.Ytdieaijgoidocaa
set_option linter.unusedVariables false

/-- the first k of an order, as a set -/
def prfT (O : List Nat) : Nat → Nat
  | 0 => 0
  | k + 1 => prfT O k ||| bit (O.getD k 0)
theorem prfT_lt {m q : Nat} {O : List Nat} (hO : ∀ j, j < q → O.getD j 0 < m) : ∀ k, k ≤ q → prfT O k < bit m
  | 0, _ => Nat.one_le_two_pow
  | k + 1, hk => or_lt_bit (prfT_lt hO k (by omega)) (bit_lt_bit (hO k (by omega)))
/-- the vertex behind k elements -/
def verT (f : Nat → Int) (O : List Nat) : Nat → Nat → Int
  | 0, _ => 0
  | k + 1, t => if t = O.getD k 0 then f (prfT O (k + 1)) - f (prfT O k) else verT f O k t
def extT (w f : Nat → Int) (O : List Nat) : Nat → Int
  | 0 => 0
  | k + 1 => extT w f O k + w (O.getD k 0) * (f (prfT O (k + 1)) - f (prfT O k))
def nxtT (w : Nat → Int) (O : List Nat) (m k : Nat) : Int := if k < m then w (O.getD k 0) else 0
def lovT (w f : Nat → Int) (O : List Nat) (m : Nat) : Nat → Int
  | 0 => 0
  | k + 1 => lovT w f O m k + (w (O.getD k 0) - nxtT w O m (k + 1)) * f (prfT O (k + 1))
theorem lov_ext (w f : Nat → Int) (O : List Nat) (m : Nat) (h0 : f 0 = 0) : ∀ k, k ≤ m → extT w f O k = lovT w f O m k + nxtT w O m k * f (prfT O k)
  | 0, _ => by
    show (0 : Int) = 0 + _ * f 0
    rw [h0, Int.mul_zero, Int.add_zero]
  | k + 1, hk => by
    have ih := lov_ext w f O m h0 k (by omega)
    show extT w f O k + w (O.getD k 0) * (f (prfT O (k + 1)) - f (prfT O k)) = lovT w f O m k + (w (O.getD k 0) - nxtT w O m (k + 1)) * f (prfT O (k + 1)) + _
    have e : nxtT w O m k = w (O.getD k 0) := by unfold nxtT; rw [if_pos (by omega)]
    rw [ih, e, Int.mul_sub, Int.sub_mul]
    omega
theorem lov_all (w f : Nat → Int) (O : List Nat) (m : Nat) (h0 : f 0 = 0) : lovT w f O m m = extT w f O m := by
  rw [lov_ext w f O m h0 m (Nat.le_refl _)]
  have e : nxtT w O m m = 0 := by unfold nxtT; rw [if_neg (Nat.lt_irrefl _)]
  rw [e, Int.zero_mul, Int.add_zero]
theorem mul_bdI {a b : Int} {x y : Nat} (ha : a.natAbs ≤ x) (hb : b.natAbs ≤ y) : (a * b).natAbs ≤ x * y := by
  rw [Int.natAbs_mul]; exact Nat.mul_le_mul ha hb
theorem step_bd {a b : Int} (ha : -1000 ≤ a ∧ a ≤ 1000) (hb : -2000 ≤ b ∧ b ≤ 2000) : -2000000 ≤ a * b ∧ a * b ≤ 2000000 := by
  have := mul_bdI (a := a) (b := b) (x := 1000) (y := 2000) (by omega) (by omega)
  omega
theorem step_bd2 {a b : Int} (ha : -2000 ≤ a ∧ a ≤ 2000) (hb : -1000 ≤ b ∧ b ≤ 1000) : -2000000 ≤ a * b ∧ a * b ≤ 2000000 := by
  have := mul_bdI (a := a) (b := b) (x := 2000) (y := 1000) (by omega) (by omega)
  omega
theorem extT_bd {w f : Nat → Int} {O : List Nat} {m : Nat} (hO : ∀ j, j < m → O.getD j 0 < m) (hw : ∀ i, i < m → -1000 ≤ w i ∧ w i ≤ 1000) (hf : ∀ i, -1000 ≤ f i ∧ f i ≤ 1000) : ∀ k, k ≤ m → -2000000 * (k : Int) ≤ extT w f O k ∧ extT w f O k ≤ 2000000 * (k : Int)
  | 0, _ => ⟨by show _ ≤ (0 : Int); omega, by show (0 : Int) ≤ _; omega⟩
  | k + 1, hk => by
    have ih := extT_bd hO hw hf k (by omega)
    have h1 := hw _ (hO k (by omega))
    have h2 := hf (prfT O (k + 1))
    have h3 := hf (prfT O k)
    have h4 := step_bd h1 (b := f (prfT O (k + 1)) - f (prfT O k)) (by omega)
    show _ ≤ extT w f O k + w (O.getD k 0) * (f (prfT O (k + 1)) - f (prfT O k)) ∧ extT w f O k + w (O.getD k 0) * (f (prfT O (k + 1)) - f (prfT O k)) ≤ _
    generalize w (O.getD k 0) * (f (prfT O (k + 1)) - f (prfT O k)) = z at *
    omega
theorem nxtT_bd {w : Nat → Int} {O : List Nat} {m : Nat} (hO : ∀ j, j < m → O.getD j 0 < m) (hw : ∀ i, i < m → -1000 ≤ w i ∧ w i ≤ 1000) (k : Nat) : -1000 ≤ nxtT w O m k ∧ nxtT w O m k ≤ 1000 := by
  unfold nxtT
  split
  · exact hw _ (hO k (by omega))
  · omega
theorem lovT_bd {w f : Nat → Int} {O : List Nat} {m : Nat} (hO : ∀ j, j < m → O.getD j 0 < m) (hw : ∀ i, i < m → -1000 ≤ w i ∧ w i ≤ 1000) (hf : ∀ i, -1000 ≤ f i ∧ f i ≤ 1000) : ∀ k, k ≤ m → -2000000 * (k : Int) ≤ lovT w f O m k ∧ lovT w f O m k ≤ 2000000 * (k : Int)
  | 0, _ => ⟨by show _ ≤ (0 : Int); omega, by show (0 : Int) ≤ _; omega⟩
  | k + 1, hk => by
    have ih := lovT_bd hO hw hf k (by omega)
    have h1 := hw _ (hO k (by omega))
    have h2 := hf (prfT O (k + 1))
    have h3 := nxtT_bd hO hw (k + 1)
    have h4 := step_bd2 (a := w (O.getD k 0) - nxtT w O m (k + 1)) (by omega) h2
    show _ ≤ lovT w f O m k + (w (O.getD k 0) - nxtT w O m (k + 1)) * f (prfT O (k + 1)) ∧ lovT w f O m k + (w (O.getD k 0) - nxtT w O m (k + 1)) * f (prfT O (k + 1)) ≤ _
    generalize (w (O.getD k 0) - nxtT w O m (k + 1)) * f (prfT O (k + 1)) = z at *
    omega

end Go.Proofs.Ytdieaijgoidocaa

namespace Go.Proofs.Ytdieaijgoidocaa
open Go.RowKit
set_option linter.unusedVariables false

/-- what is wrong with weights of m elements -/
def PrcIs (m : Nat) (ws : List Int) (e : Int) : Prop := (ws.length ≠ m → e = 3) ∧ (ws.length = m → (∃ i, i < m ∧ ¬ (-1000 ≤ ws.getD i 0 ∧ ws.getD i 0 ≤ 1000)) → e = 1) ∧ (ws.length = m → (∀ i, i < m → -1000 ≤ ws.getD i 0 ∧ ws.getD i 0 ≤ 1000) → e = 0)
theorem PrcIs.ex (m : Nat) (ws : List Int) : ∃ e, PrcIs m ws e := by
  by_cases h : ws.length = m
  · by_cases h2 : ∀ i, i < m → -1000 ≤ ws.getD i 0 ∧ ws.getD i 0 ≤ 1000
    · exact ⟨0, fun c => absurd h c, fun _ ⟨i, hi, c⟩ => absurd (h2 i hi) c, fun _ _ => rfl⟩
    · exact ⟨1, fun c => absurd h c, fun _ _ => rfl, fun _ c => absurd c h2⟩
  · exact ⟨3, fun _ => rfl, fun c => absurd c h, fun c => absurd c h⟩
theorem PrcIs.ok {m : Nat} {ws : List Int} (h : PrcIs m ws 0) : ws.length = m ∧ ∀ i, i < m → -1000 ≤ ws.getD i 0 ∧ ws.getD i 0 ≤ 1000 := by
  have h1 : ws.length = m := Classical.byContradiction fun c => absurd (h.1 c) (by decide)
  refine ⟨h1, fun i hi => Classical.byContradiction fun c => ?_⟩
  exact absurd (h.2.1 h1 ⟨i, hi, c⟩) (by decide)

end Go.Proofs.Ytdieaijgoidocaa

namespace Go.Proofs.Ytdieaijgoidocaa
open Go.RowKit
set_option linter.unusedVariables false

theorem shr_andG (x k : Nat) (hx : x < 256) : bits .and .i64 ((x : Int) / 2 ^ k) 1 = (((x.testBit k).toNat : Nat) : Int) := by
  have e1 : ((x : Int) / 2 ^ k) = ((x / 2 ^ k : Nat) : Int) := by simp
  have h1 : x / 2 ^ k ≤ x := Nat.div_le_self _ _
  rw [e1]
  have := i64_and (x / 2 ^ k) 1 (by omega) (by omega)
  rw [show ((1 : Nat) : Int) = 1 from rfl] at this
  rw [this, Nat.and_one_is_mod, Nat.toNat_testBit]

end Go.Proofs.Ytdieaijgoidocaa
