
/-
  minors.Delete, Contract.
  slices.IndexFunc told exactly; slices.DeleteFunc over a row of the call's own.
  minors.Truncate.
-/
import Derived.Test.YtffnpokceomncaaPk35
import Derived.Test.YtffnpokceomncaaPk27
import Derived.Deep.RegionHeld3
import Derived.Test.YtffnpokceomncaaPk32
import Derived.Test.YtffnpokceomncaaPk34
import Derived.Lib.SliceRun
import Derived.Test.YtffnpokceomncaaPk31
import Derived.Test.YtffnpokceomncaaPk28
namespace Go.Proofs.Ytffnpokceomncaa
open Go.RowKit
set_option linter.unusedVariables false

theorem growL_sub (key : Nat → Int) (L : List Nat) (k : Nat) (hk : k ≤ L.length) : ∀ b, b ∈ (growL key L k).1 → b ∈ L := by
  induction k with
  | zero => intro b hb; cases hb
  | succ k ih =>
    intro b hb
    have hm : L.getD k 0 ∈ L := by simp [show k < L.length by omega]
    rw [growL_step] at hb
    split at hb
    · rw [List.mem_singleton.1 hb]; exact hm
    · split at hb
      · rcases List.mem_append.1 hb with h | h
        · exact ih (by omega) b h
        · rw [List.mem_singleton.1 h]; exact hm
      · exact ih (by omega) b hb

end Go.Proofs.Ytffnpokceomncaa

namespace Go.Proofs.Ytffnpokceomncaa
open Go.RowKit
set_option linter.unusedVariables false

/-- where the first element of a kind stands, or -1 -/
def FirstAt (l : List Int) (p : Int → Bool) (r : Int) : Prop := (r = -1 ∧ ∀ i, i < l.length → p (l.getD i 0) = false) ∨ ∃ k : Nat, k < l.length ∧ r = (k : Int) ∧ p (l.getD k 0) = true ∧ ∀ i, i < k → p (l.getD i 0) = false

/-- the row while its elements are struck: j looked at, i kept -/
def DelAt (xs : List Int) (q : Int → Bool) (zs : List Int) (i j : Nat) : Prop := zs.length = xs.length ∧ i < j ∧ j ≤ xs.length ∧ zs.take i = (xs.take j).filter q ∧ ∀ t, j ≤ t → zs.getD t 0 = xs.getD t 0
theorem take_snoc (xs : List Int) {j : Nat} (hj : j < xs.length) : xs.take (j + 1) = xs.take j ++ [xs.getD j 0] := by
  rw [List.take_add_one, List.getElem?_eq_getElem hj]
  have : xs.getD j 0 = xs[j] := by simp [hj]
  rw [this]; rfl
theorem filt_no {q : Int → Bool} {x : Int} (h : q x = false) : [x].filter q = [] := by simp [h]
theorem filt_yes {q : Int → Bool} {x : Int} (h : q x = true) : [x].filter q = [x] := by simp [h]
theorem take_set_self (zs : List Int) (i : Nat) (x : Int) : (zs.set i x).take i = zs.take i := by
  rw [List.take_set, List.set_eq_of_length_le (by simp; omega)]
theorem DelAt.start {xs : List Int} {q : Int → Bool} {k : Nat} (hk : k < xs.length) (h1 : q (xs.getD k 0) = false) (h2 : ∀ i, i < k → q (xs.getD i 0) = true) : DelAt xs q xs k (k + 1) := by
  refine ⟨rfl, by omega, by omega, ?_, fun t _ => rfl⟩
  rw [take_snoc xs hk, List.filter_append]
  have e1 : (xs.take k).filter q = xs.take k := by
    rw [List.filter_eq_self]
    intro x hx
    obtain ⟨i, hi, e⟩ := List.getElem_of_mem hx
    have hi' : i < k := by simp at hi; omega
    have := h2 i hi'
    rw [← e, List.getElem_take]
    simpa [show i < xs.length by omega] using this
  rw [e1, filt_no h1, List.append_nil]
theorem DelAt.skip {xs zs : List Int} {q : Int → Bool} {i j : Nat} (h : DelAt xs q zs i j) (hj : j < xs.length) (hq : q (xs.getD j 0) = false) : DelAt xs q zs i (j + 1) := by
  obtain ⟨h1, h2, h3, h4, h5⟩ := h
  refine ⟨h1, by omega, by omega, ?_, fun t ht => h5 t (by omega)⟩
  rw [h4, take_snoc xs hj, List.filter_append, filt_no hq, List.append_nil]
theorem DelAt.keep {xs zs : List Int} {q : Int → Bool} {i j : Nat} (h : DelAt xs q zs i j) (hj : j < xs.length) (hq : q (xs.getD j 0) = true) : DelAt xs q (zs.set i (xs.getD j 0)) (i + 1) (j + 1) := by
  obtain ⟨h1, h2, h3, h4, h5⟩ := h
  refine ⟨by simp [h1], by omega, by omega, ?_, fun t ht => ?_⟩
  · rw [take_snoc _ (by simp; omega), take_snoc xs hj, List.filter_append]
    have e1 := take_set_self zs i (xs.getD j 0)
    have e2 : (zs.set i (xs.getD j 0)).getD i 0 = xs.getD j 0 := by
      have : i < zs.length := by omega
      simp [this]
    rw [e1, e2, h4, filt_yes hq]
  · have := h5 t (by omega)
    rw [← this]
    have hne : i ≠ t := by omega
    simp [List.getD, List.getElem?_set_ne hne]
theorem DelAt.done {xs zs : List Int} {q : Int → Bool} {i : Nat} (h : DelAt xs q zs i xs.length) : zs.take i = xs.filter q := by
  have := h.2.2.2.1
  rwa [List.take_length] at this

/-- a run of cells of a row of the call's own struck to zero -/
theorem Own.strike {B : Nat} {W : World} {g cap : Nat} : ∀ (c i : Nat) (v : Later B W) (zs : List Int), Own B v.val (some ⟨g, 0, none⟩) cap zs → i + c ≤ zs.length → ∃ (v' : Later B W) (ys : List Int), v'.val = v.val.setCells g i (List.replicate c (.int .i64 0)) ∧ Own B v'.val (some ⟨g, 0, none⟩) cap ys ∧ ys.length = zs.length ∧ ys.take i = zs.take i
  | 0, i, v, zs, h, _ => ⟨v, zs, rfl, h, rfl, rfl⟩
  | c + 1, i, v, zs, h, hc => by
    have h1 := h.put (i := i) (by omega) 0
    obtain ⟨v', ys, e1, e2, e3, e4⟩ := Own.strike c (i + 1) (v.set ⟨g, i, none⟩ h.base (.int .i64 0)) (zs.set i 0) h1 (by simp; omega)
    refine ⟨v', ys, e1, e2, by simpa using e3, ?_⟩
    have := congrArg (List.take i) e4
    rw [List.take_take, List.take_take, Nat.min_eq_left (Nat.le_succ i)] at this
    rw [this]
    exact take_set_self zs i 0

end Go.Proofs.Ytffnpokceomncaa

namespace Go.Proofs.Ytffnpokceomncaa
open Go.RowKit
set_option linter.unusedVariables false

theorem filt_ints (I : List Nat) (k : Int) : (ints I).filter (fun x => !(fun y : Int => !decide ((sz y.toNat : Int) = k)) x) = ints (I.filter (fun s => decide ((sz s : Int) = k))) := by
  unfold ints
  rw [List.filter_map]
  congr 1
  refine List.filter_congr (fun x _ => ?_)
  simp

end Go.Proofs.Ytffnpokceomncaa
