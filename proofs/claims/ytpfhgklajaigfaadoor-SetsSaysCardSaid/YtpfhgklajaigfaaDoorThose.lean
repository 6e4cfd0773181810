
/-
  rotaref.Those: all sets of a kind, rising, where the kind is told by a function value; rotaref.biggest.
-/
import Derived.Test.YtpfhgklajaigfaaDoorSets
namespace Go.Proofs.YtpfhgklajaigfaaDoor
open Go.RowKit
set_option linter.unusedVariables false

/-- function k is one that is entered when it is called -/
def Plain (k : FuncId) : Prop := ∀ (args : Array Value) (w : World), (callFunc k args).run Tryd.prog w = .ok (.enter k args) w

/-- a function value that tells of each set below 2^m whether it is of a kind, in whatever later world -/
def Tells (B : Nat) (W : World) (k : FuncId) (caps : Array Value) (m : Nat) (p : Nat → Bool) : Prop :=
  ∀ (x : Later B W) (v : Later x.val.heap.size x.val) (s : Nat), s < bit m → Calls Tryd.prog k (#[.int .i64 (s : Int)] ++ caps) v.val (Ret x.val.heap.size x.val (.bool (p s)))

/-- a result: a row of the call's own -/
def RetOwn (B : Nat) (W : World) (xs : List Int) : Ending → World → Prop := RetP B W fun v w => ∃ ad cap, v = .slice ad xs.length cap ∧ Own B w ad cap xs
theorem RetOwn.ints {B : Nat} {W : World} {xs : List Int} {e : Ending} {w : World} (h : RetOwn B W xs e w) : RetInts B W xs e w := by
  obtain ⟨v, rfl, ⟨ad, cap, rfl, ho⟩, u, rfl⟩ := h
  exact RetP.mk u (Reads.of_own ho)

def those (m : Nat) (p : Nat → Bool) : List Nat := (List.range (bit m)).filter p
def thoseTo (p : Nat → Bool) (k : Nat) : List Nat := (List.range k).filter p
theorem thoseTo_step (p : Nat → Bool) (k : Nat) : thoseTo p (k + 1) = if p k = true then thoseTo p k ++ [k] else thoseTo p k := by
  unfold thoseTo
  rw [List.range_succ, List.filter_append]
  by_cases h : p k = true
  · simp [h]
  · simp [h]
theorem thoseTo_len (p : Nat → Bool) (k : Nat) : (thoseTo p k).length ≤ k := by
  have := List.length_filter_le p (List.range k)
  simpa [thoseTo] using this
theorem mem_those {m : Nat} {p : Nat → Bool} {s : Nat} : s ∈ those m p ↔ s < bit m ∧ p s = true := by simp [those]

/-- the greatest size of the first k of a list of sets -/
def mostTo (l : List Nat) : Nat → Nat
  | 0 => 0
  | k + 1 => max (mostTo l k) (sz (l.getD k 0))
theorem mostTo_le (l : List Nat) (k : Nat) : mostTo l k ≤ 8 := by
  induction k with
  | zero => exact Nat.zero_le _
  | succ k ih => have := sz_le (l.getD k 0); show max _ _ ≤ 8; omega
theorem mostTo_ge (l : List Nat) {k i : Nat} (h : i < k) : sz (l.getD i 0) ≤ mostTo l k := by
  induction k with
  | zero => omega
  | succ k ih =>
    show _ ≤ max _ _
    by_cases e : i = k
    · subst e; omega
    · have := ih (by omega); omega
def biggestTo (l : List Nat) (k : Nat) : List Nat := (l.take k).filter (fun s => sz s == mostTo l l.length)
theorem biggestTo_step (l : List Nat) {k : Nat} (hk : k < l.length) : biggestTo l (k + 1) = if sz (l.getD k 0) = mostTo l l.length then biggestTo l k ++ [l.getD k 0] else biggestTo l k := by
  unfold biggestTo
  rw [List.take_add_one, List.getElem?_eq_getElem hk, List.filter_append]
  have : l.getD k 0 = l[k] := by simp [hk]
  rw [this]
  by_cases h : sz l[k] = mostTo l l.length
  · simp [h]
  · simp [h]
def biggest (l : List Nat) : List Nat := biggestTo l l.length
theorem biggest_eq (l : List Nat) : biggest l = l.filter (fun s => sz s == mostTo l l.length) := by unfold biggest biggestTo; rw [List.take_length]
theorem ints_getD (l : List Nat) (k : Nat) : (ints l).getD k 0 = ((l.getD k 0 : Nat) : Int) := by
  unfold ints
  by_cases h : k < l.length
  · simp [h]
  · simp [h]

end Go.Proofs.YtpfhgklajaigfaaDoor
