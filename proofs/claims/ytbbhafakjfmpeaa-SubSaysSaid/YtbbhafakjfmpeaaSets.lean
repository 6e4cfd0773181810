
/-
  rotaref.Elements, Size; math/bits.OnesCount; the small functions size of the packages: of sets below 256.
-/
import Derived.Test.YtbbhafakjfmpeaaMem
namespace Go.Proofs.Ytbbhafakjfmpeaa
open Go.RowKit
set_option linter.unusedVariables false

/-- the elements of a set, rising -/
def elems (s : Nat) : List Nat := (List.range 8).filter (fun i => s.testBit i)
def elemsTo (s k : Nat) : List Nat := (List.range k).filter (fun i => s.testBit i)
theorem elemsTo_step (s k : Nat) : elemsTo s (k + 1) = if s.testBit k = true then elemsTo s k ++ [k] else elemsTo s k := by
  unfold elemsTo
  rw [List.range_succ, List.filter_append]
  by_cases h : s.testBit k = true
  · simp [h]
  · simp [h]
theorem elemsTo_len (s k : Nat) : (elemsTo s k).length ≤ k := by
  have := List.length_filter_le (fun i => s.testBit i) (List.range k)
  simpa [elemsTo] using this
def ints (l : List Nat) : List Int := l.map (fun (x : Nat) => (x : Int))
theorem ints_len (l : List Nat) : (ints l).length = l.length := by simp [ints]
theorem ints_snoc (l : List Nat) (k : Nat) : ints (l ++ [k]) = ints l ++ [(k : Int)] := by simp [ints]
def sz (s : Nat) : Nat := (elems s).length
theorem sz_le (s : Nat) : sz s ≤ 8 := elemsTo_len s 8















end Go.Proofs.Ytbbhafakjfmpeaa
