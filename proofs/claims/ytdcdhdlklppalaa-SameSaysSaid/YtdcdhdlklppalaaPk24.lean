
/-
  flats.Broken.
  The elements of a set as a rising list. No program in sight.
  append of one number at a step of a region that draws its order.
-/
import Derived.Test.YtdcdhdlklppalaaPk23
import Derived.Test.YtdcdhdlklppalaaPk02
import Derived.Deep.AppendLies
import Derived.Deep.RegionLaw
namespace Go.Proofs.Ytdcdhdlklppalaa
open Go.RowKit
set_option linter.unusedVariables false

theorem drop1_lt' (t : Nat) (ht : t < 256) : drop1 t < 256 := drop1_lt t ht
/-- the list of circuits, its first k struck of their least elements -/
def brkT (C : List Nat) (k j : Nat) : Int := if j < k then ((drop1 (C.getD j 0) : Nat) : Int) else ((C.getD j 0 : Nat) : Int)
theorem brkT_zero (C : List Nat) : tabL C.length (brkT C 0) = ints C := by
  apply List.ext_getElem
  · simp [tabL, ints]
  · intro i h1 h2
    have hi : i < C.length := by simpa [tabL] using h1
    simp [tabL, ints, brkT, hi]
theorem brkT_all (C : List Nat) : tabL C.length (brkT C C.length) = ints (C.map drop1) := by
  apply List.ext_getElem
  · simp [tabL, ints]
  · intro i h1 h2
    have hi : i < C.length := by simpa [tabL] using h1
    simp [tabL, ints, brkT, hi]
theorem brok_any (C : List Nat) (s : Nat) : (ints (C.map drop1)).any (fun x => decide (x.toNat &&& s = x.toNat)) = !brokP C s := by
  rw [Bool.eq_iff_iff, List.any_eq_true, Bool.not_eq_true', ← Bool.not_eq_true]
  unfold brokP
  rw [List.all_eq_true]
  constructor
  · rintro ⟨x, hx, h⟩ hall
    obtain ⟨n, hn, rfl⟩ := List.mem_map.1 hx
    obtain ⟨c, hc, rfl⟩ := List.mem_map.1 hn
    have h1 := hall c hc
    have h2 : drop1 c &&& s = drop1 c := by simpa using h
    rw [or_iff_and'.2 h2] at h1
    simp at h1
  · intro hall
    apply Classical.byContradiction
    intro hno
    apply hall
    intro c hc
    have : ¬ drop1 c ||| s = s := fun h => hno ⟨((drop1 c : Nat) : Int), List.mem_map.2 ⟨_, List.mem_map.2 ⟨c, hc, rfl⟩, rfl⟩, by
      rw [or_iff_and'] at h
      simpa using h⟩
    simp [this]

end Go.Proofs.Ytdcdhdlklppalaa

namespace Go.Proofs.Ytdcdhdlklppalaa
open Go.RowKit
set_option linter.unusedVariables false

theorem elems_first {s o : Nat} (ho : o < 8) (h : s.testBit o = true) (hmin : ∀ i, i < 8 → s.testBit i = true → o ≤ i) : (elems s)[0]? = some o := by
  rw [← List.head?_eq_getElem?]
  unfold elems
  rw [List.head?_filter, List.find?_range_eq_some]
  refine ⟨h, by simpa using ho, fun j hj => ?_⟩
  cases c : s.testBit j
  · rfl
  · have := hmin j (by omega) c; omega
theorem mem_elems {s x : Nat} : x ∈ elems s ↔ x < 8 ∧ s.testBit x = true := by simp [elems]
theorem elems_rise (s : Nat) {i j : Nat} (hij : i < j) (hj : j < (elems s).length) : (elems s).getD i 0 < (elems s).getD j 0 := by
  have hp : List.Pairwise (· < ·) (elems s) := (List.pairwise_lt_range).filter _
  have := List.pairwise_iff_getElem.1 hp i j (by omega) hj hij
  have a : (elems s).getD i 0 = (elems s)[i] := by simp [show i < (elems s).length by omega]
  have b : (elems s).getD j 0 = (elems s)[j] := by simp [hj]
  rw [a, b]; exact this
theorem elems_mem (s : Nat) {i : Nat} (h : i < (elems s).length) : (elems s).getD i 0 < 8 ∧ s.testBit ((elems s).getD i 0) = true := by
  have : (elems s).getD i 0 = (elems s)[i] := by simp [h]
  rw [this]
  exact mem_elems.1 (List.getElem_mem h)
theorem elems_at {s d : Nat} (hd : d < 8) (h : s.testBit d = true) : ∃ j, j < (elems s).length ∧ (elems s).getD j 0 = d ∧ ∀ i, i < j → (elems s).getD i 0 < d := by
  obtain ⟨j, hj, e⟩ := List.getElem_of_mem (mem_elems.2 ⟨hd, h⟩)
  have e2 : (elems s).getD j 0 = d := by simp [hj, e]
  exact ⟨j, hj, e2, fun i hi => by rw [← e2]; exact elems_rise s hi hj⟩

end Go.Proofs.Ytdcdhdlklppalaa

namespace Go.Proofs.Ytdcdhdlklppalaa
open Go.RowKit
set_option linter.unusedVariables false

/-- append of one number at a step of a region that draws its order -/
theorem step_push {B : Nat} {W w : World} (hw : Below B W w) (hB : B ≤ w.heap.size) {ops : Array Oper} {o : Oper} {a : Act} {K : Act → World → Prop} {Q : Exit → Act → World → Prop} {E : Prop} (hgd : o.guard = none) (s x : Operand)
    (ho : o.op = .call { callee := .builtin .append, args := #[s, x], argTypes := #[22, 22] })
    (xs : List Int) (ad : Option Addr) (cap : Nat) (y : Int) (hs : a.eval s = .slice ad xs.length cap) (hown : Own B w ad cap xs)
    (hx : a.eval x = .slice (some ⟨w.heap.size, 0, none⟩) 1 1)
    (hlen : xs.length + 1 ≤ 1099511627776)
    (h : ∀ (u' : Later B W) (ad' : Option Addr) (cap' : Nat), Own B u'.val ad' cap' (xs ++ [y]) → K (a.put o.dst (.slice ad' (xs ++ [y]).length cap')) u'.val) :
    if Region.wanted o (yielded ops a.tmps) = true then Oper.wp Try.prog o a (w.alloc (.cells #[.int .i64 y] 3)) K Q else E := by
  obtain ⟨i0, hi, hz0, hz1, hz2⟩ := info_parts info_int
  refine step_append_lies _ hgd s x 22 ho B 3 i0 (.int .i64 0) 1 8 Try.underlying22 hi hz0 hz1 hz2 rfl (by decide) _ xs.length _ hs (hown.alloc _) ⟨w.heap.size, 0, none⟩ 1 1 [.int .i64 y] hx rfl ?_ ?_ (by decide) (by unfold maxLen; omega) (by omega) (by simp; omega) _ rfl ?_
  · intro j v hj
    have hj0 : j = 0 := by
      have := (List.getElem?_eq_some_iff.1 hj).1
      simp at this
      omega
    subst hj0
    have e : (⟨w.heap.size, 0, none⟩ : Addr).add 0 = ⟨w.heap.size, 0, none⟩ := by unfold Addr.add; split <;> simp_all
    rw [e]
    simp at hj
    subst hj
    exact cell_one_new w (.int .i64 y) 3 0 _ rfl
  · intro v hv
    simp at hv
    subst hv
    rfl
  · intro g cap' w' h2 h3 _ _
    have hO : Own B w' (some ⟨g, 0, none⟩) cap' (xs ++ [y]) := by
      show w'.ownsRow B 3 1 (.slice (some ⟨g, 0, none⟩) (xs ++ [y]).length cap') (xs ++ [y]).length _
      rw [List.length_append]
      simpa using h2
    have := h ⟨w', own_below (hw.alloc hB _) (by simp; omega) (hown.alloc _) h3, by have := h3.size; simp at this; omega⟩ (some ⟨g, 0, none⟩) cap' hO
    rw [List.length_append] at this
    exact this

end Go.Proofs.Ytdcdhdlklppalaa
