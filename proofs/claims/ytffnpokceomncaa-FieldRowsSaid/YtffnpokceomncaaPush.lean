
/-
  append of one number at a step of a region that draws its order.
-/
import Derived.Test.YtffnpokceomncaaMem
import Derived.Deep.AppendLies
import Derived.Deep.RegionLaw
namespace Go.Proofs.Ytffnpokceomncaa
open Go.RowKit
set_option linter.unusedVariables false

/-- append of one number at a step of a region that draws its order -/
theorem step_push {B : Nat} {W w : World} (hw : Below B W w) (hB : B ≤ w.heap.size) {ops : Array Oper} {o : Oper} {a : Act} {K : Act → World → Prop} {Q : Exit → Act → World → Prop} {E : Prop} (hgd : o.guard = none) (s x : Operand)
    (ho : o.op = .call { callee := .builtin .append, args := #[s, x], argTypes := #[35, 35] })
    (xs : List Int) (ad : Option Addr) (cap : Nat) (y : Int) (hs : a.eval s = .slice ad xs.length cap) (hown : Own B w ad cap xs)
    (hx : a.eval x = .slice (some ⟨w.heap.size, 0, none⟩) 1 1)
    (hlen : xs.length + 1 ≤ 1099511627776)
    (h : ∀ (u' : Later B W) (ad' : Option Addr) (cap' : Nat), Own B u'.val ad' cap' (xs ++ [y]) → K (a.put o.dst (.slice ad' (xs ++ [y]).length cap')) u'.val) :
    if Region.wanted o (yielded ops a.tmps) = true then Oper.wp Try.prog o a (w.alloc (.cells #[.int .i64 y] 3)) K Q else E := by
  obtain ⟨i0, hi, hz0, hz1, hz2⟩ := info_parts info_int
  refine step_append_lies _ hgd s x 35 ho B 3 i0 (.int .i64 0) 1 8 Try.underlying35 hi hz0 hz1 hz2 rfl (by decide) _ xs.length _ hs (hown.alloc _) ⟨w.heap.size, 0, none⟩ 1 1 [.int .i64 y] hx rfl ?_ ?_ (by decide) (by unfold maxLen; omega) (by omega) (by simp; omega) _ rfl ?_
  · intro j v hj
    have hj0 : j = 0 := by
      have := (List.getElem?_eq_some_iff.1 hj).1
      simp at this
      omega
    subst hj0
    have e : (⟨w.heap.size, 0, none⟩ : Addr).add 0 = ⟨w.heap.size, 0, none⟩ := by unfold Addr.add; split <;> simp_all
    rw [e]
    simp at hj
    subst hj
    exact cell_one_new w (.int .i64 y) 3 0 _ rfl
  · intro v hv
    simp at hv
    subst hv
    rfl
  · intro g cap' w' h2 h3 _ _
    have hO : Own B w' (some ⟨g, 0, none⟩) cap' (xs ++ [y]) := by
      show w'.ownsRow B 3 1 (.slice (some ⟨g, 0, none⟩) (xs ++ [y]).length cap') (xs ++ [y]).length _
      rw [List.length_append]
      simpa using h2
    have := h ⟨w', own_below (hw.alloc hB _) (by simp; omega) (hown.alloc _) h3, by have := h3.size; simp at this; omega⟩ (some ⟨g, 0, none⟩) cap' hO
    rw [List.length_append] at this
    exact this

end Go.Proofs.Ytffnpokceomncaa
