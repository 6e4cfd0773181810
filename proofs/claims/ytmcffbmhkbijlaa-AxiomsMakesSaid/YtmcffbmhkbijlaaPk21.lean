
/-
  append of one number at a step of a region that draws its order.
  rotaref.Unbroken, Above, Chains.
  Boxes that a drawing region makes in whatever order: rules by which a walk knows their cells.
-/
import Derived.Test.YtmcffbmhkbijlaaPk02
import Derived.Deep.AppendLies
import Derived.Deep.RegionLaw
import Derived.Test.YtmcffbmhkbijlaaPk18
import Derived.Test.YtmcffbmhkbijlaaPk20
import Derived.Test.YtmcffbmhkbijlaaPk14
import Derived.Test.YtmcffbmhkbijlaaPk16
namespace Go.Proofs.Ytmcffbmhkbijlaa
open Go.RowKit
set_option linter.unusedVariables false

/-- append of one number at a step of a region that draws its order -/
theorem step_push {B : Nat} {W w : World} (hw : Below B W w) (hB : B ≤ w.heap.size) {ops : Array Oper} {o : Oper} {a : Act} {K : Act → World → Prop} {Q : Exit → Act → World → Prop} {E : Prop} (hgd : o.guard = none) (s x : Operand)
    (ho : o.op = .call { callee := .builtin .append, args := #[s, x], argTypes := #[22, 22] })
    (xs : List Int) (ad : Option Addr) (cap : Nat) (y : Int) (hs : a.eval s = .slice ad xs.length cap) (hown : Own B w ad cap xs)
    (hx : a.eval x = .slice (some ⟨w.heap.size, 0, none⟩) 1 1)
    (hlen : xs.length + 1 ≤ 1099511627776)
    (h : ∀ (u' : Later B W) (ad' : Option Addr) (cap' : Nat), Own B u'.val ad' cap' (xs ++ [y]) → K (a.put o.dst (.slice ad' (xs ++ [y]).length cap')) u'.val) :
    if Region.wanted o (yielded ops a.tmps) = true then Oper.wp Try.prog o a (w.alloc (.cells #[.int .i64 y] 3)) K Q else E := by
  obtain ⟨i0, hi, hz0, hz1, hz2⟩ := info_parts info_int
  refine step_append_lies _ hgd s x 22 ho B 3 i0 (.int .i64 0) 1 8 Try.underlying22 hi hz0 hz1 hz2 rfl (by decide) _ xs.length _ hs (hown.alloc _) ⟨w.heap.size, 0, none⟩ 1 1 [.int .i64 y] hx rfl ?_ ?_ (by decide) (by unfold maxLen; omega) (by omega) (by simp; omega) _ rfl ?_
  · intro j v hj
    have hj0 : j = 0 := by
      have := (List.getElem?_eq_some_iff.1 hj).1
      simp at this
      omega
    subst hj0
    have e : (⟨w.heap.size, 0, none⟩ : Addr).add 0 = ⟨w.heap.size, 0, none⟩ := by unfold Addr.add; split <;> simp_all
    rw [e]
    simp at hj
    subst hj
    exact cell_one_new w (.int .i64 y) 3 0 _ rfl
  · intro v hv
    simp at hv
    subst hv
    rfl
  · intro g cap' w' h2 h3 _ _
    have hO : Own B w' (some ⟨g, 0, none⟩) cap' (xs ++ [y]) := by
      show w'.ownsRow B 3 1 (.slice (some ⟨g, 0, none⟩) (xs ++ [y]).length cap') (xs ++ [y]).length _
      rw [List.length_append]
      simpa using h2
    have := h ⟨w', own_below (hw.alloc hB _) (by simp; omega) (hown.alloc _) h3, by have := h3.size; simp at this; omega⟩ (some ⟨g, 0, none⟩) cap' hO
    rw [List.length_append] at this
    exact this

end Go.Proofs.Ytmcffbmhkbijlaa

namespace Go.Proofs.Ytmcffbmhkbijlaa
open Go.RowKit
set_option linter.unusedVariables false

theorem RowAt1.set {w : World} {g : Nat} {t : TypeId} {v : Value} (h : RowAt1 w g t v) (x : Value) : RowAt1 (w.setCell ⟨g, 0, none⟩ x) g t x := by
  have h' : w.heap[g]? = _ := h
  simp only [RowAt1, World.setCell, Array.getElem?_modify, h']
  simp
theorem RowAt1.fz {w : World} {g : Nat} {t : TypeId} {v : Value} (h : RowAt1 w g t v) : w.frozen? ⟨g, 0, none⟩ = false := by
  have h' : w.heap[g]? = _ := h
  unfold World.frozen?
  rw [h']; simp

end Go.Proofs.Ytmcffbmhkbijlaa

namespace Go.Proofs.Ytmcffbmhkbijlaa
open Go.RowKit
set_option linter.unusedVariables false

/-- a world later than Y, without a name of its own -/
def Bel (Y w : World) : Prop := Below Y.heap.size Y w ∧ Y.heap.size ≤ w.heap.size
theorem Bel.of {Y : World} (v : Later Y.heap.size Y) : Bel Y v.val := ⟨v.below, v.size⟩
theorem Bel.up {Y w : World} (h : Bel Y w) (v : Later w.heap.size w) : Bel Y v.val := ⟨h.1.trans (v.below.mono h.2), Nat.le_trans h.2 v.size⟩
theorem Bel.alloc {Y w : World} (h : Bel Y w) (o : Obj) : Bel Y (w.alloc o) := ⟨h.1.alloc h.2 o, by simp; have := h.2; omega⟩
theorem Bel.drew {Y w : World} (h : Bel Y w) : Bel Y w.drew := ⟨h.1.drew, h.2⟩
theorem Bel.set {Y w : World} (h : Bel Y w) {a : Addr} (hs : Y.heap.size ≤ a.block) (x : Value) : Bel Y (w.setCell a x) := ⟨h.1.setCell hs x, by simp; exact h.2⟩
theorem Bel.sz {Y w : World} (h : Bel Y w) : Y.heap.size ≤ w.heap.size := h.2
theorem Bel.later {Y w : World} (h : Bel Y w) : ∃ v : Later Y.heap.size Y, v.val = w := ⟨⟨w, h.1, h.2⟩, rfl⟩

/-- a box of one cell -/
def RB (t : TypeId) (v : Value) (w : World) (g : Nat) : Prop := RowAt1 w g t v
section
variable {t : TypeId} {v : Value} {w : World} {g : Nat}
theorem RB.cell (h : RB t v w g) : w.cell? ⟨g, 0, none⟩ = some v := h.c0
theorem RB.fz (h : RB t v w g) : w.frozen? ⟨g, 0, none⟩ = false := RowAt1.fz h
theorem RB.new (t : TypeId) (v : Value) (w : World) : RB t v (w.alloc (.cells #[v] t)) w.heap.size := RowAt1.new w t v
theorem RB.new2 (t : TypeId) (v : Value) (w : World) (o : Obj) : RB t v ((w.alloc o).alloc (.cells #[v] t)) (w.heap.size + 1) := by
  have h := RowAt1.new (w.alloc o) t v
  have e : (w.alloc o).heap.size = w.heap.size + 1 := by simp
  rw [e] at h
  exact h
theorem RB.alloc (h : RB t v w g) (o : Obj) : RB t v (w.alloc o) g := RowAt1.keep h ((Below.refl _ _).alloc (Nat.le_refl _) _)
theorem RB.drew (h : RB t v w g) : RB t v w.drew g := h
theorem RB.up (h : RB t v w g) (y : Later w.heap.size w) : RB t v y.val g := RowAt1.keep h y.below
theorem RB.set {g' : Nat} (h : RB t v w g) (hne : g' ≠ g) (x : Value) : RB t v (w.setCell ⟨g', 0, none⟩ x) g := by
  have h' : w.heap[g]? = _ := h
  simp only [RB, RowAt1, World.setCell, Array.getElem?_modify, h']
  simp [hne]
theorem RB.same (h : RB t v w g) (x : Value) : RB t x (w.setCell ⟨g, 0, none⟩ x) g := RowAt1.set h x
theorem RB.ne (h : RB t v w g) (y : Later w.heap.size w) : (g = y.val.heap.size) = False := by
  have h1 := RowAt1.lt h
  have h2 := y.size
  rw [eq_iff_iff, iff_false]; omega
theorem RB.ne' (h : RB t v w g) (y : Later w.heap.size w) : (y.val.heap.size = g) = False := by
  have h1 := RowAt1.lt h
  have h2 := y.size
  rw [eq_iff_iff, iff_false]; omega
theorem RB.ne1 (h : RB t v w g) (y : Later w.heap.size w) : (y.val.heap.size + 1 = g) = False := by
  have h1 := RowAt1.lt h
  have h2 := y.size
  rw [eq_iff_iff, iff_false]; omega
theorem ITab.rbset {tb n : Nat} {f : Nat → Int} (hT : ITab w tb n f) (hn : 0 < n) {x : Value} (h : RB t (.slice none 0 0) w g) : ITab (w.setCell ⟨g, 0, none⟩ x) tb n f := by
  refine hT.other (fun e => ?_) x
  subst e
  have h1 := hT.cell hn
  rw [RB.cell h] at h1
  cases h1
theorem ITab.allocI {tb n : Nat} {f : Nat → Int} (hT : ITab w tb n f) (o : Obj) : ITab (w.alloc o) tb n f := hT.keep ((Below.refl _ _).alloc (Nat.le_refl _) _)
theorem ITab.drewI {tb n : Nat} {f : Nat → Int} (hT : ITab w tb n f) : ITab w.drew tb n f := hT
theorem ITab.upI {tb n : Nat} {f : Nat → Int} (hT : ITab w tb n f) (y : Later w.heap.size w) : ITab y.val tb n f := hT.keep y.below
end

/-- two boxes, in which tables lie -/
def TwoBox (Y : World) (n1 n2 : Nat) (f1 f2 : Nat → Int) (x y : Value) (w : World) : Prop :=
  ∃ (g1 g2 t1 t2 c1 c2 : Nat) (v : Later Y.heap.size Y), x = .pointer (some ⟨g1, 0, none⟩) ∧ y = .pointer (some ⟨g2, 0, none⟩) ∧ w = v.val ∧ RB 22 (.slice (some ⟨t1, 0, none⟩) n1 c1) v.val g1 ∧ RB 22 (.slice (some ⟨t2, 0, none⟩) n2 c2) v.val g2 ∧ ITab v.val t1 n1 f1 ∧ ITab v.val t2 n2 f2
theorem TwoBox.mk {Y w : World} {n1 n2 t1 t2 c1 c2 g1 g2 : Nat} {f1 f2 : Nat → Int} (h : Bel Y w) (h1 : RB 22 (.slice (some ⟨t1, 0, none⟩) n1 c1) w g1) (h2 : RB 22 (.slice (some ⟨t2, 0, none⟩) n2 c2) w g2) (i1 : ITab w t1 n1 f1) (i2 : ITab w t2 n2 f2) : TwoBox Y n1 n2 f1 f2 (.pointer (some ⟨g1, 0, none⟩)) (.pointer (some ⟨g2, 0, none⟩)) w := by
  obtain ⟨v, rfl⟩ := h.later
  exact ⟨g1, g2, t1, t2, c1, c2, v, rfl, rfl, rfl, h1, h2, i1, i2⟩

end Go.Proofs.Ytmcffbmhkbijlaa
