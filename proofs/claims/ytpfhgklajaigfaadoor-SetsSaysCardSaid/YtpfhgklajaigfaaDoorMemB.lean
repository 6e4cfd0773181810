
/-
  Rows of bytes that a call makes itself; a row of bytes as a text.
-/
import Derived.Test.YtpfhgklajaigfaaDoorMem
import Derived.Laws.BytesArg
namespace Go.Proofs.YtpfhgklajaigfaaDoor
open Go.RowKit
set_option linter.unusedVariables false

theorem info_u8 : (Tryd.prog.info? 5).map (fun i => (i.zero, i.size, i.bytes)) = some (some (.int .u8 0), 1, 1) := by kernel_rfl
/-- a row of bytes that the call owns -/
def OwnB (B : Nat) (w : World) (ad : Option Addr) (cap : Nat) (xs : List Int) : Prop := w.ownsRow B 5 1 (.slice ad xs.length cap) xs.length (xs.map (Value.int .u8))
theorem OwnB.nil (B : Nat) (w : World) : OwnB B w none 0 [] := World.ownsRow_nil w B 5 1
theorem OwnB.alloc {B : Nat} {w : World} {ad : Option Addr} {cap : Nat} {xs : List Int} (h : OwnB B w ad cap xs) (o : Obj) : OwnB B (w.alloc o) ad cap xs := World.ownsRow.alloc h o
theorem ownB_below {B : Nat} {W w w' : World} {ad : Option Addr} {cap : Nat} {xs : List Int} (u : Below B W w) (hB : B ≤ w.heap.size) (hown : OwnB B w ad cap xs) (hg : w.grownBy w' (Value.slice ad xs.length cap).ownBlock) : Below B W w' :=
  u.grown hg hB (fun k hk => (World.ownsRow.lt hown k hk).1)

/-- append of one byte to a row of the call's own -/
theorem wpList_pushB {B : Nat} {W w : World} (hw : Below B W w) (hB : B ≤ w.heap.size) {ops : Array Oper} {rest : List Oper} {o : Oper} {a : Act} {Q : Exit → Act → World → Prop} (hgd : o.guard = none) (s x : Operand)
    (ho : o.op = .call { callee := .builtin .append, args := #[s, x], argTypes := #[38, 38] })
    (xs : List Int) (ad : Option Addr) (cap : Nat) (y : Int) (hs : a.eval s = .slice ad xs.length cap) (hown : OwnB B w ad cap xs)
    (hx : a.eval x = .slice (some ⟨w.heap.size, 0, none⟩) 1 1)
    (hlen : xs.length + 1 ≤ 17592186044416)
    (h : ∀ (u' : Later B W) (ad' : Option Addr) (cap' : Nat), OwnB B u'.val ad' cap' (xs ++ [y]) → wpList Tryd.prog ops Q rest (a.put o.dst (.slice ad' (xs ++ [y]).length cap')) u'.val) :
    wpList Tryd.prog ops Q (o :: rest) a (w.alloc (.cells #[.int .u8 y] 5)) := by
  obtain ⟨i0, hi, hz0, hz1, hz2⟩ := info_parts info_u8
  refine wpList_append_own (w.alloc (.cells #[.int .u8 y] 5)) hgd s x 38 ho B 5 i0 (.int .u8 0) 1 1 Tryd.underlying38 hi hz0 hz1 hz2 rfl (by decide) _ xs.length _ hs (hown.alloc _) ⟨w.heap.size, 0, none⟩ 1 1 [.int .u8 y] hx (by simp) ?_ ?_ ?_ ?_ (by simp; omega) ?_
  · intro j v hj
    have hj0 : j = 0 := by
      have := (List.getElem?_eq_some_iff.1 hj).1
      simp at this; exact this
    subst hj0
    simp at hj
    subst hj
    exact cell_one_new w (.int .u8 y) 5 0 _ rfl
  · intro v hv
    simp at hv
    subst hv
    rfl
  · unfold maxLen; omega
  · omega
  · intro v' w' h1 h2 _
    have hb : Below B W w' := ownB_below (hw.alloc hB _) (by simp; omega) (hown.alloc _) h2
    have hs' : B ≤ w'.heap.size := by have := h2.size; simp at this; omega
    have h1' : w'.ownsRow B 5 1 v' (xs ++ [y]).length ((xs ++ [y]).map (Value.int .u8)) := by simpa using h1
    rcases h1'.2 with ⟨e, hn⟩ | ⟨g, c', cur, e, _⟩
    · simp at hn
    · subst e
      exact h ⟨w', hb, hs'⟩ (some ⟨g, 0, none⟩) c' h1'

/-- a row of bytes as a text -/
theorem run_text {B : Nat} {w : World} {ad : Option Addr} {cap : Nat} {xs : List Int} (h : OwnB B w ad cap xs) (dst : TypeId) (hd : Tryd.prog.underlying dst = some .string) : (convert 38 dst (.slice ad xs.length cap)).run Tryd.prog w = .ok (.string (strOfNums xs)) w := by
  have he : Tryd.prog.underlying 5 = some (.int .u8) := by kernel_rfl
  have hcells := fun g hg => h.cells (g := g) hg
  rcases h.2 with ⟨e, hn⟩ | ⟨g, c', cur, e, _⟩
  · have hnil : xs = [] := List.length_eq_zero_iff.1 hn
    subst hnil
    simp only [Value.slice.injEq] at e
    obtain ⟨rfl, _, rfl⟩ := e
    exact run_convert_bytes_nil w 38 5 Tryd.underlying38 he 0 0 dst hd
  · simp only [Value.slice.injEq] at e
    obtain ⟨rfl, _, rfl⟩ := e
    refine run_convert_bytes_arg w 38 5 Tryd.underlying38 he g 0 xs.length cap xs rfl (fun i hi => ?_) dst hd
    have := hcells g rfl i (.int .u8 (xs.getD i 0)) (by simp [hi])
    have e2 : (⟨g, 0, none⟩ : Addr).add i = ⟨g, 0 + i, none⟩ := by unfold Addr.add; split <;> simp_all
    rw [← e2]; exact this

end Go.Proofs.YtpfhgklajaigfaaDoor
