
/-
  append of one number at a step of a region that draws its order.
  A captured list of lists that is appended to and cut; worlds that differ in its cell and its own block alone.
-/
import Derived.Test.YtnhpefcjgaimeaaPk02
import Derived.Deep.AppendLies
import Derived.Deep.RegionLaw
import Derived.Test.YtnhpefcjgaimeaaPk15
import Derived.Test.YtnhpefcjgaimeaaPk20
namespace Go.Proofs.Ytnhpefcjgaimeaa
open Go.RowKit
set_option linter.unusedVariables false

/-- append of one number at a step of a region that draws its order -/
theorem step_push {B : Nat} {W w : World} (hw : Below B W w) (hB : B ≤ w.heap.size) {ops : Array Oper} {o : Oper} {a : Act} {K : Act → World → Prop} {Q : Exit → Act → World → Prop} {E : Prop} (hgd : o.guard = none) (s x : Operand)
    (ho : o.op = .call { callee := .builtin .append, args := #[s, x], argTypes := #[43, 43] })
    (xs : List Int) (ad : Option Addr) (cap : Nat) (y : Int) (hs : a.eval s = .slice ad xs.length cap) (hown : Own B w ad cap xs)
    (hx : a.eval x = .slice (some ⟨w.heap.size, 0, none⟩) 1 1)
    (hlen : xs.length + 1 ≤ 1099511627776)
    (h : ∀ (u' : Later B W) (ad' : Option Addr) (cap' : Nat), Own B u'.val ad' cap' (xs ++ [y]) → K (a.put o.dst (.slice ad' (xs ++ [y]).length cap')) u'.val) :
    if Region.wanted o (yielded ops a.tmps) = true then Oper.wp Try.prog o a (w.alloc (.cells #[.int .i64 y] 3)) K Q else E := by
  obtain ⟨i0, hi, hz0, hz1, hz2⟩ := info_parts info_int
  refine step_append_lies _ hgd s x 43 ho B 3 i0 (.int .i64 0) 1 8 Try.underlying43 hi hz0 hz1 hz2 rfl (by decide) _ xs.length _ hs (hown.alloc _) ⟨w.heap.size, 0, none⟩ 1 1 [.int .i64 y] hx rfl ?_ ?_ (by decide) (by unfold maxLen; omega) (by omega) (by simp; omega) _ rfl ?_
  · intro j v hj
    have hj0 : j = 0 := by
      have := (List.getElem?_eq_some_iff.1 hj).1
      simp at this
      omega
    subst hj0
    have e : (⟨w.heap.size, 0, none⟩ : Addr).add 0 = ⟨w.heap.size, 0, none⟩ := by unfold Addr.add; split <;> simp_all
    rw [e]
    simp at hj
    subst hj
    exact cell_one_new w (.int .i64 y) 3 0 _ rfl
  · intro v hv
    simp at hv
    subst hv
    rfl
  · intro g cap' w' h2 h3 _ _
    have hO : Own B w' (some ⟨g, 0, none⟩) cap' (xs ++ [y]) := by
      show w'.ownsRow B 3 1 (.slice (some ⟨g, 0, none⟩) (xs ++ [y]).length cap') (xs ++ [y]).length _
      rw [List.length_append]
      simpa using h2
    have := h ⟨w', own_below (hw.alloc hB _) (by simp; omega) (hown.alloc _) h3, by have := h3.size; simp at this; omega⟩ (some ⟨g, 0, none⟩) cap' hO
    rw [List.length_append] at this
    exact this

end Go.Proofs.Ytnhpefcjgaimeaa

namespace Go.Proofs.Ytnhpefcjgaimeaa
open Go.RowKit
set_option linter.unusedVariables false

/-- worlds that agree but for block b, block o and new ones -/
structure Kept (b : Nat) (o : Option Nat) (w w' : World) : Prop where
  os : w'.os = w.os
  tape : w'.tape = w.tape
  output : w'.output = w.output
  size : w.heap.size ≤ w'.heap.size
  block : ∀ k, k < w.heap.size → k ≠ b → o ≠ some k → w'.heap[k]? = w.heap[k]?
/-- the own block is the old one, or new -/
def NewB (w : World) (o o' : Option Nat) : Prop := o' = o ∨ ∃ g, o' = some g ∧ w.heap.size ≤ g
theorem Kept.refl (b : Nat) (o : Option Nat) (w : World) : Kept b o w w := ⟨rfl, rfl, rfl, Nat.le_refl _, fun _ _ _ _ => rfl⟩
theorem Kept.of {b : Nat} {o : Option Nat} {w w' : World} (h : Below w.heap.size w w') : Kept b o w w' := ⟨h.os, h.tape, h.output, h.size, fun k hk _ _ => h.block k hk⟩
theorem NewB.refl (w : World) (o : Option Nat) : NewB w o o := .inl rfl
theorem NewB.trans {w w1 : World} {o o1 o2 : Option Nat} (hs : w.heap.size ≤ w1.heap.size) (h : NewB w o o1) (g : NewB w1 o1 o2) : NewB w o o2 := by
  rcases g with rfl | ⟨x, rfl, hx⟩
  · exact h
  · exact .inr ⟨x, rfl, by omega⟩
theorem Kept.trans {b : Nat} {o o1 : Option Nat} {w w1 w2 : World} (h : Kept b o w w1) (hn : NewB w o o1) (g : Kept b o1 w1 w2) : Kept b o w w2 :=
  ⟨g.os.trans h.os, g.tape.trans h.tape, g.output.trans h.output, Nat.le_trans h.size g.size, fun k hk hb ho => by
    rw [g.block k (Nat.lt_of_lt_of_le hk h.size) hb (fun e => ?_)]
    · exact h.block k hk hb ho
    · rcases hn with e2 | ⟨x, e2, hx⟩
      · exact ho (e2 ▸ e)
      · rw [e2] at e
        have : x = k := by simpa using e
        omega⟩
theorem Kept.cell {b : Nat} {o : Option Nat} {w w' : World} (h : Kept b o w w') {a : Addr} (h1 : a.block < w.heap.size) (h2 : a.block ≠ b) (h3 : o ≠ some a.block) : w'.cell? a = w.cell? a := World.cell?_of_block (w := w) (h.block a.block h1 h2 h3)
/-- seen from below -/
theorem Kept.below {b B : Nat} {o : Option Nat} {w w' : World} (h : Kept b o w w') (h0 : B ≤ w.heap.size) (h1 : B ≤ b) (h2 : ∀ g, o = some g → B ≤ g) : Below B w w' :=
  ⟨h.os, h.tape, h.output, h.size, fun k hk => h.block k (by omega) (by omega) (fun e => by have := h2 k e; omega)⟩

def ownBlk (ad : Option Addr) : Option Nat := ad.map (·.block)
/-- a list that none of these blocks holds -/
structure RowV (w : World) (b : Nat) (o : Option Nat) (row : List Nat) (ad : Option Addr) (cp : Nat) : Prop where
  nil : ad = none → cp = 0
  ints : IntsAt w.heap.size w ad (ints row)
  off : ∀ a, ad = some a → a.block < w.heap.size ∧ a.block ≠ b ∧ o ≠ some a.block
theorem RowV.kept {w w' : World} {b : Nat} {o o' : Option Nat} {row : List Nat} {ad : Option Addr} {cp : Nat} (h : RowV w b o row ad cp) (k : Kept b o w w') (hn : NewB w o o') : RowV w' b o' row ad cp where
  nil := h.nil
  ints := fun hne => by
    obtain ⟨g, off, rfl, hlt, hc⟩ := h.ints hne
    obtain ⟨h1, h2, h3⟩ := h.off _ rfl
    refine ⟨g, off, rfl, Nat.lt_of_lt_of_le hlt k.size, fun i hi => ?_⟩
    rw [k.cell (a := ⟨g, off + i, none⟩) h1 h2 h3]
    exact hc i hi
  off := fun a ha => by
    obtain ⟨h1, h2, h3⟩ := h.off a ha
    refine ⟨Nat.lt_of_lt_of_le h1 k.size, h2, ?_⟩
    rcases hn with rfl | ⟨x, rfl, hx⟩
    · exact h3
    · intro e
      have : x = a.block := by simpa using e
      omega

/-- the captured list of lists -/
def OutW (B b : Nat) (w : World) (ad : Option Addr) (cp : Nat) (rows : Rws) : Prop :=
  b < B ∧ B ≤ w.heap.size ∧ RowAt1 w b 29 (.slice ad rows.length cp) ∧ ∃ vs, w.ownsRow B 43 1 (.slice ad rows.length cp) rows.length vs ∧ ∀ i, i < rows.length → ∃ ad' cp', vs[i]? = some (.slice ad' (ints (rows.getD i [])).length cp') ∧ RowV w b (ownBlk ad) (rows.getD i []) ad' cp'
theorem OutW.blk {B b : Nat} {w : World} {ad : Option Addr} {cp : Nat} {rows : Rws} (h : OutW B b w ad cp rows) : ∀ g, ownBlk ad = some g → B ≤ g ∧ g < w.heap.size ∧ g ≠ b := fun g hg => by
  obtain ⟨hb, hB, hr, vs, ho, _⟩ := h
  cases ad with
  | none => cases hg
  | some a =>
    have hgb : a.block = g := by simpa [ownBlk] using hg
    rcases ho.2 with ⟨e, _⟩ | ⟨g', c, cur, e, hb', hh, _⟩
    · cases e
    · simp only [Value.slice.injEq, Option.some.injEq] at e
      have e1 := e.1
      subst e1
      have : g' < w.heap.size := (Array.getElem?_eq_some_iff.1 hh).1
      simp only at hgb
      omega
theorem OutW.keep {B b : Nat} {w w' : World} {ad : Option Addr} {cp : Nat} {rows : Rws} (h : OutW B b w ad cp rows) (hb : Below w.heap.size w w') : OutW B b w' ad cp rows := by
  obtain ⟨h1, h2, h3, vs, h4, h5⟩ := h
  refine ⟨h1, Nat.le_trans h2 hb.size, h3.keep hb, vs, ?_, fun i hi => ?_⟩
  · exact World.ownsRow.kept (row := none) h4 ⟨hb.os, hb.tape, hb.output, hb.size, fun k hk _ => hb.block k hk⟩ (by cases (Value.slice ad rows.length cp).ownBlock <;> simp)
  · obtain ⟨ad', cp', e, r⟩ := h5 i hi
    exact ⟨ad', cp', e, r.kept (Kept.of hb) (NewB.refl _ _)⟩
theorem OutW.start {b : Nat} {w : World} (hb : b < w.heap.size) (h : RowAt1 w b 29 (.slice none 0 0)) : OutW w.heap.size b w none 0 [] :=
  ⟨hb, Nat.le_refl _, h, [], World.ownsRow_nil _ _ _ _, fun i hi => by simp at hi⟩
theorem getD_rows_lt {rows : Rws} {r : List Nat} {i : Nat} (h : i < rows.length) : (rows ++ [r]).getD i [] = rows.getD i [] := by
  rw [List.getD_eq_getElem?_getD, List.getD_eq_getElem?_getD, List.getElem?_append_left h]
theorem getD_rows_eq (rows : Rws) (r : List Nat) : (rows ++ [r]).getD rows.length [] = r := by
  rw [List.getD_eq_getElem?_getD, List.getElem?_append_right (Nat.le_refl _)]; simp

/-- a world in which one list more lies behind the others; its cell is still the old one -/
structure PushW (B b : Nat) (w : World) (ad : Option Addr) (cp : Nat) (rows : Rws) (row : List Nat) where
  val : World
  g : Nat
  cp' : Nat
  kept : Kept b (ownBlk ad) w val
  cell : RowAt1 val b 29 (.slice ad rows.length cp)
  new : NewB w (ownBlk ad) (some g)
  out : OutW B b (val.setCell ⟨b, 0, none⟩ (.slice (some ⟨g, 0, none⟩) (rows.length + 1) cp')) (some ⟨g, 0, none⟩) cp' (rows ++ [row])
theorem PushW.all {B b : Nat} {w : World} {ad : Option Addr} {cp : Nat} {rows : Rws} {row : List Nat} (p : PushW B b w ad cp rows row) (x : Value) : Kept b (ownBlk ad) w (p.val.setCell ⟨b, 0, none⟩ x) :=
  ⟨p.kept.os, p.kept.tape, p.kept.output, by simpa using p.kept.size, fun k hk hb ho => (Below.heap_setCell _ _ _ _ hb).trans (p.kept.block k hk hb ho)⟩

/-- append of one list, at a step of a region that draws its order -/
theorem step_pushW {B b : Nat} {w : World} {ad : Option Addr} {cp : Nat} {rows : Rws} (hO : OutW B b w ad cp rows) {row : List Nat} {ar : Option Addr} {cr : Nat} (hR : RowV w b (ownBlk ad) row ar cr)
    {ops : Array Oper} {o : Oper} {a : Act} {K : Act → World → Prop} {Q : Exit → Act → World → Prop} {E : Prop} (hgd : o.guard = none) (s x : Operand)
    (ho : o.op = .call { callee := .builtin .append, args := #[s, x], argTypes := #[29, 29] })
    (hs : a.eval s = .slice ad rows.length cp) (hx : a.eval x = .slice (some ⟨w.heap.size, 0, none⟩) 1 1)
    (hlen : rows.length + 1 ≤ 4294967296)
    (h : ∀ p : PushW B b w ad cp rows row, K (a.put o.dst (.slice (some ⟨p.g, 0, none⟩) (rows.length + 1) p.cp')) p.val) :
    if Region.wanted o (yielded ops a.tmps) = true then Oper.wp Try.prog o a (w.alloc (.cells #[.slice ar (ints row).length cr] 43)) K Q else E := by
  obtain ⟨hbB, hBw, hcell, vs, hown, hrows⟩ := hO
  have hOw : OutW B b w ad cp rows := ⟨hbB, hBw, hcell, vs, hown, hrows⟩
  obtain ⟨i0, hi, hz0, hz1, hz2⟩ := info_parts info_row
  refine step_append_lies _ hgd s x 29 ho B 43 i0 (.slice none 0 0) 1 24 Try.underlying29 hi hz0 hz1 hz2 rfl (by decide) _ rows.length vs hs (World.ownsRow.alloc hown _) ⟨w.heap.size, 0, none⟩ 1 1 [.slice ar (ints row).length cr] hx rfl ?_ ?_ (by decide) (by unfold maxLen; omega) (by omega) (by simp; omega) _ rfl ?_
  · intro j v hj
    have hj0 : j = 0 := by
      have := (List.getElem?_eq_some_iff.1 hj).1
      simp at this
      omega
    subst hj0
    have e : (⟨w.heap.size, 0, none⟩ : Addr).add 0 = ⟨w.heap.size, 0, none⟩ := by unfold Addr.add; split <;> simp_all
    rw [e]
    simp at hj
    subst hj
    exact cell_one_new w _ 43 0 _ rfl
  · intro v hv
    simp at hv
    subst hv
    rfl
  · intro g cap' w' h2 h3 h4 h5
    have hal : Below w.heap.size w (w.alloc (.cells #[.slice ar (ints row).length cr] 43)) := (Below.refl _ _).alloc (Nat.le_refl _) _
    have hsz : (w.alloc (.cells #[.slice ar (ints row).length cr] 43)).heap.size = w.heap.size + 1 := by simp
    have hblk : (Value.slice ad rows.length cp).ownBlock = ownBlk ad := by cases ad <;> rfl
    rw [hblk] at h3 h4
    have hk : Kept b (ownBlk ad) w w' := ⟨h3.os.trans hal.os, h3.tape.trans hal.tape, h3.output.trans hal.output, by have := h3.size; omega, fun k hk hb ho => by
      rw [h3.block k (by omega) (fun e => ho e.symm), hal.block k hk]⟩
    have hob := hOw.blk
    have hcb : RowAt1 w' b 29 (.slice ad rows.length cp) := by
      show w'.heap[b]? = _
      rw [h3.block b (by omega) (fun e => by have := hob b e.symm; omega), hal.block b (by omega)]
      exact hcell
    have hnew : NewB w (ownBlk ad) (some g) := by
      rcases h4 with h4 | h4
      · exact .inl h4.symm
      · exact .inr ⟨g, rfl, by omega⟩
    have hgb : g ≠ b ∧ B ≤ g := by
      rcases h4 with h4 | h4
      · have := hob g h4; omega
      · omega
    refine h ⟨w', g, cap', hk, hcb, hnew, hbB, ?_, ?_, vs ++ [.slice ar (ints row).length cr], ?_, fun i hi => ?_⟩
    · simp only [World.size_setCell]
      have := h3.size
      omega
    · rw [List.length_append]
      exact hcb.store
    · rw [List.length_append]
      exact ownsRow_setCell_below h2 hbB _
    · have hk2 : Kept b (ownBlk ad) w (w'.setCell ⟨b, 0, none⟩ (.slice (some ⟨g, 0, none⟩) (rows.length + 1) cap')) := ⟨hk.os, hk.tape, hk.output, by simpa using hk.size, fun k hk' hb ho => (Below.heap_setCell _ _ _ _ hb).trans (hk.block k hk' hb ho)⟩
      have hvl : vs.length = rows.length := by have := hown.1; simpa using this
      rw [List.length_append] at hi
      simp at hi
      by_cases c : i < rows.length
      · obtain ⟨ad', cp', e, r⟩ := hrows i c
        refine ⟨ad', cp', ?_, ?_⟩
        · rw [getD_rows_lt c, List.getElem?_append_left (by omega)]; exact e
        · rw [getD_rows_lt c]; exact r.kept hk2 hnew
      · have hie : i = rows.length := by omega
        subst hie
        rw [getD_rows_eq]
        exact ⟨ar, cr, by rw [List.getElem?_append_right (by omega), hvl]; simp, hR.kept hk2 hnew⟩

end Go.Proofs.Ytnhpefcjgaimeaa
