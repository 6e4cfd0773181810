
/-
  hall.Rado: its function value, which appends to a captured row and cuts it.
  Worlds that agree but for a cell, an own row and new blocks.
  An appended row of whole numbers as a table; two such rows side by side.
-/
import Derived.Deep.CutRange
import Derived.Deep.CutBlock
import Derived.Deep.RegionHeld3
import Derived.Test.YtdcdhdlklppalaaPk03
import Derived.Test.YtdcdhdlklppalaaPk06
import Derived.Laws.OwnMore
import Derived.Deep.AppendLies
namespace Go.Proofs.Ytdcdhdlklppalaa
open Go.RowKit
set_option linter.unusedVariables false

/-- worlds that agree with W below B but for block b -/
structure Aside (B b : Nat) (W : World) where
  val : World
  os : val.os = W.os
  tape : val.tape = W.tape
  output : val.output = W.output
  size : W.heap.size ≤ val.heap.size
  base : B ≤ val.heap.size
  block : ∀ k, k < B → k ≠ b → val.heap[k]? = W.heap[k]?
namespace Aside
variable {B b : Nat} {W : World}
def past (v : Aside B b W) (w : World) (h : Below B v.val w) : Aside B b W := ⟨w, h.os.trans v.os, h.tape.trans v.tape, h.output.trans v.output, Nat.le_trans v.size h.size, Nat.le_trans v.base h.size, fun k hk hb => (h.block k hk).trans (v.block k hk hb)⟩
def up (v : Aside B b W) (y : Later v.val.heap.size v.val) : Aside B b W := v.past y.val (y.below.mono v.base)
def drew (v : Aside B b W) : Aside B b W := v.past v.val.drew (Below.refl _ _).drew
def store (v : Aside B b W) (x : Value) : Aside B b W := ⟨v.val.setCell ⟨b, 0, none⟩ x, v.os, v.tape, v.output, by simpa using v.size, by simpa using v.base, fun k hk hb => (Below.heap_setCell _ _ _ _ hb).trans (v.block k hk hb)⟩
theorem cell (v : Aside B b W) {a : Addr} (h : a.block < B) (hb : a.block ≠ b) : v.val.cell? a = W.cell? a := World.cell?_of_block (w := W) (v.block a.block h hb)
theorem below (v : Aside B b W) {B0 : Nat} (h : B0 ≤ B) (hb : B0 ≤ b) : Below B0 W v.val := ⟨v.os, v.tape, v.output, v.size, fun k hk => v.block k (by omega) (by omega)⟩
end Aside

/-- the captured row -/
def OutAt (B b : Nat) (w : World) (xs : List Int) : Prop := ∃ ad cp, RowAt1 w b 22 (.slice ad xs.length cp) ∧ Own B w ad cp xs
theorem OutAt.keep {B b : Nat} {w w' : World} {xs : List Int} (h : OutAt B b w xs) (hb : Below w.heap.size w w') : OutAt B b w' xs := by
  obtain ⟨ad, cp, h1, h2⟩ := h
  exact ⟨ad, cp, h1.keep hb, h2.keep hb⟩
theorem RowAt1.store {w : World} {g : Nat} {t : TypeId} {v x : Value} (h : RowAt1 w g t v) : RowAt1 (w.setCell ⟨g, 0, none⟩ x) g t x := by
  have := heap_setCell_same w g 0 #[v] t x h
  simpa [RowAt1] using this
theorem RowAt1.frozen {w : World} {g : Nat} {t : TypeId} {v : Value} (h : RowAt1 w g t v) : w.frozen? ⟨g, 0, none⟩ = false := frozen_of_row w g 0 _ t h
theorem OutAt.stored {B b : Nat} {w : World} {t : Value} {ad : Option Addr} {cp : Nat} {xs : List Int} (hb : b < B) (h : RowAt1 w b 22 t) (ho : Own B w ad cp xs) : OutAt B b (w.setCell ⟨b, 0, none⟩ (.slice ad xs.length cp)) xs :=
  ⟨ad, cp, h.store, ownsRow_setCell_below ho hb _⟩
/-- an own row, cut -/
theorem Own.cut {B : Nat} {w : World} {g cap : Nat} {xs ys : List Int} (h : Own B w (some ⟨g, 0, none⟩) cap (xs ++ ys)) : Own B w (some ⟨g, 0, none⟩) cap xs := by
  obtain ⟨h1, h2⟩ := h
  refine ⟨by simp, ?_⟩
  rcases h2 with ⟨e, _⟩ | ⟨g', c, cur, e, hb, hh, hn, hc, hs, ht⟩
  · cases e
  · refine .inr ⟨g', c, cur, ?_, hb, hh, by simp at hn; omega, hc, hs, ?_⟩
    · simp only [Value.slice.injEq] at e ⊢
      exact ⟨e.1, trivial, e.2.2⟩
    · have := congrArg (List.take xs.length) ht
      rw [List.take_take] at this
      simp at this
      rw [Nat.mul_one, ← this]
theorem Own.room {B : Nat} {w : World} {ad : Option Addr} {cap : Nat} {xs : List Int} (h : Own B w ad cap xs) : xs.length ≤ cap := by
  rcases h.2 with ⟨e, hn⟩ | ⟨g, c, cur, e, _, _, hn, _⟩
  · omega
  · simp only [Value.slice.injEq] at e
    omega

/-- what the function value gives back -/
def RadoPost (B b : Nat) (W : World) (r : Option (List Nat)) (pre : List Nat) (e : Ending) (w' : World) : Prop :=
  ∃ v' : Aside B b W, w' = v'.val ∧ ((∃ l, r = some l ∧ e = .returned (.bool true) ∧ OutAt B b v'.val (ints (pre ++ l))) ∨ (r = none ∧ e = .returned (.bool false) ∧ OutAt B b v'.val (ints pre)))

end Go.Proofs.Ytdcdhdlklppalaa

namespace Go.Proofs.Ytdcdhdlklppalaa
open Go.RowKit
set_option linter.unusedVariables false

/-- worlds that agree but for block b, block o and new ones -/
structure Kept (b : Nat) (o : Option Nat) (w w' : World) : Prop where
  os : w'.os = w.os
  tape : w'.tape = w.tape
  output : w'.output = w.output
  size : w.heap.size ≤ w'.heap.size
  block : ∀ k, k < w.heap.size → k ≠ b → o ≠ some k → w'.heap[k]? = w.heap[k]?
/-- the own block is the old one, or new -/
def NewB (w : World) (o o' : Option Nat) : Prop := o' = o ∨ ∃ g, o' = some g ∧ w.heap.size ≤ g
theorem Kept.refl (b : Nat) (o : Option Nat) (w : World) : Kept b o w w := ⟨rfl, rfl, rfl, Nat.le_refl _, fun _ _ _ _ => rfl⟩
theorem Kept.of {b : Nat} {o : Option Nat} {w w' : World} (h : Below w.heap.size w w') : Kept b o w w' := ⟨h.os, h.tape, h.output, h.size, fun k hk _ _ => h.block k hk⟩
theorem NewB.refl (w : World) (o : Option Nat) : NewB w o o := .inl rfl
theorem NewB.trans {w w1 : World} {o o1 o2 : Option Nat} (hs : w.heap.size ≤ w1.heap.size) (h : NewB w o o1) (g : NewB w1 o1 o2) : NewB w o o2 := by
  rcases g with rfl | ⟨x, rfl, hx⟩
  · exact h
  · exact .inr ⟨x, rfl, by omega⟩
theorem Kept.trans {b : Nat} {o o1 : Option Nat} {w w1 w2 : World} (h : Kept b o w w1) (hn : NewB w o o1) (g : Kept b o1 w1 w2) : Kept b o w w2 :=
  ⟨g.os.trans h.os, g.tape.trans h.tape, g.output.trans h.output, Nat.le_trans h.size g.size, fun k hk hb ho => by
    rw [g.block k (Nat.lt_of_lt_of_le hk h.size) hb (fun e => ?_)]
    · exact h.block k hk hb ho
    · rcases hn with e2 | ⟨x, e2, hx⟩
      · exact ho (e2 ▸ e)
      · rw [e2] at e
        have : x = k := by simpa using e
        omega⟩
theorem Kept.cell {b : Nat} {o : Option Nat} {w w' : World} (h : Kept b o w w') {a : Addr} (h1 : a.block < w.heap.size) (h2 : a.block ≠ b) (h3 : o ≠ some a.block) : w'.cell? a = w.cell? a := World.cell?_of_block (w := w) (h.block a.block h1 h2 h3)
/-- seen from below -/
theorem Kept.below {b B : Nat} {o : Option Nat} {w w' : World} (h : Kept b o w w') (h0 : B ≤ w.heap.size) (h1 : B ≤ b) (h2 : ∀ g, o = some g → B ≤ g) : Below B w w' :=
  ⟨h.os, h.tape, h.output, h.size, fun k hk => h.block k (by omega) (by omega) (fun e => by have := h2 k e; omega)⟩

def ownBlk (ad : Option Addr) : Option Nat := ad.map (·.block)
/-- a list that none of these blocks holds -/
structure RowV (w : World) (b : Nat) (o : Option Nat) (row : List Nat) (ad : Option Addr) (cp : Nat) : Prop where
  nil : ad = none → cp = 0
  ints : IntsAt w.heap.size w ad (ints row)
  off : ∀ a, ad = some a → a.block < w.heap.size ∧ a.block ≠ b ∧ o ≠ some a.block
theorem RowV.kept {w w' : World} {b : Nat} {o o' : Option Nat} {row : List Nat} {ad : Option Addr} {cp : Nat} (h : RowV w b o row ad cp) (k : Kept b o w w') (hn : NewB w o o') : RowV w' b o' row ad cp where
  nil := h.nil
  ints := fun hne => by
    obtain ⟨g, off, rfl, hlt, hc⟩ := h.ints hne
    obtain ⟨h1, h2, h3⟩ := h.off _ rfl
    refine ⟨g, off, rfl, Nat.lt_of_lt_of_le hlt k.size, fun i hi => ?_⟩
    rw [k.cell (a := ⟨g, off + i, none⟩) h1 h2 h3]
    exact hc i hi
  off := fun a ha => by
    obtain ⟨h1, h2, h3⟩ := h.off a ha
    refine ⟨Nat.lt_of_lt_of_le h1 k.size, h2, ?_⟩
    rcases hn with rfl | ⟨x, rfl, hx⟩
    · exact h3
    · intro e
      have : x = a.block := by simpa using e
      omega

end Go.Proofs.Ytdcdhdlklppalaa

namespace Go.Proofs.Ytdcdhdlklppalaa
open Go.RowKit
set_option linter.unusedVariables false

/-! an appended row of whole numbers, as a table -/
theorem Own.cellT {B : Nat} {w : World} {g cap n : Nat} {A : Nat → Int} (h : Own B w (some ⟨g, 0, none⟩) cap (tabL n A)) {i : Nat} (hi : i < n) : w.cell? ⟨g, i, none⟩ = some (.int .i64 (A i)) := by
  unfold Own at h
  rw [World.ownsRow.cellAt h i (by rw [tabL_len]; omega)]
  simp [tabL, hi]
theorem Own.frozenT {B : Nat} {w : World} {g cap : Nat} {xs : List Int} (h : Own B w (some ⟨g, 0, none⟩) cap xs) (i : Nat) : w.frozen? ⟨g, i, none⟩ = false := World.ownsRow.frozenAt h i
theorem Own.ltT {B : Nat} {w : World} {g cap : Nat} {xs : List Int} (h : Own B w (some ⟨g, 0, none⟩) cap xs) : B ≤ g ∧ g < w.heap.size := World.ownsRow.lt h g rfl
theorem Own.setT {B : Nat} {w : World} {g cap n : Nat} {A A' : Nat → Int} (h : Own B w (some ⟨g, 0, none⟩) cap (tabL n A)) (i : Nat) (v : Int) (e : ∀ j, j < n → A' j = if j = i then v else A j) : Own B (w.setCell ⟨g, i, none⟩ (.int .i64 v)) (some ⟨g, 0, none⟩) cap (tabL n A') := by
  unfold Own at h ⊢
  rw [tabL_len] at h ⊢
  have := (World.ownsRow.stored h i (.int .i64 v)).1
  rwa [show (tabL n A').map (Value.int .i64) = ((tabL n A).map (Value.int .i64)).set i (.int .i64 v) from by
    apply List.ext_getElem
    · simp [tabL]
    · intro k h1 h2
      simp [tabL] at h1
      rw [List.getElem_set]
      simp only [tabL, List.getElem_map, List.getElem_range]
      rw [e k h1]
      by_cases c : k = i
      · subst c; simp
      · rw [if_neg c, if_neg (fun h => c h.symm)]]

/-- in blocks of their own -/
def Apart (a b : Option Addr) : Prop := ∀ x y, a = some x → b = some y → x.block ≠ y.block
theorem Apart.symm {a b : Option Addr} (h : Apart a b) : Apart b a := fun x y hx hy e => h y x hy hx e.symm
theorem Apart.none (b : Option Addr) : Apart none b := fun x y hx => by cases hx
theorem Own.setO {B : Nat} {w : World} {ad : Option Addr} {cap : Nat} {xs : List Int} (h : Own B w ad cap xs) {g i : Nat} (hg : ∀ x, ad = some x → g ≠ x.block) (x : Value) : Own B (w.setCell ⟨g, i, none⟩ x) ad cap xs := by
  refine h.kept (row := some g) ⟨rfl, rfl, rfl, by simp, fun k hk hne => Below.heap_setCell _ _ _ _ (by rintro rfl; exact hne rfl)⟩ ?_
  cases ad with
  | none => exact .inl rfl
  | some a =>
    right
    intro e
    have : a.block = g := by simpa [Value.ownBlock] using e
    exact hg a rfl this.symm
theorem Own.blk {B : Nat} {w : World} {ad : Option Addr} {cap : Nat} {xs : List Int} (h : Own B w ad cap xs) : ∀ x, ad = some x → B ≤ x.block ∧ x.block < w.heap.size := fun x hx => by
  subst hx
  exact World.ownsRow.lt h x.block rfl

/-- append of one number to a row of the call's own: another such row is left alone -/
theorem wpList_push2 {B : Nat} {W w : World} (hw : Below B W w) (hB : B ≤ w.heap.size) {ops : Array Oper} {rest : List Oper} {o : Oper} {a : Act} {Q : Exit → Act → World → Prop} (hgd : o.guard = none) (s x : Operand)
    (ho : o.op = .call { callee := .builtin .append, args := #[s, x], argTypes := #[22, 22] })
    (xs : List Int) (n : Nat) (hn : xs.length = n) (ad : Option Addr) (cap : Nat) (y : Int) (hs : a.eval s = .slice ad n cap) (hown : Own B w ad cap xs)
    (hx : a.eval x = .slice (some ⟨w.heap.size, 0, none⟩) 1 1)
    (hlen : n + 1 ≤ 17592186044416)
    (h : ∀ (u' : Later B W) (g cap' : Nat), Own B u'.val (some ⟨g, 0, none⟩) cap' (xs ++ [y]) → (∀ (ad2 : Option Addr) (cp2 : Nat) (ys : List Int), Own B w ad2 cp2 ys → Apart ad ad2 → Own B u'.val ad2 cp2 ys ∧ Apart (some ⟨g, 0, none⟩) ad2) → wpList Try.prog ops Q rest (a.put o.dst (.slice (some ⟨g, 0, none⟩) (n + 1 : Nat) cap')) u'.val) :
    wpList Try.prog ops Q (o :: rest) a (w.alloc (.cells #[.int .i64 y] 3)) := by
  subst hn
  obtain ⟨i0, hi, hz0, hz1, hz2⟩ := info_parts info_int
  refine wpList_append_lies _ hgd s x 22 ho B 3 i0 (.int .i64 0) 1 8 Try.underlying22 hi hz0 hz1 hz2 rfl (by decide) _ xs.length (xs.map (Value.int .i64)) hs (hown.alloc _) ⟨w.heap.size, 0, none⟩ 1 1 [.int .i64 y] hx rfl ?_ ?_ (by decide) (by unfold maxLen; omega) (by omega) (by simp; omega) (w.heap.size + 1) (by simp) ?_
  · intro j v hj
    have hj0 : j = 0 := by
      have := (List.getElem?_eq_some_iff.1 hj).1
      simp at this
      omega
    subst hj0
    have e : (⟨w.heap.size, 0, none⟩ : Addr).add 0 = ⟨w.heap.size, 0, none⟩ := by unfold Addr.add; split <;> simp_all
    rw [e]
    simp at hj
    subst hj
    exact cell_one_new w _ 3 0 _ rfl
  · intro v hv
    simp at hv
    subst hv
    rfl
  · intro g cap' w' h2 h3 h4 h5
    have hO : Own B w' (some ⟨g, 0, none⟩) cap' (xs ++ [y]) := by
      show w'.ownsRow B 3 1 (.slice (some ⟨g, 0, none⟩) (xs ++ [y]).length cap') (xs ++ [y]).length _
      rw [List.length_append, List.map_append]
      exact h2
    refine h ⟨w', own_below (hw.alloc hB _) (by simp; omega) (hown.alloc _) h3, by have := h3.size; simp at this; omega⟩ g cap' hO (fun ad2 cp2 ys ho2 hap => ⟨?_, ?_⟩)
    · refine (ho2.alloc _).kept h3 ?_
      cases ad2 with
      | none => exact .inl rfl
      | some b =>
        right
        intro e
        have e' : (Value.slice ad xs.length cap).ownBlock = some b.block := e.symm
        cases ad with
        | none => cases e'
        | some a0 =>
          have : a0.block = b.block := by simpa [Value.ownBlock] using e'
          exact hap a0 b rfl rfl this
    · intro p q hp hq
      subst hq
      have hlt := (ho2.blk q rfl).2
      have hpg : p.block = g := by cases hp; rfl
      rw [hpg]
      rcases h4 with h4 | h4
      · cases ad with
        | none => cases h4
        | some a0 =>
          have e2 : a0.block = g := by simpa [Value.ownBlock] using h4
          rw [← e2]
          exact hap a0 q rfl rfl
      · omega
end Go.Proofs.Ytdcdhdlklppalaa
