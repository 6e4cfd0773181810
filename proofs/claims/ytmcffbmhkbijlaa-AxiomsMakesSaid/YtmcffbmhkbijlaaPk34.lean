
/-
  Matroids in boxes, lists of the call's own (out of SaLaw).
-/
import Derived.Test.YtmcffbmhkbijlaaPk13
import Derived.Test.YtmcffbmhkbijlaaPk21
namespace Go.Proofs.Ytmcffbmhkbijlaa
open Go.RowKit
set_option linter.unusedVariables false

theorem rowL_otherB {w : World} {g b i : Nat} {t : TypeId} {vs : List Value} (h : RowL w g t vs) (hne : g ≠ b) (x : Value) : RowL (w.setCell ⟨b, i, none⟩ x) g t vs := by
  show (w.setCell _ _).heap[g]? = _
  rw [Below.heap_setCell _ _ _ _ (by rintro rfl; exact hne rfl)]
  exact h

/-- a matroid in a box -/
def BMs (w : World) (g : Nat) (n : Int) (xs : List Int) : Prop := ∃ ad cp, RowL w g 29 [.int .i64 n, .slice ad xs.length cp] ∧ IntsAt w.heap.size w ad xs
theorem BMs.bel {w w' : World} {g : Nat} {n : Int} {xs : List Int} (h : BMs w g n xs) (hb : Bel w w') : BMs w' g n xs := by
  obtain ⟨v, rfl⟩ := hb.later
  obtain ⟨ad, cp, h1, h2⟩ := h
  exact ⟨ad, cp, h1.keep v.below, h2.to v⟩
theorem BMs.new {w : World} {n : Int} {ad : Option Addr} {cp : Nat} {xs : List Int} (h : IntsAt w.heap.size w ad xs) : BMs (w.alloc (.cells #[.int .i64 n, .slice ad xs.length cp] 29)) w.heap.size n xs :=
  ⟨ad, cp, RowL.new w 29 [.int .i64 n, .slice ad xs.length cp], h.to ((Later.self w).alloc _)⟩
theorem belTr {a b c : World} (h : Bel a b) (k : Bel b c) : Bel a c := ⟨h.1.trans (k.1.mono h.2), Nat.le_trans h.2 k.2⟩
/-- a list of the call's own -/
def RdO (B : Nat) (xs : List Int) (v : Value) (w : World) : Prop := ∃ ad cp, v = .slice ad xs.length cp ∧ Own B w ad cp xs
theorem RdO.bel {B : Nat} {w w' : World} {xs : List Int} {v : Value} (h : RdO B xs v w) (hb : Bel w w') : RdO B xs v w' := by
  obtain ⟨y, rfl⟩ := hb.later
  obtain ⟨ad, cp, e, h2⟩ := h
  exact ⟨ad, cp, e, h2.keep y.below⟩
theorem RdO.set {B : Nat} {w : World} {xs : List Int} {v : Value} (h : RdO B xs v w) {g i : Nat} (hg : g < B) (x : Value) : RdO B xs v (w.setCell ⟨g, i, none⟩ x) := by
  obtain ⟨ad, cp, e, h2⟩ := h
  exact ⟨ad, cp, e, ownsRow_setCell_below h2 (show g < B from hg) _⟩
/-- a list that is read -/
def RdL (xs : List Int) (v : Value) (w : World) : Prop := ∃ ad cp, v = .slice ad xs.length cp ∧ IntsAt w.heap.size w ad xs
theorem RdL.bel {w w' : World} {xs : List Int} {v : Value} (h : RdL xs v w) (hb : Bel w w') : RdL xs v w' := by
  obtain ⟨y, rfl⟩ := hb.later
  obtain ⟨ad, cp, e, h2⟩ := h
  exact ⟨ad, cp, e, h2.to y⟩
def ZIfS (e n : Int) (xs : List Int) : Prop := e ≠ 0 → n = 0 ∧ xs = []
theorem told_okS {e n : Int} {xs : List Int} (h : ZIfS e n xs) : if e = 0 then n = n ∧ xs = xs else n = 0 ∧ xs = [] := by
  split
  · exact ⟨rfl, rfl⟩
  · rename_i c; exact h c
theorem RdO.rd {B : Nat} {w : World} {xs : List Int} {v : Value} (h : RdO B xs v w) : RdL xs v w := by
  obtain ⟨ad, cp, e, h2⟩ := h
  exact ⟨ad, cp, e, h2.reads⟩
/-- a list whose own block is not below -/
def AtB (B : Nat) (w : World) (ad : Option Addr) (xs : List Int) : Prop := IntsAt w.heap.size w ad xs ∧ ∀ x, ad = some x → B ≤ x.block
theorem AtB.bel {B : Nat} {w w' : World} {ad : Option Addr} {xs : List Int} (h : AtB B w ad xs) (hb : Bel w w') : AtB B w' ad xs := by
  obtain ⟨y, rfl⟩ := hb.later
  exact ⟨h.1.to y, h.2⟩
theorem AtB.set {B : Nat} {w : World} {ad : Option Addr} {xs : List Int} (h : AtB B w ad xs) {g i : Nat} (hg : g < B) (x : Value) : AtB B (w.setCell ⟨g, i, none⟩ x) ad xs := by
  refine ⟨fun hne => ?_, h.2⟩
  obtain ⟨gb, off, rfl, hlt, hc⟩ := h.1 hne
  have h2 : B ≤ gb := h.2 _ rfl
  refine ⟨gb, off, rfl, by simpa using hlt, fun i hi => ?_⟩
  rw [World.cell?_setCell_far _ _ _ _ (show g ≠ gb by omega)]
  exact hc i hi
/-- stored into a box -/
theorem BMs.store {B : Nat} {w : World} {g : Nat} {vs : Value × Value} {n : Int} {ad : Option Addr} {cp : Nat} {xs : List Int} (h0 : RowL w g 29 [vs.1, vs.2]) (h : IntsAt w.heap.size w ad xs) (hd : ∀ x, ad = some x → x.block ≠ g) : BMs ((w.setCell ⟨g, 0, none⟩ (.int .i64 n)).setCell ⟨g, 1, none⟩ (.slice ad xs.length cp)) g n xs := by
  refine ⟨ad, cp, (h0.set 0 _).set 1 _, fun hne => ?_⟩
  obtain ⟨gb, off, rfl, hlt, hc⟩ := h hne
  have hg : g ≠ gb := fun e => hd _ rfl e.symm
  refine ⟨gb, off, rfl, by simpa using hlt, fun i hi => ?_⟩
  rw [World.cell?_setCell_far _ _ _ _ hg, World.cell?_setCell_far _ _ _ _ hg]
  exact hc i hi
end Go.Proofs.Ytmcffbmhkbijlaa
