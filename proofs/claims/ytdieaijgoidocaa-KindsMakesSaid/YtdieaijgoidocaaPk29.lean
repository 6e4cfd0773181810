
/-
  minors.Truncate.
  A list of bases that the check lets pass, opened.
  rotalaw.MinorsSays.
-/
import Derived.Test.YtdieaijgoidocaaPk27
import Derived.Test.YtdieaijgoidocaaPk28
import Derived.Test.YtdieaijgoidocaaPk22
import Derived.Test.YtdieaijgoidocaaPk18
import Derived.Test.YtdieaijgoidocaaPk14
import Derived.Test.YtdieaijgoidocaaPk12
namespace Go.Proofs.Ytdieaijgoidocaa
open Go.RowKit
set_option linter.unusedVariables false

theorem filt_ints (I : List Nat) (k : Int) : (ints I).filter (fun x => !(fun y : Int => !decide ((sz y.toNat : Int) = k)) x) = ints (I.filter (fun s => decide ((sz s : Int) = k))) := by
  unfold ints
  rw [List.filter_map]
  congr 1
  refine List.filter_congr (fun x _ => ?_)
  simp

end Go.Proofs.Ytdieaijgoidocaa

namespace Go.Proofs.Ytdieaijgoidocaa
open Go.RowKit
set_option linter.unusedVariables false

/-- of a matroid: its bases as a list of sets -/
theorem mat_open {n : Int} {l : List Int} (he : MatIs n l 0) : ∃ (m : Nat) (L : List Nat), n = (m : Int) ∧ m ≤ 8 ∧ l = ints L ∧ toN (ints L) = L := by
  have hfam : isFam n l := he.zero.1.1
  obtain ⟨m, rfl⟩ := Int.eq_ofNat_of_zero_le hfam.1
  have hl := fam_ints hfam
  exact ⟨m, toN l, rfl, by have := hfam.2.1; omega, hl.symm, by rw [hl]⟩
/-- what a matroid's list of bases is -/
structure IsMat (m : Nat) (L : List Nat) : Prop where
  ne : L ≠ []
  fam : Fam8 L (sz (L.getD 0 0))
  exch : Exch L
  lt : ∀ b, b ∈ L → b < bit m
  isfam : isFam (m : Int) (ints L)
theorem IsMat.of {m : Nat} {L : List Nat} (he : MatIs (m : Int) (ints L) 0) (hTN : toN (ints L) = L) : IsMat m L := by
  have hz := he.zero
  have hfam : isFam (m : Int) (ints L) := hz.1.1
  exact ⟨by rintro rfl; exact hz.1.2.1 rfl, by have := hz.1.fam8; rwa [hTN] at this, by have := hz.2; rwa [hTN] at this, by have := fam_lt hfam; rw [hTN] at this; simpa using this, hfam⟩

end Go.Proofs.Ytdieaijgoidocaa

namespace Go.Proofs.Ytdieaijgoidocaa
open Go.RowKit
set_option linter.unusedVariables false

/-- of an error, nothing -/
def ZIf (e n : Int) (xs : List Int) : Prop := e ≠ 0 → n = 0 ∧ xs = []
theorem told_ok {e n : Int} {xs : List Int} (h : ZIf e n xs) : if e = 0 then n = n ∧ xs = xs else n = 0 ∧ xs = [] := by
  split
  · exact ⟨rfl, rfl⟩
  · rename_i c; exact h c
theorem RowL.other {w : World} {g : Nat} {t : TypeId} {vs : List Value} (h : RowL w g t vs) {g' : Nat} (hne : g' ≠ g) (i : Nat) (x : Value) : RowL (w.setCell ⟨g', i, none⟩ x) g t vs := by
  have h' : w.heap[g]? = _ := h
  simp only [RowL, World.setCell, Array.getElem?_modify, h']
  simp [hne]
/-- a matroid in a box, its bases in a row of the call's own -/
def MO (bx : Nat) (w : World) (g : Nat) (n : Int) (ad : Option Addr) (cp : Nat) (xs : List Int) : Prop := RowL w g 26 [.int .i64 n, .slice ad xs.length cp] ∧ Own bx w ad cp xs
theorem MO.later {bx : Nat} {w : World} {g : Nat} {n : Int} {ad : Option Addr} {cp : Nat} {xs : List Int} (h : MO bx w g n ad cp xs) (y : Later w.heap.size w) : MO bx y.val g n ad cp xs := ⟨h.1.keep y.below, h.2.keep y.below⟩
theorem MO.stored {bx : Nat} {w : World} {g : Nat} {n : Int} {ad : Option Addr} {cp : Nat} {xs : List Int} (h : MO bx w g n ad cp xs) {g' : Nat} (hne : g' ≠ g) (hb : g' < bx) (x z : Value) : MO bx ((w.setCell ⟨g', 0, none⟩ x).setCell ⟨g', 1, none⟩ z) g n ad cp xs := ⟨(h.1.other hne 0 x).other hne 1 z, (h.2.set hb x).set hb z⟩
/-- a box is filled -/
theorem MO.fill {bx : Nat} {w : World} {g : Nat} {v0 v1 : Value} {n : Int} {ad : Option Addr} {cp : Nat} {xs : List Int} (h : RowL w g 26 [v0, v1]) (ho : Own bx w ad cp xs) (hb : g < bx) : MO bx ((w.setCell ⟨g, 0, none⟩ (.int .i64 n)).setCell ⟨g, 1, none⟩ (.slice ad xs.length cp)) g n ad cp xs := ⟨(h.set 0 _).set 1 _, (ho.set hb _).set hb _⟩

/-- a matroid in a box, its bases in memory -/
def MB (w : World) (g : Nat) (n : Int) (ad : Option Addr) (cp : Nat) (xs : List Int) : Prop := RowL w g 26 [.int .i64 n, .slice ad xs.length cp] ∧ IntsAt w.heap.size w ad xs
theorem MB.later {w : World} {g : Nat} {n : Int} {ad : Option Addr} {cp : Nat} {xs : List Int} (h : MB w g n ad cp xs) (y : Later w.heap.size w) : MB y.val g n ad cp xs := ⟨h.1.keep y.below, h.2.to y⟩

end Go.Proofs.Ytdieaijgoidocaa
