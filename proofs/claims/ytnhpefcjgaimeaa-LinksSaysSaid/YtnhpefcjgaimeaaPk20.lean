
/-
  hall.Rado: its function value, which appends to a captured row and cuts it.
  Tables of tables: rows of numbers in blocks of their own, under a row of slices.
-/
import Derived.Deep.CutRange
import Derived.Deep.CutBlock
import Derived.Deep.RegionHeld3
import Derived.Test.YtnhpefcjgaimeaaPk15
import Derived.Test.YtnhpefcjgaimeaaPk18
import Derived.Test.YtnhpefcjgaimeaaPk19
import Derived.Test.YtnhpefcjgaimeaaPk06
namespace Go.Proofs.Ytnhpefcjgaimeaa
open Go.RowKit
set_option linter.unusedVariables false

/-- worlds that agree with W below B but for block b -/
structure Aside (B b : Nat) (W : World) where
  val : World
  os : val.os = W.os
  tape : val.tape = W.tape
  output : val.output = W.output
  size : W.heap.size ≤ val.heap.size
  base : B ≤ val.heap.size
  block : ∀ k, k < B → k ≠ b → val.heap[k]? = W.heap[k]?
namespace Aside
variable {B b : Nat} {W : World}
def past (v : Aside B b W) (w : World) (h : Below B v.val w) : Aside B b W := ⟨w, h.os.trans v.os, h.tape.trans v.tape, h.output.trans v.output, Nat.le_trans v.size h.size, Nat.le_trans v.base h.size, fun k hk hb => (h.block k hk).trans (v.block k hk hb)⟩
def up (v : Aside B b W) (y : Later v.val.heap.size v.val) : Aside B b W := v.past y.val (y.below.mono v.base)
def drew (v : Aside B b W) : Aside B b W := v.past v.val.drew (Below.refl _ _).drew
def store (v : Aside B b W) (x : Value) : Aside B b W := ⟨v.val.setCell ⟨b, 0, none⟩ x, v.os, v.tape, v.output, by simpa using v.size, by simpa using v.base, fun k hk hb => (Below.heap_setCell _ _ _ _ hb).trans (v.block k hk hb)⟩
theorem cell (v : Aside B b W) {a : Addr} (h : a.block < B) (hb : a.block ≠ b) : v.val.cell? a = W.cell? a := World.cell?_of_block (w := W) (v.block a.block h hb)
theorem below (v : Aside B b W) {B0 : Nat} (h : B0 ≤ B) (hb : B0 ≤ b) : Below B0 W v.val := ⟨v.os, v.tape, v.output, v.size, fun k hk => v.block k (by omega) (by omega)⟩
end Aside

/-- the captured row -/
def OutAt (B b : Nat) (w : World) (xs : List Int) : Prop := ∃ ad cp, RowAt1 w b 43 (.slice ad xs.length cp) ∧ Own B w ad cp xs
theorem OutAt.keep {B b : Nat} {w w' : World} {xs : List Int} (h : OutAt B b w xs) (hb : Below w.heap.size w w') : OutAt B b w' xs := by
  obtain ⟨ad, cp, h1, h2⟩ := h
  exact ⟨ad, cp, h1.keep hb, h2.keep hb⟩
theorem RowAt1.store {w : World} {g : Nat} {t : TypeId} {v x : Value} (h : RowAt1 w g t v) : RowAt1 (w.setCell ⟨g, 0, none⟩ x) g t x := by
  have := heap_setCell_same w g 0 #[v] t x h
  simpa [RowAt1] using this
theorem RowAt1.frozen {w : World} {g : Nat} {t : TypeId} {v : Value} (h : RowAt1 w g t v) : w.frozen? ⟨g, 0, none⟩ = false := frozen_of_row w g 0 _ t h
theorem OutAt.stored {B b : Nat} {w : World} {t : Value} {ad : Option Addr} {cp : Nat} {xs : List Int} (hb : b < B) (h : RowAt1 w b 43 t) (ho : Own B w ad cp xs) : OutAt B b (w.setCell ⟨b, 0, none⟩ (.slice ad xs.length cp)) xs :=
  ⟨ad, cp, h.store, ownsRow_setCell_below ho hb _⟩
/-- an own row, cut -/
theorem Own.cut {B : Nat} {w : World} {g cap : Nat} {xs ys : List Int} (h : Own B w (some ⟨g, 0, none⟩) cap (xs ++ ys)) : Own B w (some ⟨g, 0, none⟩) cap xs := by
  obtain ⟨h1, h2⟩ := h
  refine ⟨by simp, ?_⟩
  rcases h2 with ⟨e, _⟩ | ⟨g', c, cur, e, hb, hh, hn, hc, hs, ht⟩
  · cases e
  · refine .inr ⟨g', c, cur, ?_, hb, hh, by simp at hn; omega, hc, hs, ?_⟩
    · simp only [Value.slice.injEq] at e ⊢
      exact ⟨e.1, trivial, e.2.2⟩
    · have := congrArg (List.take xs.length) ht
      rw [List.take_take] at this
      simp at this
      rw [Nat.mul_one, ← this]
theorem Own.room {B : Nat} {w : World} {ad : Option Addr} {cap : Nat} {xs : List Int} (h : Own B w ad cap xs) : xs.length ≤ cap := by
  rcases h.2 with ⟨e, hn⟩ | ⟨g, c, cur, e, _, _, hn, _⟩
  · omega
  · simp only [Value.slice.injEq] at e
    omega

/-- what the function value gives back -/
def RadoPost (B b : Nat) (W : World) (r : Option (List Nat)) (pre : List Nat) (e : Ending) (w' : World) : Prop :=
  ∃ v' : Aside B b W, w' = v'.val ∧ ((∃ l, r = some l ∧ e = .returned (.bool true) ∧ OutAt B b v'.val (ints (pre ++ l))) ∨ (r = none ∧ e = .returned (.bool false) ∧ OutAt B b v'.val (ints pre)))

end Go.Proofs.Ytnhpefcjgaimeaa

namespace Go.Proofs.Ytnhpefcjgaimeaa
open Go.RowKit
set_option linter.unusedVariables false

theorem info_row : (Try.prog.info? 43).map (fun i => (i.zero, i.size, i.bytes)) = some (some (.slice none 0 0), 1, 24) := by kernel_rfl

/-- N rows of M numbers each: row i in block r i, the slices in block g -/
structure Grid (B : Nat) (w : World) (g N M : Nat) (r : Nat → Nat) (P : Nat → Nat → Int) : Prop where
  top : w.rowIs g 43 N (fun i => .slice (some ⟨r i, 0, none⟩) M M)
  row : ∀ i, i < N → ITab w (r i) M (P i)
  bg : B ≤ g
  br : ∀ i, i < N → B ≤ r i
  ne : ∀ i, i < N → r i ≠ g
  inj : ∀ i j, i < N → j < N → r i = r j → i = j
namespace Grid
variable {B : Nat} {w : World} {g N M : Nat} {r : Nat → Nat} {P : Nat → Nat → Int}
theorem lt (h : Grid B w g N M r P) : g < w.heap.size := World.rowIs.lt h.top
theorem rlt (h : Grid B w g N M r P) {i : Nat} (hi : i < N) : r i < w.heap.size := (h.row i hi).lt
theorem tcell (h : Grid B w g N M r P) {i : Nat} (hi : i < N) : w.cell? ⟨g, i, none⟩ = some (.slice (some ⟨r i, 0, none⟩) M M) := World.rowIs.cell h.top hi
theorem cell (h : Grid B w g N M r P) {i j : Nat} (hi : i < N) (hj : j < M) : w.cell? ⟨r i, j, none⟩ = some (.int .i64 (P i j)) := (h.row i hi).cell hj
theorem fz (h : Grid B w g N M r P) {i : Nat} (hi : i < N) (j : Nat) : w.frozen? ⟨r i, j, none⟩ = false := (h.row i hi).frozen j
theorem keep {w' : World} (h : Grid B w g N M r P) (hb : Below w.heap.size w w') : Grid B w' g N M r P :=
  ⟨World.rowIs.of_block h.top (hb.block g h.lt), fun i hi => (h.row i hi).keep hb, h.bg, h.br, h.ne, h.inj⟩
theorem keep_at {w' : World} {C : Nat} (h : Grid B w g N M r P) (hb : Below C w w') (hg : g < C) (hr : ∀ i, i < N → r i < C) : Grid B w' g N M r P :=
  ⟨World.rowIs.of_block h.top (hb.block g hg), fun i hi => (h.row i hi).keep_at hb (hr i hi), h.bg, h.br, h.ne, h.inj⟩
theorem mono {C : Nat} (h : Grid B w g N M r P) (hb : C ≤ B) : Grid C w g N M r P :=
  ⟨h.top, h.row, Nat.le_trans hb h.bg, fun i hi => Nat.le_trans hb (h.br i hi), h.ne, h.inj⟩
/-- kept where other blocks are written -/
theorem other (h : Grid B w g N M r P) {b i : Nat} (hg : g ≠ b) (hr : ∀ i, i < N → r i ≠ b) (x : Value) : Grid B (w.setCell ⟨b, i, none⟩ x) g N M r P :=
  ⟨World.rowIs.of_block h.top (Below.heap_setCell _ _ _ _ hg), fun i hi => (h.row i hi).other (hr i hi) x, h.bg, h.br, h.ne, h.inj⟩
theorem congr (h : Grid B w g N M r P) {P' : Nat → Nat → Int} (e : ∀ i j, i < N → j < M → P i j = P' i j) : Grid B w g N M r P' :=
  ⟨h.top, fun i hi => (h.row i hi).congr (fun j hj => e i j hi hj), h.bg, h.br, h.ne, h.inj⟩
/-- one number is written -/
theorem set (h : Grid B w g N M r P) {a : Nat} (ha : a < N) (b : Nat) (x : Int) : Grid B (w.setCell ⟨r a, b, none⟩ (.int .i64 x)) g N M r (setM P a b x) where
  top := World.rowIs.of_block h.top (Below.heap_setCell _ _ _ _ (fun e => h.ne a ha e.symm))
  row := fun i hi => by
    by_cases c : i = a
    · subst c
      exact (h.row i hi).set b x (fun j hj => by unfold setM; by_cases e : j = b <;> simp [e])
    · refine ((h.row i hi).other (fun e => c (h.inj i a hi ha e)) _).congr (fun j hj => ?_)
      unfold setM; rw [if_neg (fun e => c e.1)]
  bg := h.bg
  br := h.br
  ne := h.ne
  inj := h.inj
/-- a row is put in place -/
theorem fzT (h : Grid B w g N M r P) (i : Nat) : w.frozen? ⟨g, i, none⟩ = false := World.rowIs.frozen h.top i
end Grid

/-- under way: the first k rows stand -/
structure GridTo (B : Nat) (w : World) (g N M k : Nat) (r : Nat → Nat) (P : Nat → Nat → Int) : Prop where
  top : w.rowIs g 43 N (fun i => if i < k then .slice (some ⟨r i, 0, none⟩) M M else .slice none 0 0)
  row : ∀ i, i < k → ITab w (r i) M (P i)
  bg : B ≤ g
  br : ∀ i, i < k → B ≤ r i
  ne : ∀ i, i < k → r i ≠ g
  inj : ∀ i j, i < k → j < k → r i = r j → i = j
namespace GridTo
variable {B : Nat} {w : World} {g N M k : Nat} {r : Nat → Nat} {P : Nat → Nat → Int}
theorem lt (h : GridTo B w g N M k r P) : g < w.heap.size := World.rowIs.lt h.top
theorem start (h : w.rowIs g 43 N (fun _ => .slice none 0 0)) (hB : B ≤ g) : GridTo B w g N M 0 (fun _ => 0) P where
  top := World.rowIs.congr h (fun i _ => by rw [if_neg (by omega)])
  row := fun i hi => by omega
  bg := hB
  br := fun i hi => by omega
  ne := fun i hi => by omega
  inj := fun i j hi => by omega
theorem keep {w' : World} (h : GridTo B w g N M k r P) (hb : Below w.heap.size w w') : GridTo B w' g N M k r P :=
  ⟨World.rowIs.of_block h.top (hb.block g h.lt), fun i hi => (h.row i hi).keep hb, h.bg, h.br, h.ne, h.inj⟩
theorem old (h : GridTo B w g N M k r P) (hk : k < N) : w.cell? ⟨g, k, none⟩ = some (.slice none 0 0) := by
  have := World.rowIs.cell h.top hk
  rw [if_neg (Nat.lt_irrefl k)] at this
  exact this
theorem fz (h : GridTo B w g N M k r P) (i : Nat) : w.frozen? ⟨g, i, none⟩ = false := World.rowIs.frozen h.top i
/-- one more row, in a block that is none of theirs -/
theorem put (h : GridTo B w g N M k r P) {b : Nat} (hb : B ≤ b) (hg : b ≠ g) (hne : ∀ i, i < k → r i ≠ b) {Q : Nat → Int} (hT : ITab w b M Q) :
    GridTo B (w.setCell ⟨g, k, none⟩ (.slice (some ⟨b, 0, none⟩) M M)) g N M (k + 1) (fun i => if i = k then b else r i) (fun i => if i = k then Q else P i) where
  top := World.rowIs.congr (World.rowIs.set h.top k _) (fun i hi => by
    by_cases c : i = k
    · subst c; rw [if_pos rfl, if_pos (by omega), if_pos rfl]
    · rw [if_neg c, if_neg c]
      by_cases c2 : i < k
      · rw [if_pos c2, if_pos (by omega)]
      · rw [if_neg c2, if_neg (by omega)])
  row := fun i hi => by
    by_cases c : i = k
    · subst c; simp only [if_true]; exact hT.other hg _
    · simp only [if_neg c]; exact (h.row i (by omega)).other (h.ne i (by omega)) _
  bg := h.bg
  br := fun i hi => by
    by_cases c : i = k
    · rw [if_pos c]; exact hb
    · rw [if_neg c]; exact h.br i (by omega)
  ne := fun i hi => by
    by_cases c : i = k
    · rw [if_pos c]; exact hg
    · rw [if_neg c]; exact h.ne i (by omega)
  inj := fun i j hi hj => by
    by_cases c : i = k
    · by_cases d : j = k
      · intro _; omega
      · rw [if_pos c, if_neg d]; intro e; exact absurd e.symm (hne j (by omega))
    · by_cases d : j = k
      · rw [if_neg c, if_pos d]; intro e; exact absurd e (hne i (by omega))
      · rw [if_neg c, if_neg d]; exact h.inj i j (by omega) (by omega)
theorem full (h : GridTo B w g N M N r P) : Grid B w g N M r P :=
  ⟨World.rowIs.congr h.top (fun i hi => by rw [if_pos hi]), h.row, h.bg, h.br, h.ne, h.inj⟩
theorem congr (h : GridTo B w g N M k r P) {P' : Nat → Nat → Int} (e : ∀ i j, i < k → j < M → P i j = P' i j) : GridTo B w g N M k r P' :=
  ⟨h.top, fun i hi => (h.row i hi).congr (fun j hj => e i j hi hj), h.bg, h.br, h.ne, h.inj⟩
end GridTo

end Go.Proofs.Ytnhpefcjgaimeaa
