
/-
  Tables of tables: rows of numbers in blocks of their own, under a row of slices.
-/
import Derived.Test.YtffnpokceomncaaTabs
import Derived.Test.YtffnpokceomncaaMfCut
namespace Go.Proofs.Ytffnpokceomncaa
open Go.RowKit
set_option linter.unusedVariables false

theorem info_row : (Try.prog.info? 35).map (fun i => (i.zero, i.size, i.bytes)) = some (some (.slice none 0 0), 1, 24) := by kernel_rfl

/-- N rows of M numbers each: row i in block r i, the slices in block g -/
structure Grid (B : Nat) (w : World) (g N M : Nat) (r : Nat → Nat) (P : Nat → Nat → Int) : Prop where
  top : w.rowIs g 35 N (fun i => .slice (some ⟨r i, 0, none⟩) M M)
  row : ∀ i, i < N → ITab w (r i) M (P i)
  bg : B ≤ g
  br : ∀ i, i < N → B ≤ r i
  ne : ∀ i, i < N → r i ≠ g
  inj : ∀ i j, i < N → j < N → r i = r j → i = j
namespace Grid
variable {B : Nat} {w : World} {g N M : Nat} {r : Nat → Nat} {P : Nat → Nat → Int}
theorem lt (h : Grid B w g N M r P) : g < w.heap.size := World.rowIs.lt h.top
theorem rlt (h : Grid B w g N M r P) {i : Nat} (hi : i < N) : r i < w.heap.size := (h.row i hi).lt
theorem tcell (h : Grid B w g N M r P) {i : Nat} (hi : i < N) : w.cell? ⟨g, i, none⟩ = some (.slice (some ⟨r i, 0, none⟩) M M) := World.rowIs.cell h.top hi
theorem cell (h : Grid B w g N M r P) {i j : Nat} (hi : i < N) (hj : j < M) : w.cell? ⟨r i, j, none⟩ = some (.int .i64 (P i j)) := (h.row i hi).cell hj
theorem fz (h : Grid B w g N M r P) {i : Nat} (hi : i < N) (j : Nat) : w.frozen? ⟨r i, j, none⟩ = false := (h.row i hi).frozen j
theorem keep {w' : World} (h : Grid B w g N M r P) (hb : Below w.heap.size w w') : Grid B w' g N M r P :=
  ⟨World.rowIs.of_block h.top (hb.block g h.lt), fun i hi => (h.row i hi).keep hb, h.bg, h.br, h.ne, h.inj⟩
theorem keep_at {w' : World} {C : Nat} (h : Grid B w g N M r P) (hb : Below C w w') (hg : g < C) (hr : ∀ i, i < N → r i < C) : Grid B w' g N M r P :=
  ⟨World.rowIs.of_block h.top (hb.block g hg), fun i hi => (h.row i hi).keep_at hb (hr i hi), h.bg, h.br, h.ne, h.inj⟩
theorem mono {C : Nat} (h : Grid B w g N M r P) (hb : C ≤ B) : Grid C w g N M r P :=
  ⟨h.top, h.row, Nat.le_trans hb h.bg, fun i hi => Nat.le_trans hb (h.br i hi), h.ne, h.inj⟩
/-- kept where other blocks are written -/
theorem other (h : Grid B w g N M r P) {b i : Nat} (hg : g ≠ b) (hr : ∀ i, i < N → r i ≠ b) (x : Value) : Grid B (w.setCell ⟨b, i, none⟩ x) g N M r P :=
  ⟨World.rowIs.of_block h.top (Below.heap_setCell _ _ _ _ hg), fun i hi => (h.row i hi).other (hr i hi) x, h.bg, h.br, h.ne, h.inj⟩
theorem congr (h : Grid B w g N M r P) {P' : Nat → Nat → Int} (e : ∀ i j, i < N → j < M → P i j = P' i j) : Grid B w g N M r P' :=
  ⟨h.top, fun i hi => (h.row i hi).congr (fun j hj => e i j hi hj), h.bg, h.br, h.ne, h.inj⟩
/-- one number is written -/
theorem set (h : Grid B w g N M r P) {a : Nat} (ha : a < N) (b : Nat) (x : Int) : Grid B (w.setCell ⟨r a, b, none⟩ (.int .i64 x)) g N M r (setM P a b x) where
  top := World.rowIs.of_block h.top (Below.heap_setCell _ _ _ _ (fun e => h.ne a ha e.symm))
  row := fun i hi => by
    by_cases c : i = a
    · subst c
      exact (h.row i hi).set b x (fun j hj => by unfold setM; by_cases e : j = b <;> simp [e])
    · refine ((h.row i hi).other (fun e => c (h.inj i a hi ha e)) _).congr (fun j hj => ?_)
      unfold setM; rw [if_neg (fun e => c e.1)]
  bg := h.bg
  br := h.br
  ne := h.ne
  inj := h.inj
/-- a row is put in place -/
theorem fzT (h : Grid B w g N M r P) (i : Nat) : w.frozen? ⟨g, i, none⟩ = false := World.rowIs.frozen h.top i
end Grid

/-- under way: the first k rows stand -/
structure GridTo (B : Nat) (w : World) (g N M k : Nat) (r : Nat → Nat) (P : Nat → Nat → Int) : Prop where
  top : w.rowIs g 35 N (fun i => if i < k then .slice (some ⟨r i, 0, none⟩) M M else .slice none 0 0)
  row : ∀ i, i < k → ITab w (r i) M (P i)
  bg : B ≤ g
  br : ∀ i, i < k → B ≤ r i
  ne : ∀ i, i < k → r i ≠ g
  inj : ∀ i j, i < k → j < k → r i = r j → i = j
namespace GridTo
variable {B : Nat} {w : World} {g N M k : Nat} {r : Nat → Nat} {P : Nat → Nat → Int}
theorem lt (h : GridTo B w g N M k r P) : g < w.heap.size := World.rowIs.lt h.top
theorem start (h : w.rowIs g 35 N (fun _ => .slice none 0 0)) (hB : B ≤ g) : GridTo B w g N M 0 (fun _ => 0) P where
  top := World.rowIs.congr h (fun i _ => by rw [if_neg (by omega)])
  row := fun i hi => by omega
  bg := hB
  br := fun i hi => by omega
  ne := fun i hi => by omega
  inj := fun i j hi => by omega
theorem keep {w' : World} (h : GridTo B w g N M k r P) (hb : Below w.heap.size w w') : GridTo B w' g N M k r P :=
  ⟨World.rowIs.of_block h.top (hb.block g h.lt), fun i hi => (h.row i hi).keep hb, h.bg, h.br, h.ne, h.inj⟩
theorem old (h : GridTo B w g N M k r P) (hk : k < N) : w.cell? ⟨g, k, none⟩ = some (.slice none 0 0) := by
  have := World.rowIs.cell h.top hk
  rw [if_neg (Nat.lt_irrefl k)] at this
  exact this
theorem fz (h : GridTo B w g N M k r P) (i : Nat) : w.frozen? ⟨g, i, none⟩ = false := World.rowIs.frozen h.top i
/-- one more row, in a block that is none of theirs -/
theorem put (h : GridTo B w g N M k r P) {b : Nat} (hb : B ≤ b) (hg : b ≠ g) (hne : ∀ i, i < k → r i ≠ b) {Q : Nat → Int} (hT : ITab w b M Q) :
    GridTo B (w.setCell ⟨g, k, none⟩ (.slice (some ⟨b, 0, none⟩) M M)) g N M (k + 1) (fun i => if i = k then b else r i) (fun i => if i = k then Q else P i) where
  top := World.rowIs.congr (World.rowIs.set h.top k _) (fun i hi => by
    by_cases c : i = k
    · subst c; rw [if_pos rfl, if_pos (by omega), if_pos rfl]
    · rw [if_neg c, if_neg c]
      by_cases c2 : i < k
      · rw [if_pos c2, if_pos (by omega)]
      · rw [if_neg c2, if_neg (by omega)])
  row := fun i hi => by
    by_cases c : i = k
    · subst c; simp only [if_true]; exact hT.other hg _
    · simp only [if_neg c]; exact (h.row i (by omega)).other (h.ne i (by omega)) _
  bg := h.bg
  br := fun i hi => by
    by_cases c : i = k
    · rw [if_pos c]; exact hb
    · rw [if_neg c]; exact h.br i (by omega)
  ne := fun i hi => by
    by_cases c : i = k
    · rw [if_pos c]; exact hg
    · rw [if_neg c]; exact h.ne i (by omega)
  inj := fun i j hi hj => by
    by_cases c : i = k
    · by_cases d : j = k
      · intro _; omega
      · rw [if_pos c, if_neg d]; intro e; exact absurd e.symm (hne j (by omega))
    · by_cases d : j = k
      · rw [if_neg c, if_pos d]; intro e; exact absurd e (hne i (by omega))
      · rw [if_neg c, if_neg d]; exact h.inj i j (by omega) (by omega)
theorem full (h : GridTo B w g N M N r P) : Grid B w g N M r P :=
  ⟨World.rowIs.congr h.top (fun i hi => by rw [if_pos hi]), h.row, h.bg, h.br, h.ne, h.inj⟩
theorem congr (h : GridTo B w g N M k r P) {P' : Nat → Nat → Int} (e : ∀ i j, i < k → j < M → P i j = P' i j) : GridTo B w g N M k r P' :=
  ⟨h.top, fun i hi => (h.row i hi).congr (fun j hj => e i j hi hj), h.bg, h.br, h.ne, h.inj⟩
end GridTo

end Go.Proofs.Ytffnpokceomncaa
