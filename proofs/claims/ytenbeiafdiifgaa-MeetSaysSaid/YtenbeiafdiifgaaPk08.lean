
/-
  Tables of numbers that a call makes and writes; results that are a list and an error.
  Structs of two cells; matroids as results.
-/
import Derived.Test.YtenbeiafdiifgaaPk02
import Derived.Test.YtenbeiafdiifgaaPk03
import Derived.Laws.ResultCell
namespace Go.Proofs.Ytenbeiafdiifgaa
open Go.RowKit
set_option linter.unusedVariables false

theorem mk_tab (n : Nat) (h : n ≤ 1048576) : ∀ w : World, (Instr.makeSlice 22 (.int .i64 (n : Int)) (.int .i64 (n : Int))).run Try.prog w = .ok (.slice (some ⟨w.heap.size, 0, none⟩) n n) (w.alloc (.cells (madeCells #[.int .i64 0] n) 3)) :=
  fun w => run_make_row' (P := Try.prog) 22 3 (.int .i64 0) 8 Try.underlying22 info_int rfl .i64 .i64 n (by omega) (by omega) w

/-- a table of numbers in block g -/
def ITab (w : World) (g n : Nat) (A : Nat → Int) : Prop := w.rowIs g 3 n (fun j => .int .i64 (A j))
theorem ITab.lt {w : World} {g n : Nat} {A : Nat → Int} (h : ITab w g n A) : g < w.heap.size := World.rowIs.lt h
theorem ITab.keep {w w' : World} {g n : Nat} {A : Nat → Int} (h : ITab w g n A) (hb : Below w.heap.size w w') : ITab w' g n A := World.rowIs.of_block h (hb.block g (World.rowIs.lt h))
theorem ITab.keep_at {w w' : World} {g n B : Nat} {A : Nat → Int} (h : ITab w g n A) (hb : Below B w w') (hg : g < B) : ITab w' g n A := World.rowIs.of_block h (hb.block g hg)
theorem ITab.cell {w : World} {g n : Nat} {A : Nat → Int} (h : ITab w g n A) {i : Nat} (hi : i < n) : w.cell? ⟨g, i, none⟩ = some (.int .i64 (A i)) := World.rowIs.cell h hi
theorem ITab.frozen {w : World} {g n : Nat} {A : Nat → Int} (h : ITab w g n A) (i : Nat) : w.frozen? ⟨g, i, none⟩ = false := World.rowIs.frozen h i
theorem ITab.set {w : World} {g n : Nat} {A : Nat → Int} (h : ITab w g n A) (i : Nat) (v : Int) {A' : Nat → Int} (e : ∀ j, j < n → A' j = if j = i then v else A j) : ITab (w.setCell ⟨g, i, none⟩ (.int .i64 v)) g n A' :=
  World.rowIs.congr (World.rowIs.set h i _) (fun j hj => by
    show (if j = i then _ else _ : Value) = _
    rw [e j hj]; split <;> rfl)
theorem ITab.congr {w : World} {g n : Nat} {A A' : Nat → Int} (h : ITab w g n A) (e : ∀ j, j < n → A j = A' j) : ITab w g n A' := World.rowIs.congr h (fun j hj => by show Value.int _ _ = Value.int _ _; rw [e j hj])
theorem ITab.other {w : World} {g n : Nat} {A : Nat → Int} (h : ITab w g n A) {b i : Nat} (hne : g ≠ b) (x : Value) : ITab (w.setCell ⟨b, i, none⟩ x) g n A := World.rowIs.of_block h (Below.heap_setCell _ _ _ _ (by rintro rfl; exact hne rfl))
theorem ITab.made (w : World) (n : Nat) : ITab (w.alloc (.cells (madeCells #[.int .i64 0] n) 3)) w.heap.size n (fun _ => 0) := World.rowIs_made w (.int .i64 0) n 3
/-- the numbers of a table -/
def tabL (n : Nat) (A : Nat → Int) : List Int := (List.range n).map A
theorem tabL_len (n : Nat) (A : Nat → Int) : (tabL n A).length = n := by simp [tabL]
theorem tabL_getD {n : Nat} {A : Nat → Int} {i : Nat} (h : i < n) : (tabL n A).getD i 0 = A i := by simp [tabL, h]
theorem tabL_snoc (n : Nat) (A : Nat → Int) : tabL (n + 1) A = tabL n A ++ [A n] := by simp [tabL, List.range_succ]
theorem tabL_congr {n : Nat} {A A' : Nat → Int} (h : ∀ j, j < n → A j = A' j) : tabL n A = tabL n A' := by
  unfold tabL
  exact List.map_congr_left (fun j hj => h j (by simpa using hj))
theorem ITab.ints {w : World} {g n : Nat} {A : Nat → Int} (h : ITab w g n A) : IntsAt w.heap.size w (some ⟨g, 0, none⟩) (tabL n A) := by
  intro _
  refine ⟨g, 0, rfl, h.lt, fun k hk => ?_⟩
  rw [tabL_len] at hk
  rw [tabL_getD hk, Nat.zero_add]
  exact h.cell hk
theorem ITab.reads {w : World} {g n cap : Nat} {A : Nat → Int} (h : ITab w g n A) : Reads w.heap.size w (.slice (some ⟨g, 0, none⟩) n cap) (tabL n A) :=
  ⟨_, _, by rw [tabL_len], h.ints, fun h => by cases h⟩

/-- a list and an error -/
def ListE (xs : List Int) (e : Int) (v : Value) (w : World) : Prop := ∃ v1, v = .tuple #[v1, .int .i64 e] ∧ Reads w.heap.size w v1 xs
theorem ListE.mk {xs : List Int} {e : Int} {v1 : Value} {w : World} (h : Reads w.heap.size w v1 xs) : ListE xs e (.tuple #[v1, .int .i64 e]) w := ⟨v1, rfl, h⟩
theorem ListE.no {e : Int} {w : World} : ListE [] e (.tuple #[.slice none 0 0, .int .i64 e]) w := ⟨_, rfl, Reads.nil _ _⟩

end Go.Proofs.Ytenbeiafdiifgaa

namespace Go.Proofs.Ytenbeiafdiifgaa
open Go.RowKit
set_option linter.unusedVariables false

theorem boxed_cell (w : World) (v : Value) (t : TypeId) (o : Obj) (x : Later ((w.alloc (.cells #[v] t)).alloc o).heap.size ((w.alloc (.cells #[v] t)).alloc o)) : x.val.cell? ⟨w.heap.size, 0, none⟩ = some v := by
  rw [x.cell (by simp; omega)]
  rw [((Below.refl (w.heap.size + 1) (w.alloc (.cells #[v] t))).alloc (by simp) o).cell (p := ⟨w.heap.size, 0, none⟩) (by simp)]
  exact cell_one_new w v t 0 _ rfl

/-- a struct of two cells in block g -/
def Two (w : World) (g : Nat) (t : TypeId) (a b : Value) : Prop := w.heap[g]? = some (.cells #[a, b] t (0, 0))
namespace Two
variable {w : World} {g : Nat} {t : TypeId} {a b : Value}
theorem c0 (h : Two w g t a b) : w.cell? ⟨g, 0, none⟩ = some a := by rw [cell_of_row w g 0 _ _ _ h]; rfl
theorem c1 (h : Two w g t a b) : w.cell? ⟨g, 1, none⟩ = some b := by rw [cell_of_row w g 1 _ _ _ h]; rfl
theorem fz (h : Two w g t a b) (i : Nat) : w.frozen? ⟨g, i, none⟩ = false := by
  unfold World.frozen?
  rw [h]; simp
theorem lt (h : Two w g t a b) : g < w.heap.size := by
  have h' : w.heap[g]? = _ := h
  exact (Array.getElem?_eq_some_iff.1 h').1
theorem keep {w' : World} (h : Two w g t a b) (hb : Below w.heap.size w w') : Two w' g t a b := by
  show w'.heap[g]? = _
  rw [hb.block g h.lt]; exact h
theorem new (w : World) (t : TypeId) (a b : Value) : Two (w.alloc (.cells #[a, b] t)) w.heap.size t a b := heap_alloc_new w _
theorem set0 (h : Two w g t a b) (x : Value) : Two (w.setCell ⟨g, 0, none⟩ x) g t x b := by
  have h' : w.heap[g]? = _ := h
  simp only [Two, World.setCell, Array.getElem?_modify, h']
  simp
theorem set1 (h : Two w g t a b) (x : Value) : Two (w.setCell ⟨g, 1, none⟩ x) g t a x := by
  have h' : w.heap[g]? = _ := h
  simp only [Two, World.setCell, Array.getElem?_modify, h']
  simp
end Two
/-- a row of the call's own is not touched by a write to an older block -/
theorem Own.set {B : Nat} {w : World} {ad : Option Addr} {cap : Nat} {xs : List Int} (h : Own B w ad cap xs) {g i : Nat} (hg : g < B) (x : Value) : Own B (w.setCell ⟨g, i, none⟩ x) ad cap xs := by
  refine h.kept (row := some g) ⟨rfl, rfl, rfl, by simp, fun k hk hne => Below.heap_setCell _ _ _ _ (by rintro rfl; exact hne rfl)⟩ ?_
  cases hb : (Value.slice ad xs.length cap).ownBlock with
  | none => exact .inl rfl
  | some k =>
    right
    have := (World.ownsRow.lt h k hb).1
    rintro e
    cases e
    omega

/-- a result: a matroid, its bases a list of sets -/
def MatV (n : Int) (xs : List Int) (v : Value) (w : World) : Prop := ∃ b, v = .agg #[.int .i64 n, b] ∧ Reads w.heap.size w b xs
def RetMat (B : Nat) (W : World) (n : Int) (xs : List Int) : Ending → World → Prop := RetP B W (MatV n xs)

theorem Own.mono {B B' : Nat} {w : World} {ad : Option Addr} {cap : Nat} {xs : List Int} (h : Own B w ad cap xs) (hb : B' ≤ B) : Own B' w ad cap xs := by
  obtain ⟨h1, h2⟩ := h
  refine ⟨h1, ?_⟩
  rcases h2 with h2 | ⟨g, c, cur, e, hB, r⟩
  · exact .inl h2
  · exact .inr ⟨g, c, cur, e, Nat.le_trans hb hB, r⟩
/-- a result: a matroid whose bases lie in a row of the call's own, at blocks from B on -/
def MatO (B : Nat) (n : Int) (xs : List Int) (v : Value) (w : World) : Prop := ∃ ad cp, v = .agg #[.int .i64 n, .slice ad xs.length cp] ∧ Own B w ad cp xs
theorem MatO.v {B : Nat} {n : Int} {xs : List Int} {v : Value} {w : World} (h : MatO B n xs v w) : MatV n xs v w := by
  obtain ⟨ad, cp, e, ho⟩ := h
  exact ⟨_, e, Reads.of_own ho⟩

theorem Two.keep_at {w w' : World} {g B : Nat} {t : TypeId} {a b : Value} (h : Two w g t a b) (hb : Below B w w') (hg : g < B) : Two w' g t a b := by
  show w'.heap[g]? = _
  rw [hb.block g hg]; exact h

theorem results_two {fn : Func} {p x : Tmp} {ty : TypeId} (h : fn.results = #[.cell p ty, .tmp x]) {P : Program} (tmps : Array Value) (w : World) (g : Nat) {t : TypeId} {a b : Value} {fs : Array Field}
    (hp : tmps.getD p undef = .pointer (some ⟨g, 0, none⟩)) (hT : Two w g t a b)
    (hu : P.underlying ty = some (.struct fs)) (hi : (P.info? ty).map (·.size) = some 2) :
    (results fn tmps).run P w = .ok (.tuple #[.agg #[a, b], tmps.getD x undef]) w := by
  have hl := run_loadVar_row (P := P) w g t ty #[a, b] (0, 0) _ hT hu rfl hi
  rw [results_cell_tmp h, hp]
  simp [asAddr, Result.andThen, hl]

end Go.Proofs.Ytenbeiafdiifgaa
