
/-
  hall.Check, rotaref.Lists, rotaref.Several.
  Tables of numbers that a call makes and writes; results that are a list and an error.
  Boxes of one cell.
-/
import Derived.Deep.CutRange
import Derived.Deep.CutBlock
import Derived.Test.YtdcdhdlklppalaaPk05
import Derived.IntWalk
import Derived.Test.YtdcdhdlklppalaaPk02
namespace Go.Proofs.Ytdcdhdlklppalaa
open Go.RowKit
set_option linter.unusedVariables false

/-- a list of sets of n elements -/
def okL (n : Int) (l : List Int) : Prop := 0 ≤ n ∧ n ≤ 8 ∧ ∀ i, i < l.length → isSet n (l.getD i 0)
/-- what the check of a list of sets answers -/
def LisIs (n : Int) (l : List Int) (e : Int) : Prop := (¬ okL n l → e = 1) ∧ (okL n l → 8 < l.length → e = 2) ∧ (okL n l → l.length ≤ 8 → e = 0)
theorem LisIs.ex (n : Int) (l : List Int) : ∃ e, LisIs n l e := by
  by_cases h : okL n l
  · by_cases g : l.length ≤ 8
    · exact ⟨0, fun x => absurd h x, fun _ x => by omega, fun _ _ => rfl⟩
    · exact ⟨2, fun x => absurd h x, fun _ _ => rfl, fun _ x => absurd x g⟩
  · exact ⟨1, fun _ => rfl, fun x => absurd x h, fun x => absurd x h⟩
theorem LisIs.zero {n : Int} {l : List Int} (h : LisIs n l 0) : okL n l ∧ l.length ≤ 8 := by
  by_cases hk : okL n l
  · by_cases g : l.length ≤ 8
    · exact ⟨hk, g⟩
    · have := h.2.1 hk (by omega); omega
  · have := h.1 hk; omega

/-- several sets of a list together -/
def sevTo (ls : List Nat) (s : Nat) : Nat → Nat
  | 0 => 0
  | k + 1 => if s.testBit k = true then sevTo ls s k ||| ls.getD k 0 else sevTo ls s k
theorem sevTo_lt {ls : List Nat} {m : Nat} (h : ∀ k, k < ls.length → ls.getD k 0 < bit m) (s : Nat) {k : Nat} (hk : k ≤ ls.length) : sevTo ls s k < bit m := by
  induction k with
  | zero => show 0 < 2 ^ m; exact Nat.pow_pos (by decide)
  | succ k ih =>
    unfold sevTo
    split
    · exact Nat.or_lt_two_pow (ih (by omega)) (h k (by omega))
    · exact ih (by omega)
def sev (ls : List Nat) (s : Nat) : Nat := sevTo ls s ls.length

end Go.Proofs.Ytdcdhdlklppalaa

namespace Go.Proofs.Ytdcdhdlklppalaa
open Go.RowKit
set_option linter.unusedVariables false

theorem mk_tab (n : Nat) (h : n ≤ 1048576) : ∀ w : World, (Instr.makeSlice 22 (.int .i64 (n : Int)) (.int .i64 (n : Int))).run Try.prog w = .ok (.slice (some ⟨w.heap.size, 0, none⟩) n n) (w.alloc (.cells (madeCells #[.int .i64 0] n) 3)) :=
  fun w => run_make_row' (P := Try.prog) 22 3 (.int .i64 0) 8 Try.underlying22 info_int rfl .i64 .i64 n (by omega) (by omega) w

/-- a table of numbers in block g -/
def ITab (w : World) (g n : Nat) (A : Nat → Int) : Prop := w.rowIs g 3 n (fun j => .int .i64 (A j))
theorem ITab.lt {w : World} {g n : Nat} {A : Nat → Int} (h : ITab w g n A) : g < w.heap.size := World.rowIs.lt h
theorem ITab.keep {w w' : World} {g n : Nat} {A : Nat → Int} (h : ITab w g n A) (hb : Below w.heap.size w w') : ITab w' g n A := World.rowIs.of_block h (hb.block g (World.rowIs.lt h))
theorem ITab.keep_at {w w' : World} {g n B : Nat} {A : Nat → Int} (h : ITab w g n A) (hb : Below B w w') (hg : g < B) : ITab w' g n A := World.rowIs.of_block h (hb.block g hg)
theorem ITab.cell {w : World} {g n : Nat} {A : Nat → Int} (h : ITab w g n A) {i : Nat} (hi : i < n) : w.cell? ⟨g, i, none⟩ = some (.int .i64 (A i)) := World.rowIs.cell h hi
theorem ITab.frozen {w : World} {g n : Nat} {A : Nat → Int} (h : ITab w g n A) (i : Nat) : w.frozen? ⟨g, i, none⟩ = false := World.rowIs.frozen h i
theorem ITab.set {w : World} {g n : Nat} {A : Nat → Int} (h : ITab w g n A) (i : Nat) (v : Int) {A' : Nat → Int} (e : ∀ j, j < n → A' j = if j = i then v else A j) : ITab (w.setCell ⟨g, i, none⟩ (.int .i64 v)) g n A' :=
  World.rowIs.congr (World.rowIs.set h i _) (fun j hj => by
    show (if j = i then _ else _ : Value) = _
    rw [e j hj]; split <;> rfl)
theorem ITab.congr {w : World} {g n : Nat} {A A' : Nat → Int} (h : ITab w g n A) (e : ∀ j, j < n → A j = A' j) : ITab w g n A' := World.rowIs.congr h (fun j hj => by show Value.int _ _ = Value.int _ _; rw [e j hj])
theorem ITab.other {w : World} {g n : Nat} {A : Nat → Int} (h : ITab w g n A) {b i : Nat} (hne : g ≠ b) (x : Value) : ITab (w.setCell ⟨b, i, none⟩ x) g n A := World.rowIs.of_block h (Below.heap_setCell _ _ _ _ (by rintro rfl; exact hne rfl))
theorem ITab.made (w : World) (n : Nat) : ITab (w.alloc (.cells (madeCells #[.int .i64 0] n) 3)) w.heap.size n (fun _ => 0) := World.rowIs_made w (.int .i64 0) n 3
/-- the numbers of a table -/
def tabL (n : Nat) (A : Nat → Int) : List Int := (List.range n).map A
theorem tabL_len (n : Nat) (A : Nat → Int) : (tabL n A).length = n := by simp [tabL]
theorem tabL_getD {n : Nat} {A : Nat → Int} {i : Nat} (h : i < n) : (tabL n A).getD i 0 = A i := by simp [tabL, h]
theorem tabL_snoc (n : Nat) (A : Nat → Int) : tabL (n + 1) A = tabL n A ++ [A n] := by simp [tabL, List.range_succ]
theorem tabL_congr {n : Nat} {A A' : Nat → Int} (h : ∀ j, j < n → A j = A' j) : tabL n A = tabL n A' := by
  unfold tabL
  exact List.map_congr_left (fun j hj => h j (by simpa using hj))
theorem ITab.ints {w : World} {g n : Nat} {A : Nat → Int} (h : ITab w g n A) : IntsAt w.heap.size w (some ⟨g, 0, none⟩) (tabL n A) := by
  intro _
  refine ⟨g, 0, rfl, h.lt, fun k hk => ?_⟩
  rw [tabL_len] at hk
  rw [tabL_getD hk, Nat.zero_add]
  exact h.cell hk
theorem ITab.reads {w : World} {g n cap : Nat} {A : Nat → Int} (h : ITab w g n A) : Reads w.heap.size w (.slice (some ⟨g, 0, none⟩) n cap) (tabL n A) :=
  ⟨_, _, by rw [tabL_len], h.ints, fun h => by cases h⟩

/-- a list and an error -/
def ListE (xs : List Int) (e : Int) (v : Value) (w : World) : Prop := ∃ v1, v = .tuple #[v1, .int .i64 e] ∧ Reads w.heap.size w v1 xs
theorem ListE.mk {xs : List Int} {e : Int} {v1 : Value} {w : World} (h : Reads w.heap.size w v1 xs) : ListE xs e (.tuple #[v1, .int .i64 e]) w := ⟨v1, rfl, h⟩
theorem ListE.no {e : Int} {w : World} : ListE [] e (.tuple #[.slice none 0 0, .int .i64 e]) w := ⟨_, rfl, Reads.nil _ _⟩

end Go.Proofs.Ytdcdhdlklppalaa

namespace Go.Proofs.Ytdcdhdlklppalaa
open Go.RowKit
set_option linter.unusedVariables false

/-- a box of one cell -/
def RowAt1 (w : World) (g : Nat) (t : TypeId) (v : Value) : Prop := w.heap[g]? = some (.cells #[v] t (0, 0))
theorem RowAt1.c0 {w : World} {g : Nat} {t : TypeId} {v : Value} (h : RowAt1 w g t v) : w.cell? ⟨g, 0, none⟩ = some v := by rw [cell_of_row w g 0 _ _ _ h]; rfl
theorem RowAt1.lt {w : World} {g : Nat} {t : TypeId} {v : Value} (h : RowAt1 w g t v) : g < w.heap.size := by
  have h' : w.heap[g]? = _ := h
  exact (Array.getElem?_eq_some_iff.1 h').1
theorem RowAt1.keep {w w' : World} {g : Nat} {t : TypeId} {v : Value} (h : RowAt1 w g t v) (hb : Below w.heap.size w w') : RowAt1 w' g t v := by
  show w'.heap[g]? = _
  rw [hb.block g h.lt]; exact h

theorem row1_under {w : World} {g : Nat} {t : TypeId} {v : Value} (h : RowAt1 w g t v) (o : Obj) : RowAt1 (w.alloc o) g t v := h.keep ((Below.refl _ _).alloc (Nat.le_refl _) _)
theorem two_under {w : World} {g : Nat} {t : TypeId} {x y : Value} (h : Two w g t x y) (o : Obj) : Two (w.alloc o) g t x y := h.keep ((Below.refl _ _).alloc (Nat.le_refl _) _)

theorem own_some {B : Nat} {w : World} {ad : Option Addr} {cap : Nat} {xs : List Int} (h : Own B w ad cap xs) (hne : xs ≠ []) : ∃ g, ad = some ⟨g, 0, none⟩ := by
  rcases h.2 with ⟨e, hn0⟩ | ⟨g, c, cur, e, _⟩
  · exact absurd (List.length_eq_zero_iff.1 hn0) hne
  · exact ⟨g, by simp only [Value.slice.injEq] at e; exact e.1⟩


end Go.Proofs.Ytdcdhdlklppalaa
