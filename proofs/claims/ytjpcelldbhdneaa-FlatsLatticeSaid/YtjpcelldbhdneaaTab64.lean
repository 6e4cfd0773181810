
/-
  Tables of 64-bit numbers.
-/
import Derived.Test.YtjpcelldbhdneaaTabs
namespace Go.Proofs.Ytjpcelldbhdneaa
open Go.RowKit
set_option linter.unusedVariables false

theorem info_int64 : (Try.prog.info? 2).map (fun i => (i.zero, i.size, i.bytes)) = some (some (.int .i64 0), 1, 8) := by kernel_rfl
theorem mk_tab64 (n : Nat) (h : n ≤ 1048576) : ∀ w : World, (Instr.makeSlice 59 (.int .i64 (n : Int)) (.int .i64 (n : Int))).run Try.prog w = .ok (.slice (some ⟨w.heap.size, 0, none⟩) n n) (w.alloc (.cells (madeCells #[.int .i64 0] n) 2)) :=
  fun w => run_make_row' (P := Try.prog) 59 2 (.int .i64 0) 8 Try.underlying59 info_int64 rfl .i64 .i64 n (by omega) (by omega) w

/-- a table of numbers in block g -/
def JTab (w : World) (g n : Nat) (A : Nat → Int) : Prop := w.rowIs g 2 n (fun j => .int .i64 (A j))
theorem JTab.lt {w : World} {g n : Nat} {A : Nat → Int} (h : JTab w g n A) : g < w.heap.size := World.rowIs.lt h
theorem JTab.keep {w w' : World} {g n : Nat} {A : Nat → Int} (h : JTab w g n A) (hb : Below w.heap.size w w') : JTab w' g n A := World.rowIs.of_block h (hb.block g (World.rowIs.lt h))
theorem JTab.keep_at {w w' : World} {g n B : Nat} {A : Nat → Int} (h : JTab w g n A) (hb : Below B w w') (hg : g < B) : JTab w' g n A := World.rowIs.of_block h (hb.block g hg)
theorem JTab.cell {w : World} {g n : Nat} {A : Nat → Int} (h : JTab w g n A) {i : Nat} (hi : i < n) : w.cell? ⟨g, i, none⟩ = some (.int .i64 (A i)) := World.rowIs.cell h hi
theorem JTab.frozen {w : World} {g n : Nat} {A : Nat → Int} (h : JTab w g n A) (i : Nat) : w.frozen? ⟨g, i, none⟩ = false := World.rowIs.frozen h i
theorem JTab.set {w : World} {g n : Nat} {A : Nat → Int} (h : JTab w g n A) (i : Nat) (v : Int) {A' : Nat → Int} (e : ∀ j, j < n → A' j = if j = i then v else A j) : JTab (w.setCell ⟨g, i, none⟩ (.int .i64 v)) g n A' :=
  World.rowIs.congr (World.rowIs.set h i _) (fun j hj => by
    show (if j = i then _ else _ : Value) = _
    rw [e j hj]; split <;> rfl)
theorem JTab.congr {w : World} {g n : Nat} {A A' : Nat → Int} (h : JTab w g n A) (e : ∀ j, j < n → A j = A' j) : JTab w g n A' := World.rowIs.congr h (fun j hj => by show Value.int _ _ = Value.int _ _; rw [e j hj])
theorem JTab.other {w : World} {g n : Nat} {A : Nat → Int} (h : JTab w g n A) {b i : Nat} (hne : g ≠ b) (x : Value) : JTab (w.setCell ⟨b, i, none⟩ x) g n A := World.rowIs.of_block h (Below.heap_setCell _ _ _ _ (by rintro rfl; exact hne rfl))
theorem JTab.made (w : World) (n : Nat) : JTab (w.alloc (.cells (madeCells #[.int .i64 0] n) 2)) w.heap.size n (fun _ => 0) := World.rowIs_made w (.int .i64 0) n 2
theorem JTab.ints {w : World} {g n : Nat} {A : Nat → Int} (h : JTab w g n A) : IntsAt w.heap.size w (some ⟨g, 0, none⟩) (tabL n A) := by
  intro _
  refine ⟨g, 0, rfl, h.lt, fun k hk => ?_⟩
  rw [tabL_len] at hk
  rw [tabL_getD hk, Nat.zero_add]
  exact h.cell hk
theorem JTab.reads {w : World} {g n cap : Nat} {A : Nat → Int} (h : JTab w g n A) : Reads w.heap.size w (.slice (some ⟨g, 0, none⟩) n cap) (tabL n A) :=
  ⟨_, _, by rw [tabL_len], h.ints, fun h => by cases h⟩
end Go.Proofs.Ytjpcelldbhdneaa
