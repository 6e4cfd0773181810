
/-
  Tables of 64-bit numbers.
  Rows of 64-bit numbers that a call makes itself.
  rotaref.Mobius, Characteristic, Levels.
-/
import Derived.Test.YtmcffbmhkbijlaaPk06
import Derived.Test.YtmcffbmhkbijlaaPk16
import Derived.Test.YtmcffbmhkbijlaaPk17
import Derived.Test.YtmcffbmhkbijlaaPk13
namespace Go.Proofs.Ytmcffbmhkbijlaa
open Go.RowKit
set_option linter.unusedVariables false

theorem info_int64 : (Try.prog.info? 2).map (fun i => (i.zero, i.size, i.bytes)) = some (some (.int .i64 0), 1, 8) := by kernel_rfl
/-- a table of numbers in block g -/
def JTab (w : World) (g n : Nat) (A : Nat → Int) : Prop := w.rowIs g 2 n (fun j => .int .i64 (A j))
theorem JTab.lt {w : World} {g n : Nat} {A : Nat → Int} (h : JTab w g n A) : g < w.heap.size := World.rowIs.lt h
theorem JTab.keep {w w' : World} {g n : Nat} {A : Nat → Int} (h : JTab w g n A) (hb : Below w.heap.size w w') : JTab w' g n A := World.rowIs.of_block h (hb.block g (World.rowIs.lt h))
theorem JTab.keep_at {w w' : World} {g n B : Nat} {A : Nat → Int} (h : JTab w g n A) (hb : Below B w w') (hg : g < B) : JTab w' g n A := World.rowIs.of_block h (hb.block g hg)
theorem JTab.cell {w : World} {g n : Nat} {A : Nat → Int} (h : JTab w g n A) {i : Nat} (hi : i < n) : w.cell? ⟨g, i, none⟩ = some (.int .i64 (A i)) := World.rowIs.cell h hi
theorem JTab.frozen {w : World} {g n : Nat} {A : Nat → Int} (h : JTab w g n A) (i : Nat) : w.frozen? ⟨g, i, none⟩ = false := World.rowIs.frozen h i
theorem JTab.set {w : World} {g n : Nat} {A : Nat → Int} (h : JTab w g n A) (i : Nat) (v : Int) {A' : Nat → Int} (e : ∀ j, j < n → A' j = if j = i then v else A j) : JTab (w.setCell ⟨g, i, none⟩ (.int .i64 v)) g n A' :=
  World.rowIs.congr (World.rowIs.set h i _) (fun j hj => by
    show (if j = i then _ else _ : Value) = _
    rw [e j hj]; split <;> rfl)
theorem JTab.congr {w : World} {g n : Nat} {A A' : Nat → Int} (h : JTab w g n A) (e : ∀ j, j < n → A j = A' j) : JTab w g n A' := World.rowIs.congr h (fun j hj => by show Value.int _ _ = Value.int _ _; rw [e j hj])
theorem JTab.other {w : World} {g n : Nat} {A : Nat → Int} (h : JTab w g n A) {b i : Nat} (hne : g ≠ b) (x : Value) : JTab (w.setCell ⟨b, i, none⟩ x) g n A := World.rowIs.of_block h (Below.heap_setCell _ _ _ _ (by rintro rfl; exact hne rfl))
theorem JTab.made (w : World) (n : Nat) : JTab (w.alloc (.cells (madeCells #[.int .i64 0] n) 2)) w.heap.size n (fun _ => 0) := World.rowIs_made w (.int .i64 0) n 2
theorem JTab.ints {w : World} {g n : Nat} {A : Nat → Int} (h : JTab w g n A) : IntsAt w.heap.size w (some ⟨g, 0, none⟩) (tabL n A) := by
  intro _
  refine ⟨g, 0, rfl, h.lt, fun k hk => ?_⟩
  rw [tabL_len] at hk
  rw [tabL_getD hk, Nat.zero_add]
  exact h.cell hk
theorem JTab.reads {w : World} {g n cap : Nat} {A : Nat → Int} (h : JTab w g n A) : Reads w.heap.size w (.slice (some ⟨g, 0, none⟩) n cap) (tabL n A) :=
  ⟨_, _, by rw [tabL_len], h.ints, fun h => by cases h⟩
end Go.Proofs.Ytmcffbmhkbijlaa

namespace Go.Proofs.Ytmcffbmhkbijlaa
open Go.RowKit
set_option linter.unusedVariables false

/-- a row of numbers that the call owns -/
def Own64 (B : Nat) (w : World) (ad : Option Addr) (cap : Nat) (xs : List Int) : Prop := w.ownsRow B 2 1 (.slice ad xs.length cap) xs.length (xs.map (Value.int .i64))
theorem Own64.nil (B : Nat) (w : World) : Own64 B w none 0 [] := World.ownsRow_nil w B 2 1
theorem Own64.reads {B : Nat} {w : World} {ad : Option Addr} {cap : Nat} {xs : List Int} (h : Own64 B w ad cap xs) : IntsAt w.heap.size w ad xs := IntsAt.of_owns h
theorem Own64.cap {B : Nat} {w : World} {ad : Option Addr} {cap : Nat} {xs : List Int} (h : Own64 B w ad cap xs) : ad = none → cap = 0 := by
  rintro rfl
  rcases h.2 with ⟨e, _⟩ | ⟨g, c, cur, e, _⟩
  · simp only [Value.slice.injEq] at e; exact e.2.2
  · simp at e
theorem Own64.alloc {B : Nat} {w : World} {ad : Option Addr} {cap : Nat} {xs : List Int} (h : Own64 B w ad cap xs) (o : Obj) : Own64 B (w.alloc o) ad cap xs := World.ownsRow.alloc h o
/-- kept by whatever leaves old blocks alone -/
theorem Own64.keep {B : Nat} {w w' : World} {ad : Option Addr} {cap : Nat} {xs : List Int} (h : Own64 B w ad cap xs) (hb : Below w.heap.size w w') : Own64 B w' ad cap xs :=
  World.ownsRow.kept (row := none) h ⟨hb.os, hb.tape, hb.output, hb.size, fun k hk _ => hb.block k hk⟩ (by cases (Value.slice ad xs.length cap).ownBlock <;> simp)
/-- kept over a write to a row that is not it -/
theorem Own64.kept {B : Nat} {w w' : World} {ad : Option Addr} {cap : Nat} {xs : List Int} (h : Own64 B w ad cap xs) {row : Option Nat} (hg : w.grownBy w' row) (hne : (Value.slice ad xs.length cap).ownBlock = none ∨ (Value.slice ad xs.length cap).ownBlock ≠ row) : Own64 B w' ad cap xs :=
  World.ownsRow.kept h hg hne
theorem own_below64 {B : Nat} {W w w' : World} {ad : Option Addr} {cap : Nat} {xs : List Int} (u : Below B W w) (hB : B ≤ w.heap.size) (hown : Own64 B w ad cap xs) (hg : w.grownBy w' (Value.slice ad xs.length cap).ownBlock) : Below B W w' :=
  u.grown hg hB (fun k hk => (World.ownsRow.lt hown k hk).1)

theorem Reads.of_own64 {B : Nat} {w : World} {ad : Option Addr} {cap : Nat} {xs : List Int} (h : Own64 B w ad cap xs) : Reads w.heap.size w (.slice ad xs.length cap) xs := ⟨ad, cap, rfl, h.reads, h.cap⟩

end Go.Proofs.Ytmcffbmhkbijlaa

namespace Go.Proofs.Ytmcffbmhkbijlaa
open Go.RowKit
set_option linter.unusedVariables false

/-- of a matroid: rotaref.Closure finds the closure -/
theorem rc_of_clo {m r : Nat} {L : List Nat} (hm : m ≤ 8) (hne : L ≠ []) (hF : Fam8 L r) (hE : Exch L) {s : Nat} (hs : s < bit m) : RcTo (those m (circB m L)) s m 0 (clo m L s) := by
  intro i hi
  rw [show ((clo m L s).testBit i = true ↔ s.testBit i = true ∨ (i < m ∧ rk L (s ||| bit i) = rk L s)) from cloTo_testBit L s m i]
  by_cases hlt : i < m
  · have key := clo_circ hm hne hF hE hs hlt
    have hcir : (∃ c, c ∈ those m (circB m L) ∧ c.testBit i = true ∧ c ||| (s ||| bit i) = (s ||| bit i)) ↔ adds (those m (circB m L)) s i (those m (circB m L)).length := by
      constructor
      · rintro ⟨c, h1, h2⟩
        obtain ⟨j, hj, e⟩ := List.getElem_of_mem h1
        have e2 : (those m (circB m L)).getD j 0 = c := by simp [hj, e]
        exact ⟨j, hj, by rw [e2]; exact h2⟩
      · rintro ⟨j, hj, h2⟩
        exact ⟨_, by simp [hj], h2⟩
    rw [hcir] at key
    constructor
    · rintro (g | g)
      · exact .inl g
      · rcases key.1 (.inr g.2) with h | h
        · exact .inl h
        · exact .inr (.inl ⟨hlt, h⟩)
    · rintro (g | g | g)
      · exact .inl g
      · rcases key.2 (.inr g.2) with h | h
        · exact .inl h
        · exact .inr ⟨hlt, h⟩
      · omega
  · constructor
    · rintro (g | g)
      · exact .inl g
      · omega
    · rintro (g | g | ⟨rfl, j, hj, _⟩)
      · exact .inl g
      · omega
      · omega
theorem sgn_cases (s : Nat) : (((sz s : Nat) : Int) % 2 = 1 ∧ sgn s = -1) ∨ (((sz s : Nat) : Int) % 2 = 0 ∧ sgn s = 1) := by
  unfold sgn
  by_cases c : sz s % 2 = 1
  · rw [if_pos c]; left; omega
  · rw [if_neg c]; right; omega

end Go.Proofs.Ytmcffbmhkbijlaa
