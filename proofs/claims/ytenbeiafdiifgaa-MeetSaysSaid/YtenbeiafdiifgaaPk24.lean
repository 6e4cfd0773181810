
/-
  Rows of 64-bit numbers that a call makes itself.
  rotaref.Mobius, Characteristic, Levels.
-/
import Derived.Test.YtenbeiafdiifgaaPk23
import Derived.Test.YtenbeiafdiifgaaPk21
import Derived.Test.YtenbeiafdiifgaaPk22
import Derived.Test.YtenbeiafdiifgaaPk13
namespace Go.Proofs.Ytenbeiafdiifgaa
open Go.RowKit
set_option linter.unusedVariables false

/-- a row of numbers that the call owns -/
def Own64 (B : Nat) (w : World) (ad : Option Addr) (cap : Nat) (xs : List Int) : Prop := w.ownsRow B 2 1 (.slice ad xs.length cap) xs.length (xs.map (Value.int .i64))
theorem Own64.nil (B : Nat) (w : World) : Own64 B w none 0 [] := World.ownsRow_nil w B 2 1
theorem Own64.reads {B : Nat} {w : World} {ad : Option Addr} {cap : Nat} {xs : List Int} (h : Own64 B w ad cap xs) : IntsAt w.heap.size w ad xs := IntsAt.of_owns h
theorem Own64.cap {B : Nat} {w : World} {ad : Option Addr} {cap : Nat} {xs : List Int} (h : Own64 B w ad cap xs) : ad = none → cap = 0 := by
  rintro rfl
  rcases h.2 with ⟨e, _⟩ | ⟨g, c, cur, e, _⟩
  · simp only [Value.slice.injEq] at e; exact e.2.2
  · simp at e
theorem Own64.alloc {B : Nat} {w : World} {ad : Option Addr} {cap : Nat} {xs : List Int} (h : Own64 B w ad cap xs) (o : Obj) : Own64 B (w.alloc o) ad cap xs := World.ownsRow.alloc h o
/-- kept by whatever leaves old blocks alone -/
theorem Own64.keep {B : Nat} {w w' : World} {ad : Option Addr} {cap : Nat} {xs : List Int} (h : Own64 B w ad cap xs) (hb : Below w.heap.size w w') : Own64 B w' ad cap xs :=
  World.ownsRow.kept (row := none) h ⟨hb.os, hb.tape, hb.output, hb.size, fun k hk _ => hb.block k hk⟩ (by cases (Value.slice ad xs.length cap).ownBlock <;> simp)
/-- kept over a write to a row that is not it -/
theorem Own64.kept {B : Nat} {w w' : World} {ad : Option Addr} {cap : Nat} {xs : List Int} (h : Own64 B w ad cap xs) {row : Option Nat} (hg : w.grownBy w' row) (hne : (Value.slice ad xs.length cap).ownBlock = none ∨ (Value.slice ad xs.length cap).ownBlock ≠ row) : Own64 B w' ad cap xs :=
  World.ownsRow.kept h hg hne
theorem own_below64 {B : Nat} {W w w' : World} {ad : Option Addr} {cap : Nat} {xs : List Int} (u : Below B W w) (hB : B ≤ w.heap.size) (hown : Own64 B w ad cap xs) (hg : w.grownBy w' (Value.slice ad xs.length cap).ownBlock) : Below B W w' :=
  u.grown hg hB (fun k hk => (World.ownsRow.lt hown k hk).1)

theorem Reads.of_own64 {B : Nat} {w : World} {ad : Option Addr} {cap : Nat} {xs : List Int} (h : Own64 B w ad cap xs) : Reads w.heap.size w (.slice ad xs.length cap) xs := ⟨ad, cap, rfl, h.reads, h.cap⟩

end Go.Proofs.Ytenbeiafdiifgaa

namespace Go.Proofs.Ytenbeiafdiifgaa
open Go.RowKit
set_option linter.unusedVariables false

/-- of a matroid: rotaref.Closure finds the closure -/
theorem rc_of_clo {m r : Nat} {L : List Nat} (hm : m ≤ 8) (hne : L ≠ []) (hF : Fam8 L r) (hE : Exch L) {s : Nat} (hs : s < bit m) : RcTo (those m (circB m L)) s m 0 (clo m L s) := by
  intro i hi
  rw [show ((clo m L s).testBit i = true ↔ s.testBit i = true ∨ (i < m ∧ rk L (s ||| bit i) = rk L s)) from cloTo_testBit L s m i]
  by_cases hlt : i < m
  · have key := clo_circ hm hne hF hE hs hlt
    have hcir : (∃ c, c ∈ those m (circB m L) ∧ c.testBit i = true ∧ c ||| (s ||| bit i) = (s ||| bit i)) ↔ adds (those m (circB m L)) s i (those m (circB m L)).length := by
      constructor
      · rintro ⟨c, h1, h2⟩
        obtain ⟨j, hj, e⟩ := List.getElem_of_mem h1
        have e2 : (those m (circB m L)).getD j 0 = c := by simp [hj, e]
        exact ⟨j, hj, by rw [e2]; exact h2⟩
      · rintro ⟨j, hj, h2⟩
        exact ⟨_, by simp [hj], h2⟩
    rw [hcir] at key
    constructor
    · rintro (g | g)
      · exact .inl g
      · rcases key.1 (.inr g.2) with h | h
        · exact .inl h
        · exact .inr (.inl ⟨hlt, h⟩)
    · rintro (g | g | g)
      · exact .inl g
      · rcases key.2 (.inr g.2) with h | h
        · exact .inl h
        · exact .inr ⟨hlt, h⟩
      · omega
  · constructor
    · rintro (g | g)
      · exact .inl g
      · omega
    · rintro (g | g | ⟨rfl, j, hj, _⟩)
      · exact .inl g
      · omega
      · omega
theorem c_refClo {B : Nat} {W : World} (u : Later B W) (m r : Nat) (hm : m ≤ 8) (s : Nat) (L : List Nat) (hne : L ≠ []) (hF : Fam8 L r) (hE : Exch L) (hlen : L.length ≤ 4611686018427387904) (a : Option Addr) (cap : Nat) (h : IntsAt B W a (ints L)) (hs : s < bit m) :
    Calls Try.prog 12 #[.agg #[.int .i64 m, .slice a (ints L).length cap], .int .i64 s] u.val (Ret B W (.int .i64 (clo m L s))) :=
  c_refClosure u m hm s (clo m L s) L hF.lt hlen a cap h hs (by have := clo_lt L hs; have := bit_le m hm; omega) (rc_of_clo hm hne hF hE hs)

theorem sgn_cases (s : Nat) : (((sz s : Nat) : Int) % 2 = 1 ∧ sgn s = -1) ∨ (((sz s : Nat) : Int) % 2 = 0 ∧ sgn s = 1) := by
  unfold sgn
  by_cases c : sz s % 2 = 1
  · rw [if_pos c]; left; omega
  · rw [if_neg c]; right; omega

end Go.Proofs.Ytenbeiafdiifgaa
