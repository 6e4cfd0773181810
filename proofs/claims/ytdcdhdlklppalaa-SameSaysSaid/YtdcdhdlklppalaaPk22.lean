
/-
  rotaref.Mobius, Characteristic, Levels.
  axioms.family and its kinds: Independents, Circuits, Flats, Hyperplanes.
  The kinds of sets that axioms.family is asked for: Independents, Circuits, Flats, Hyperplanes.
-/
import Derived.Test.YtdcdhdlklppalaaPk20
import Derived.Test.YtdcdhdlklppalaaPk21
import Derived.Test.YtdcdhdlklppalaaPk18
import Derived.Deep.CutRange
import Derived.Deep.CutBlock
import Derived.Test.YtdcdhdlklppalaaPk17
import Derived.Test.YtdcdhdlklppalaaPk11
import Derived.Test.YtdcdhdlklppalaaPk06
namespace Go.Proofs.Ytdcdhdlklppalaa
open Go.RowKit
set_option linter.unusedVariables false

/-- of a matroid: rotaref.Closure finds the closure -/
theorem rc_of_clo {m r : Nat} {L : List Nat} (hm : m ≤ 8) (hne : L ≠ []) (hF : Fam8 L r) (hE : Exch L) {s : Nat} (hs : s < bit m) : RcTo (those m (circB m L)) s m 0 (clo m L s) := by
  intro i hi
  rw [show ((clo m L s).testBit i = true ↔ s.testBit i = true ∨ (i < m ∧ rk L (s ||| bit i) = rk L s)) from cloTo_testBit L s m i]
  by_cases hlt : i < m
  · have key := clo_circ hm hne hF hE hs hlt
    have hcir : (∃ c, c ∈ those m (circB m L) ∧ c.testBit i = true ∧ c ||| (s ||| bit i) = (s ||| bit i)) ↔ adds (those m (circB m L)) s i (those m (circB m L)).length := by
      constructor
      · rintro ⟨c, h1, h2⟩
        obtain ⟨j, hj, e⟩ := List.getElem_of_mem h1
        have e2 : (those m (circB m L)).getD j 0 = c := by simp [hj, e]
        exact ⟨j, hj, by rw [e2]; exact h2⟩
      · rintro ⟨j, hj, h2⟩
        exact ⟨_, by simp [hj], h2⟩
    rw [hcir] at key
    constructor
    · rintro (g | g)
      · exact .inl g
      · rcases key.1 (.inr g.2) with h | h
        · exact .inl h
        · exact .inr (.inl ⟨hlt, h⟩)
    · rintro (g | g | g)
      · exact .inl g
      · rcases key.2 (.inr g.2) with h | h
        · exact .inl h
        · exact .inr ⟨hlt, h⟩
      · omega
  · constructor
    · rintro (g | g)
      · exact .inl g
      · omega
    · rintro (g | g | ⟨rfl, j, hj, _⟩)
      · exact .inl g
      · omega
      · omega
theorem sgn_cases (s : Nat) : (((sz s : Nat) : Int) % 2 = 1 ∧ sgn s = -1) ∨ (((sz s : Nat) : Int) % 2 = 0 ∧ sgn s = 1) := by
  unfold sgn
  by_cases c : sz s % 2 = 1
  · rw [if_pos c]; left; omega
  · rw [if_neg c]; right; omega

end Go.Proofs.Ytdcdhdlklppalaa

namespace Go.Proofs.Ytdcdhdlklppalaa
open Go.RowKit
set_option linter.unusedVariables false

/-- a result: a list of the call's own, and an error -/
def ListO (B : Nat) (xs : List Int) (e : Int) (v : Value) (w : World) : Prop := ∃ ad cp, v = .tuple #[.slice ad xs.length cp, .int .i64 e] ∧ Own B w ad cp xs
theorem ListO.e {B : Nat} {xs : List Int} {e : Int} {v : Value} {w : World} (h : ListO B xs e v w) : ListE xs e v w := by
  obtain ⟨ad, cp, rfl, ho⟩ := h
  exact ⟨_, rfl, Reads.of_own ho⟩
theorem listE_of {B : Nat} {W : World} {P : Program} {f : FuncId} {args : Array Value} {w : World} {xs : List Int} {e : Int} {B' : Nat} (h : Calls P f args w (RetP B W (ListO B' xs e))) : Calls P f args w (RetP B W (ListE xs e)) := h.mono fun _ _ ⟨v, h1, h2, h3⟩ => ⟨v, h1, h2.e, h3⟩

/-- a function value that tells of a table of ranks and a set whether the set is of a kind -/
def TellsR (B : Nat) (W : World) (m : Nat) (L : List Nat) (k : FuncId) (caps : Array Value) (p : Nat → Bool) : Prop :=
  ∀ (x : Later B W) (g c : Nat), g < x.val.heap.size → ITab x.val g (bit m) (fun j => (rk L j : Int)) → ∀ (v : Later x.val.heap.size x.val) (s : Nat), s < bit m → Calls Try.prog k (#[.slice (some ⟨g, 0, none⟩) (bit m) c, .int .i64 (s : Int)] ++ caps) v.val (Ret x.val.heap.size x.val (.bool (p s)))

end Go.Proofs.Ytdcdhdlklppalaa

namespace Go.Proofs.Ytdcdhdlklppalaa
open Go.RowKit
set_option linter.unusedVariables false

end Go.Proofs.Ytdcdhdlklppalaa
