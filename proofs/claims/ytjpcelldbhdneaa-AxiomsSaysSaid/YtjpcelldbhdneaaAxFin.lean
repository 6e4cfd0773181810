
/-
  rotalaw.AxiomsSays returns true, whatever it is handed: the cases joined.
-/
import Derived.Test.YtjpcelldbhdneaaAxLaw
namespace Go.Proofs.Ytjpcelldbhdneaa
open Go.RowKit
set_option linter.unusedVariables false

/-- of a matroid: its bases as a list of sets -/
theorem mat_open {n : Int} {l : List Int} (he : MatIs n l 0) : ∃ (m : Nat) (L : List Nat), n = (m : Int) ∧ m ≤ 8 ∧ l = ints L ∧ toN (ints L) = L := by
  have hfam : isFam n l := he.zero.1.1
  obtain ⟨m, rfl⟩ := Int.eq_ofNat_of_zero_le hfam.1
  have hl := fam_ints hfam
  exact ⟨m, toN l, rfl, by have := hfam.2.1; omega, hl.symm, by rw [hl]⟩
/-- what a matroid's list of bases is -/
structure IsMat (m : Nat) (L : List Nat) : Prop where
  ne : L ≠ []
  fam : Fam8 L (sz (L.getD 0 0))
  exch : Exch L
  lt : ∀ b, b ∈ L → b < bit m
  isfam : isFam (m : Int) (ints L)
theorem IsMat.of {m : Nat} {L : List Nat} (he : MatIs (m : Int) (ints L) 0) (hTN : toN (ints L) = L) : IsMat m L := by
  have hz := he.zero
  have hfam : isFam (m : Int) (ints L) := hz.1.1
  exact ⟨by rintro rfl; exact hz.1.2.1 rfl, by have := hz.1.fam8; rwa [hTN] at this, by have := hz.2; rwa [hTN] at this, by have := fam_lt hfam; rw [hTN] at this; simpa using this, hfam⟩

theorem law_axiomsSays {B : Nat} {W : World} (u : Later B W) (n s : Int) (l : List Int) (a : Option Addr) (cap : Nat) (h : IntsAt B W a l) (hlen : l.length ≤ 4611686018427387904) :
    Calls Try.prog 3 #[.agg #[.int .i64 n, .slice a l.length cap], .int .i64 s] u.val (Ret B W (.bool true)) := by
  obtain ⟨e, he⟩ := MatIs.ex n l
  by_cases h0 : e = 0
  case neg => exact law_ax_no u n s l a cap e h hlen he h0
  subst h0
  obtain ⟨m, L, rfl, hm, rfl, hTN⟩ := mat_open he
  have hM := IsMat.of he hTN
  have hbm := bit_le m hm
  have hall : all (m : Int) = (bit m : Int) - 1 := by rw [all_nat]; omega
  have h256 : ∀ b, b ∈ L → b < 256 := fun b hb => by have := hM.lt b hb; omega
  by_cases hs : isSet (m : Int) s
  case neg =>
    refine law_ax_yes u m hm s L a cap h hlen he hTN false 0 1 rfl (fun _ => rfl) (fun B W v => ?_) (fun h => by cases h) (fun B W v hI => c_axClosure_bad v m s (ints L) a cap hI hlen he hs)
    have := c_isSet v (m : Int) s
    rwa [decide_eq_false hs] at this
  obtain ⟨s, rfl⟩ := Int.eq_ofNat_of_zero_le hs.2.2.1
  have hsb : s < bit m := by have := hs.2.2.2; omega
  obtain ⟨X, hX, hXc⟩ := CloIs.ex m L s
  refine law_ax_yes u m hm s L a cap h hlen he hTN true X 0 rfl (fun h => by cases h) (fun B W v => ?_) (fun _ B W v hI => c_refClosure v m hm s X L h256 (by rw [ints_len] at hlen; exact hlen) a cap hI hsb hX ?_) (fun B W v hI => c_axClosure v m hm s X (ints L) a cap hI hlen he hsb hX (by rw [hTN]; exact hXc))
  · have := c_isSet v (m : Int) (s : Int)
    rwa [decide_eq_true hs] at this
  · intro i hi
    rw [hXc i hi]
    by_cases hlt : i < m
    · have key := clo_circ hm hM.ne hM.fam hM.exch hsb hlt
      have hcir : (∃ c, c ∈ those m (circB m L) ∧ c.testBit i = true ∧ c ||| (s ||| bit i) = (s ||| bit i)) ↔ adds (those m (circB m L)) s i (those m (circB m L)).length := by
        constructor
        · rintro ⟨c, h1, h2⟩
          obtain ⟨j, hj, e⟩ := List.getElem_of_mem h1
          have e2 : (those m (circB m L)).getD j 0 = c := by simp [hj, e]
          exact ⟨j, hj, by rw [e2]; exact h2⟩
        · rintro ⟨j, hj, h2⟩
          exact ⟨_, by simp [hj], h2⟩
      rw [hcir] at key
      constructor
      · rintro (g | g)
        · exact .inl g
        · rcases key.1 (.inr g.2) with h | h
          · exact .inl h
          · exact .inr (.inl ⟨hlt, h⟩)
      · rintro (g | g | g)
        · exact .inl g
        · rcases key.2 (.inr g.2) with h | h
          · exact .inl h
          · exact .inr ⟨hlt, h⟩
        · omega
    · constructor
      · rintro (g | g)
        · exact .inl g
        · omega
      · rintro (g | g | ⟨rfl, j, hj, _⟩)
        · exact .inl g
        · omega
        · omega

end Go.Proofs.Ytjpcelldbhdneaa
