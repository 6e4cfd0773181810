
/-
  minors.Truncate.
  A list of bases that the check lets pass, opened.
-/
import Derived.Test.YtefkhnibempibaaPk34
import Derived.Test.YtefkhnibempibaaPk35
import Derived.Test.YtefkhnibempibaaPk28
import Derived.Test.YtefkhnibempibaaPk17
import Derived.Test.YtefkhnibempibaaPk11
namespace Go.Proofs.Ytefkhnibempibaa
open Go.RowKit
set_option linter.unusedVariables false

theorem filt_ints (I : List Nat) (k : Int) : (ints I).filter (fun x => !(fun y : Int => !decide ((sz y.toNat : Int) = k)) x) = ints (I.filter (fun s => decide ((sz s : Int) = k))) := by
  unfold ints
  rw [List.filter_map]
  congr 1
  refine List.filter_congr (fun x _ => ?_)
  simp

end Go.Proofs.Ytefkhnibempibaa

namespace Go.Proofs.Ytefkhnibempibaa
open Go.RowKit
set_option linter.unusedVariables false

/-- of a matroid: its bases as a list of sets -/
theorem mat_open {n : Int} {l : List Int} (he : MatIs n l 0) : ∃ (m : Nat) (L : List Nat), n = (m : Int) ∧ m ≤ 8 ∧ l = ints L ∧ toN (ints L) = L := by
  have hfam : isFam n l := he.zero.1.1
  obtain ⟨m, rfl⟩ := Int.eq_ofNat_of_zero_le hfam.1
  have hl := fam_ints hfam
  exact ⟨m, toN l, rfl, by have := hfam.2.1; omega, hl.symm, by rw [hl]⟩
/-- what a matroid's list of bases is -/
structure IsMat (m : Nat) (L : List Nat) : Prop where
  ne : L ≠ []
  fam : Fam8 L (sz (L.getD 0 0))
  exch : Exch L
  lt : ∀ b, b ∈ L → b < bit m
  isfam : isFam (m : Int) (ints L)
theorem IsMat.of {m : Nat} {L : List Nat} (he : MatIs (m : Int) (ints L) 0) (hTN : toN (ints L) = L) : IsMat m L := by
  have hz := he.zero
  have hfam : isFam (m : Int) (ints L) := hz.1.1
  exact ⟨by rintro rfl; exact hz.1.2.1 rfl, by have := hz.1.fam8; rwa [hTN] at this, by have := hz.2; rwa [hTN] at this, by have := fam_lt hfam; rw [hTN] at this; simpa using this, hfam⟩

end Go.Proofs.Ytefkhnibempibaa
