/-
  DERIVED. GIVEN WITH THE SEED: THE CARDS: each row of YtdhkobeagfmcnaaDoorRows.lean that lists a variable, with what it lists TIED to the program's text (the seventh form; the later family's looks); each row that meets fmt, with fmt's text TOLD by the authors' own Lean function (tested against real Go, not proved from fmt's source: count such statements apart). THE CARD IS WHAT COUNTS. Prove the row's statement (the work); the ties are given (YtdhkobeagfmcnaaDoorTie.lean); close each card by the builder's one call (the guide's Derived/Test/ToyasCard.lean, 'card_holds'). Laid BY PROGRAM, IN A SANDBOX (cutbox-door.mjs). By AI agents, Wed Nov 11 2026. No macro, syntax, notation, axiom, sorry.
-/
import Derived.Test.YtdhkobeagfmcnaaDoorRows
import GoSem.ClaimSeven
namespace Go.Proofs.YtdhkobeagfmcnaaDoor
namespace Rows

/-- THE TIED CARD OF 'rotalaw.ConvexMakes'. -/
def convexMakesCard : Claim7 := { stood := { row := convexMakesRow, standIns := [], harness := (true, "4d8b0742056c2ea9ac932beb5285d97f3c2cb063bcb3ccd4b3973c6a3110c993"), looks := false }, kinds := [], alts := [], laidByText := true, laidKinds := [.data, .data], laidTests := true, laidLooks := .later }
def ConvexMakesCardSaid : Prop := Claim7.holds Tryd.pinned (.plain (OpenSpec.ofChange convexMakesSpec)) convexMakesCard

/-- THE SECOND FORM's CARD OF 'rotalaw.ConvexMakes'. -/
def convexMakesUptoCard : Claim7 := { stood := { row := convexMakesUptoRow, standIns := [], harness := (true, "4d8b0742056c2ea9ac932beb5285d97f3c2cb063bcb3ccd4b3973c6a3110c993"), looks := false }, kinds := [], alts := [], laidByText := true, laidKinds := [.data, .data], laidTests := true, laidLooks := .later }
def ConvexMakesUptoCardSaid : Prop := Claim7.holds Tryd.pinned (.plain (OpenSpec.upto convexMakesSpec)) convexMakesUptoCard
end Rows
end Go.Proofs.YtdhkobeagfmcnaaDoor
