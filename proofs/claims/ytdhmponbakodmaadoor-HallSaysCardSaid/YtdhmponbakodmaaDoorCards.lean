/-
  DERIVED. GIVEN WITH THE SEED: THE CARDS: each row of YtdhmponbakodmaaDoorRows.lean that lists a variable, with what it lists TIED to the program's text (the seventh form; the later family's looks); each row that meets fmt, with fmt's text TOLD by the authors' own Lean function (tested against real Go, not proved from fmt's source: count such statements apart). THE CARD IS WHAT COUNTS. Prove the row's statement (the work); the ties are given (YtdhmponbakodmaaDoorTie.lean); close each card by the builder's one call (the guide's Derived/Test/ToyasCard.lean, 'card_holds'). Laid BY PROGRAM, IN A SANDBOX (cutbox-door.mjs). By AI agents, Wed Nov 11 2026. No macro, syntax, notation, axiom, sorry.
-/
import Derived.Test.YtdhmponbakodmaaDoorRows
import GoSem.ClaimSeven
namespace Go.Proofs.YtdhmponbakodmaaDoor
namespace Rows

/-- THE TIED CARD OF 'rotalaw.HallSays'. -/
def hallSaysCard : Claim7 := { stood := { row := hallSaysRow, standIns := [], harness := (true, "f027db8ad3e00e6355bf1670fed99f3d99665ac1c6c9a6f5fda5aaa0e7863254"), looks := false }, kinds := [], alts := [], laidByText := true, laidKinds := [.data, .data], laidTests := true, laidLooks := .later }
def HallSaysCardSaid : Prop := Claim7.holds Tryd.pinned (.plain (OpenSpec.ofChange hallSaysSpec)) hallSaysCard

/-- THE SECOND FORM's CARD OF 'rotalaw.HallSays'. -/
def hallSaysUptoCard : Claim7 := { stood := { row := hallSaysUptoRow, standIns := [], harness := (true, "f027db8ad3e00e6355bf1670fed99f3d99665ac1c6c9a6f5fda5aaa0e7863254"), looks := false }, kinds := [], alts := [], laidByText := true, laidKinds := [.data, .data], laidTests := true, laidLooks := .later }
def HallSaysUptoCardSaid : Prop := Claim7.holds Tryd.pinned (.plain (OpenSpec.upto hallSaysSpec)) hallSaysUptoCard
end Rows
end Go.Proofs.YtdhmponbakodmaaDoor
