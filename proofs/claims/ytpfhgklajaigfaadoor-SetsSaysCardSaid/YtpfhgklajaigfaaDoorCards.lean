/-
  DERIVED. GIVEN WITH THE SEED: THE CARDS: each row of YtpfhgklajaigfaaDoorRows.lean that lists a variable, with what it lists TIED to the program's text (the seventh form; the later family's looks); each row that meets fmt, with fmt's text TOLD by the authors' own Lean function (tested against real Go, not proved from fmt's source: count such statements apart). THE CARD IS WHAT COUNTS. Prove the row's statement (the work); the ties are given (YtpfhgklajaigfaaDoorTie.lean); close each card by the builder's one call (the guide's Derived/Test/ToyasCard.lean, 'card_holds'). Laid BY PROGRAM, IN A SANDBOX (cutbox-door.mjs). By AI agents, Wed Nov 11 2026. No macro, syntax, notation, axiom, sorry.
-/
import Derived.Test.YtpfhgklajaigfaaDoorRows
import GoSem.ClaimSeven
namespace Go.Proofs.YtpfhgklajaigfaaDoor
namespace Rows

/-- THE TIED CARD OF 'rotalaw.SetsSays'. -/
def setsSaysCard : Claim7 := { stood := { row := setsSaysRow, standIns := [], harness := (true, "a8d0b44bcca3de72366a81493702bbd90833280f36ab9287722c812378702dc0"), looks := false }, kinds := [], alts := [], laidByText := true, laidKinds := [.data, .data, .data], laidTests := true, laidLooks := .later }
def SetsSaysCardSaid : Prop := Claim7.holds Tryd.pinned (.plain (OpenSpec.ofChange setsSaysSpec)) setsSaysCard

/-- THE SECOND FORM's CARD OF 'rotalaw.SetsSays'. -/
def setsSaysUptoCard : Claim7 := { stood := { row := setsSaysUptoRow, standIns := [], harness := (true, "a8d0b44bcca3de72366a81493702bbd90833280f36ab9287722c812378702dc0"), looks := false }, kinds := [], alts := [], laidByText := true, laidKinds := [.data, .data, .data], laidTests := true, laidLooks := .later }
def SetsSaysUptoCardSaid : Prop := Claim7.holds Tryd.pinned (.plain (OpenSpec.upto setsSaysSpec)) setsSaysUptoCard
end Rows
end Go.Proofs.YtpfhgklajaigfaaDoor
