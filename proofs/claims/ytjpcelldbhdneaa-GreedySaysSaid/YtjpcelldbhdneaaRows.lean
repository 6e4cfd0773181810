/-
  No cell of these rows narrows 'for every input' (looked for: loops, veiled, ifaces, maps, wideKeys, modest, calm, conditions, laid).
  DERIVED. THE GIVEN ROWS OF THIS SEAT. 10 by the template 'for every input the law returns true; each argument reads behind the call as it read before'; 0 by the template 'total and deterministic' (their statements: YtjpcelldbhdneaaTotals.lean).
  GIVEN WITH THE SEED: the statements are not yours to turn. If you find one false, say at which input.
  Laid BY PROGRAM, IN A SANDBOX (cutbox-rows.mjs): the forced cells as the released guide's own fill.sh prints them over the translation d6a847a77140e618… (all of the seat's roots in one cut). By AI agents, Wed Nov 11 2026. No macro, syntax, notation, axiom, sorry.
-/
import Derived.Test.YtjpcelldbhdneaaChecked
import GoSem.Claim
import GoSem.ClaimJoined
import GoSem.ClaimMapViews
import Derived.JoinedTies
import Derived.KernelRfl
namespace Go.Proofs.Ytjpcelldbhdneaa
/- THE CELL 'sum', in the pinned program and in every row, IS THE sha256 OF THE DUMP (.gsa) THAT YtjpcelldbhdneaaProg.lean LOADS. Nothing in Lean hashes anything: it is a label: what it is worth is what the hold of that sum in a sandbox is worth. -/
noncomputable def Try.pinned : Pinned := { name := "ytjpcelldbhdneaa", sum := "d6a847a77140e618fd2a63c4454dbfbd7fd56d544ab2ed70370183687a8b45f2", checked := Try.checked }
namespace Rows
def none {H : Type} : Left H := { results := [], args := [] }

/-- 'rotalaw.AxiomsSays': WHATEVER THE INPUT: true; the input reads as it did. -/
def axiomsSaysSpec : ChangeSpec := { name := "axiomsSays", fn := fun _ => fun
  | [d1, d2] => { results := [.lit (.bool true)], args := [d1, d2] }
  | _ => none }
def axiomsSaysRow : OpenClaim := { program := "ytjpcelldbhdneaa", sum := "d6a847a77140e618fd2a63c4454dbfbd7fd56d544ab2ed70370183687a8b45f2", func := "rota/rotalaw.AxiomsSays", spec := "axiomsSays", unfollowed := true, recurses := true, apart := false }
def AxiomsSaysSaid : Prop := axiomsSaysRow.holds Try.pinned (OpenSpec.ofChange axiomsSaysSpec)

/-- ITS FALSE NEIGHBOUR: 'it returns false'. Refute it at one input. -/
def axiomsSaysWrong : ChangeSpec := { name := "axiomsSays", fn := fun _ => fun
  | [d1, d2] => { results := [.lit (.bool false)], args := [d1, d2] }
  | _ => none }
def AxiomsSaysWrongFalsely : Prop := axiomsSaysRow.holds Try.pinned (OpenSpec.ofChange axiomsSaysWrong)

/-- 'rotalaw.AxiomsMakes': WHATEVER THE INPUT: true; the input reads as it did. -/
def axiomsMakesSpec : ChangeSpec := { name := "axiomsMakes", fn := fun _ => fun
  | [d1, d2, d3] => { results := [.lit (.bool true)], args := [d1, d2, d3] }
  | _ => none }
def axiomsMakesRow : OpenClaim := { program := "ytjpcelldbhdneaa", sum := "d6a847a77140e618fd2a63c4454dbfbd7fd56d544ab2ed70370183687a8b45f2", func := "rota/rotalaw.AxiomsMakes", spec := "axiomsMakes", unfollowed := true, recurses := true, apart := false }
def AxiomsMakesSaid : Prop := axiomsMakesRow.holds Try.pinned (OpenSpec.ofChange axiomsMakesSpec)

/-- ITS FALSE NEIGHBOUR: 'it returns false'. Refute it at one input. -/
def axiomsMakesWrong : ChangeSpec := { name := "axiomsMakes", fn := fun _ => fun
  | [d1, d2, d3] => { results := [.lit (.bool false)], args := [d1, d2, d3] }
  | _ => none }
def AxiomsMakesWrongFalsely : Prop := axiomsMakesRow.holds Try.pinned (OpenSpec.ofChange axiomsMakesWrong)

/-- 'rotalaw.MinorsSays': WHATEVER THE INPUT: true; the input reads as it did. -/
def minorsSaysSpec : ChangeSpec := { name := "minorsSays", fn := fun _ => fun
  | [d1, d2, d3] => { results := [.lit (.bool true)], args := [d1, d2, d3] }
  | _ => none }
def minorsSaysRow : OpenClaim := { program := "ytjpcelldbhdneaa", sum := "d6a847a77140e618fd2a63c4454dbfbd7fd56d544ab2ed70370183687a8b45f2", func := "rota/rotalaw.MinorsSays", spec := "minorsSays", unfollowed := true, recurses := true, apart := false }
def MinorsSaysSaid : Prop := minorsSaysRow.holds Try.pinned (OpenSpec.ofChange minorsSaysSpec)

/-- ITS FALSE NEIGHBOUR: 'it returns false'. Refute it at one input. -/
def minorsSaysWrong : ChangeSpec := { name := "minorsSays", fn := fun _ => fun
  | [d1, d2, d3] => { results := [.lit (.bool false)], args := [d1, d2, d3] }
  | _ => none }
def MinorsSaysWrongFalsely : Prop := minorsSaysRow.holds Try.pinned (OpenSpec.ofChange minorsSaysWrong)

/-- 'rotalaw.MinorsMakes': WHATEVER THE INPUT: true; the input reads as it did. -/
def minorsMakesSpec : ChangeSpec := { name := "minorsMakes", fn := fun _ => fun
  | [d1, d2, d3] => { results := [.lit (.bool true)], args := [d1, d2, d3] }
  | _ => none }
def minorsMakesRow : OpenClaim := { program := "ytjpcelldbhdneaa", sum := "d6a847a77140e618fd2a63c4454dbfbd7fd56d544ab2ed70370183687a8b45f2", func := "rota/rotalaw.MinorsMakes", spec := "minorsMakes", unfollowed := true, recurses := true, apart := false }
def MinorsMakesSaid : Prop := minorsMakesRow.holds Try.pinned (OpenSpec.ofChange minorsMakesSpec)

/-- ITS FALSE NEIGHBOUR: 'it returns false'. Refute it at one input. -/
def minorsMakesWrong : ChangeSpec := { name := "minorsMakes", fn := fun _ => fun
  | [d1, d2, d3] => { results := [.lit (.bool false)], args := [d1, d2, d3] }
  | _ => none }
def MinorsMakesWrongFalsely : Prop := minorsMakesRow.holds Try.pinned (OpenSpec.ofChange minorsMakesWrong)

/-- 'rotalaw.FlatsSays': WHATEVER THE INPUT: true; the input reads as it did. -/
def flatsSaysSpec : ChangeSpec := { name := "flatsSays", fn := fun _ => fun
  | [d] => { results := [.lit (.bool true)], args := [d] }
  | _ => none }
def flatsSaysRow : OpenClaim := { program := "ytjpcelldbhdneaa", sum := "d6a847a77140e618fd2a63c4454dbfbd7fd56d544ab2ed70370183687a8b45f2", func := "rota/rotalaw.FlatsSays", spec := "flatsSays", unfollowed := true, recurses := true, apart := false }
def FlatsSaysSaid : Prop := flatsSaysRow.holds Try.pinned (OpenSpec.ofChange flatsSaysSpec)

/-- ITS FALSE NEIGHBOUR: 'it returns false'. Refute it at one input. -/
def flatsSaysWrong : ChangeSpec := { name := "flatsSays", fn := fun _ => fun
  | [d] => { results := [.lit (.bool false)], args := [d] }
  | _ => none }
def FlatsSaysWrongFalsely : Prop := flatsSaysRow.holds Try.pinned (OpenSpec.ofChange flatsSaysWrong)

/-- 'rotalaw.FlatsLattice': WHATEVER THE INPUT: true; the input reads as it did. -/
def flatsLatticeSpec : ChangeSpec := { name := "flatsLattice", fn := fun _ => fun
  | [d1, d2] => { results := [.lit (.bool true)], args := [d1, d2] }
  | _ => none }
def flatsLatticeRow : OpenClaim := { program := "ytjpcelldbhdneaa", sum := "d6a847a77140e618fd2a63c4454dbfbd7fd56d544ab2ed70370183687a8b45f2", func := "rota/rotalaw.FlatsLattice", spec := "flatsLattice", unfollowed := true, recurses := true, apart := false }
def FlatsLatticeSaid : Prop := flatsLatticeRow.holds Try.pinned (OpenSpec.ofChange flatsLatticeSpec)

/-- ITS FALSE NEIGHBOUR: 'it returns false'. Refute it at one input. -/
def flatsLatticeWrong : ChangeSpec := { name := "flatsLattice", fn := fun _ => fun
  | [d1, d2] => { results := [.lit (.bool false)], args := [d1, d2] }
  | _ => none }
def FlatsLatticeWrongFalsely : Prop := flatsLatticeRow.holds Try.pinned (OpenSpec.ofChange flatsLatticeWrong)

/-- 'rotalaw.GreedySays': WHATEVER THE INPUT: true; the input reads as it did. -/
def greedySaysSpec : ChangeSpec := { name := "greedySays", fn := fun _ => fun
  | [d1, d2, d3] => { results := [.lit (.bool true)], args := [d1, d2, d3] }
  | _ => none }
def greedySaysRow : OpenClaim := { program := "ytjpcelldbhdneaa", sum := "d6a847a77140e618fd2a63c4454dbfbd7fd56d544ab2ed70370183687a8b45f2", func := "rota/rotalaw.GreedySays", spec := "greedySays", inPlace := ["slices.overlaps[int]"], unfollowed := true, recurses := true, apart := false }
def GreedySaysSaid : Prop := greedySaysRow.holds Try.pinned (OpenSpec.ofChange greedySaysSpec)

/-- ITS FALSE NEIGHBOUR: 'it returns false'. Refute it at one input. -/
def greedySaysWrong : ChangeSpec := { name := "greedySays", fn := fun _ => fun
  | [d1, d2, d3] => { results := [.lit (.bool false)], args := [d1, d2, d3] }
  | _ => none }
def GreedySaysWrongFalsely : Prop := greedySaysRow.holds Try.pinned (OpenSpec.ofChange greedySaysWrong)

/-- 'rotalaw.SetsPicks': WHATEVER THE INPUT: true; the input reads as it did. -/
def setsPicksSpec : ChangeSpec := { name := "setsPicks", fn := fun _ => fun
  | [d1, d2, d3, d4, d5] => { results := [.lit (.bool true)], args := [d1, d2, d3, d4, d5] }
  | _ => none }
def setsPicksRow : OpenClaim := { program := "ytjpcelldbhdneaa", sum := "d6a847a77140e618fd2a63c4454dbfbd7fd56d544ab2ed70370183687a8b45f2", func := "rota/rotalaw.SetsPicks", spec := "setsPicks", unfollowed := true, recurses := true, apart := false }
def SetsPicksSaid : Prop := setsPicksRow.holds Try.pinned (OpenSpec.ofChange setsPicksSpec)

/-- ITS FALSE NEIGHBOUR: 'it returns false'. Refute it at one input. -/
def setsPicksWrong : ChangeSpec := { name := "setsPicks", fn := fun _ => fun
  | [d1, d2, d3, d4, d5] => { results := [.lit (.bool false)], args := [d1, d2, d3, d4, d5] }
  | _ => none }
def SetsPicksWrongFalsely : Prop := setsPicksRow.holds Try.pinned (OpenSpec.ofChange setsPicksWrong)

/-- 'rotalaw.ComplexSays': WHATEVER THE INPUT: true; the input reads as it did. -/
def complexSaysSpec : ChangeSpec := { name := "complexSays", fn := fun _ => fun
  | [d1, d2, d3] => { results := [.lit (.bool true)], args := [d1, d2, d3] }
  | _ => none }
def complexSaysRow : OpenClaim := { program := "ytjpcelldbhdneaa", sum := "d6a847a77140e618fd2a63c4454dbfbd7fd56d544ab2ed70370183687a8b45f2", func := "rota/rotalaw.ComplexSays", spec := "complexSays", unfollowed := true, recurses := true, apart := false }
def ComplexSaysSaid : Prop := complexSaysRow.holds Try.pinned (OpenSpec.ofChange complexSaysSpec)

/-- ITS FALSE NEIGHBOUR: 'it returns false'. Refute it at one input. -/
def complexSaysWrong : ChangeSpec := { name := "complexSays", fn := fun _ => fun
  | [d1, d2, d3] => { results := [.lit (.bool false)], args := [d1, d2, d3] }
  | _ => none }
def ComplexSaysWrongFalsely : Prop := complexSaysRow.holds Try.pinned (OpenSpec.ofChange complexSaysWrong)

/-- 'rotalaw.KindsMakes': WHATEVER THE INPUT: true; the input reads as it did. -/
def kindsMakesSpec : ChangeSpec := { name := "kindsMakes", fn := fun _ => fun
  | [d1, d2, d3, d4] => { results := [.lit (.bool true)], args := [d1, d2, d3, d4] }
  | _ => none }
def kindsMakesRow : OpenClaim := { program := "ytjpcelldbhdneaa", sum := "d6a847a77140e618fd2a63c4454dbfbd7fd56d544ab2ed70370183687a8b45f2", func := "rota/rotalaw.KindsMakes", spec := "kindsMakes", unfollowed := true, recurses := true, apart := false }
def KindsMakesSaid : Prop := kindsMakesRow.holds Try.pinned (OpenSpec.ofChange kindsMakesSpec)

/-- ITS FALSE NEIGHBOUR: 'it returns false'. Refute it at one input. -/
def kindsMakesWrong : ChangeSpec := { name := "kindsMakes", fn := fun _ => fun
  | [d1, d2, d3, d4] => { results := [.lit (.bool false)], args := [d1, d2, d3, d4] }
  | _ => none }
def KindsMakesWrongFalsely : Prop := kindsMakesRow.holds Try.pinned (OpenSpec.ofChange kindsMakesWrong)

/- THE SECOND FORM. 'bulk': how many values and letters a reading holds, each counted each time it is reached (what is shared counts as often as it is met; a slice's spare places count too). A statement '..UptoSaid' is the law's where the arguments, and the package variables that the reading takes, are together of bulk at most 1048576: NARROWER than '..Said'. Prove '..Said' where nothing that the law and all that it calls make is longer than what came in: it says more and counts as full. Else prove '..UptoSaid'. A law counts once. -/
mutual
def uptoBulk {H : Type} : DataW H → Nat
  | .lit (.string bytes) => bytes.length + 1
  | .lit _ => 1
  | .nil => 1
  | .ptr d => uptoBulk d + 1
  | .slice elems spare => uptoBulkAll elems + uptoBulkAll spare + 1
  | .agg parts => uptoBulkAll parts + 1
  | .iface _ d => uptoBulk d + 1
  | .map entries => uptoBulkEntries entries + 1
  | .held _ => 1
def uptoBulkAll {H : Type} : List (DataW H) → Nat
  | [] => 0
  | d :: r => uptoBulk d + uptoBulkAll r
def uptoBulkEntries {H : Type} : List (Lit × DataW H) → Nat
  | [] => 0
  | x :: r => uptoBulkEntry x + uptoBulkEntries r
def uptoBulkEntry {H : Type} : Lit × DataW H → Nat
  | (.string bytes, d) => bytes.length + uptoBulk d + 1
  | (_, d) => uptoBulk d + 1
 end
def uptoSmall : (H : Type) → List (DataW H) → Bool := fun _ ds => decide (uptoBulkAll ds ≤ 1048576)
def OpenSpec.upto (s : _root_.Go.ChangeSpec) : _root_.Go.OpenSpec := { _root_.Go.OpenSpec.ofChange s with cond := some uptoSmall }

/-- 'rotalaw.AxiomsSays', WHERE WHAT IT READS IS OF BULK AT MOST 1048576: true; the input reads as it did. -/
def axiomsSaysUptoRow : OpenClaim := { program := "ytjpcelldbhdneaa", sum := "d6a847a77140e618fd2a63c4454dbfbd7fd56d544ab2ed70370183687a8b45f2", func := "rota/rotalaw.AxiomsSays", spec := "axiomsSays", unfollowed := true, recurses := true, apart := false, narrowed := true }
def AxiomsSaysUptoSaid : Prop := axiomsSaysUptoRow.holds Try.pinned (OpenSpec.upto axiomsSaysSpec)

/-- 'rotalaw.AxiomsMakes', WHERE WHAT IT READS IS OF BULK AT MOST 1048576: true; the input reads as it did. -/
def axiomsMakesUptoRow : OpenClaim := { program := "ytjpcelldbhdneaa", sum := "d6a847a77140e618fd2a63c4454dbfbd7fd56d544ab2ed70370183687a8b45f2", func := "rota/rotalaw.AxiomsMakes", spec := "axiomsMakes", unfollowed := true, recurses := true, apart := false, narrowed := true }
def AxiomsMakesUptoSaid : Prop := axiomsMakesUptoRow.holds Try.pinned (OpenSpec.upto axiomsMakesSpec)

/-- 'rotalaw.MinorsSays', WHERE WHAT IT READS IS OF BULK AT MOST 1048576: true; the input reads as it did. -/
def minorsSaysUptoRow : OpenClaim := { program := "ytjpcelldbhdneaa", sum := "d6a847a77140e618fd2a63c4454dbfbd7fd56d544ab2ed70370183687a8b45f2", func := "rota/rotalaw.MinorsSays", spec := "minorsSays", unfollowed := true, recurses := true, apart := false, narrowed := true }
def MinorsSaysUptoSaid : Prop := minorsSaysUptoRow.holds Try.pinned (OpenSpec.upto minorsSaysSpec)

/-- 'rotalaw.MinorsMakes', WHERE WHAT IT READS IS OF BULK AT MOST 1048576: true; the input reads as it did. -/
def minorsMakesUptoRow : OpenClaim := { program := "ytjpcelldbhdneaa", sum := "d6a847a77140e618fd2a63c4454dbfbd7fd56d544ab2ed70370183687a8b45f2", func := "rota/rotalaw.MinorsMakes", spec := "minorsMakes", unfollowed := true, recurses := true, apart := false, narrowed := true }
def MinorsMakesUptoSaid : Prop := minorsMakesUptoRow.holds Try.pinned (OpenSpec.upto minorsMakesSpec)

/-- 'rotalaw.FlatsSays', WHERE WHAT IT READS IS OF BULK AT MOST 1048576: true; the input reads as it did. -/
def flatsSaysUptoRow : OpenClaim := { program := "ytjpcelldbhdneaa", sum := "d6a847a77140e618fd2a63c4454dbfbd7fd56d544ab2ed70370183687a8b45f2", func := "rota/rotalaw.FlatsSays", spec := "flatsSays", unfollowed := true, recurses := true, apart := false, narrowed := true }
def FlatsSaysUptoSaid : Prop := flatsSaysUptoRow.holds Try.pinned (OpenSpec.upto flatsSaysSpec)

/-- 'rotalaw.FlatsLattice', WHERE WHAT IT READS IS OF BULK AT MOST 1048576: true; the input reads as it did. -/
def flatsLatticeUptoRow : OpenClaim := { program := "ytjpcelldbhdneaa", sum := "d6a847a77140e618fd2a63c4454dbfbd7fd56d544ab2ed70370183687a8b45f2", func := "rota/rotalaw.FlatsLattice", spec := "flatsLattice", unfollowed := true, recurses := true, apart := false, narrowed := true }
def FlatsLatticeUptoSaid : Prop := flatsLatticeUptoRow.holds Try.pinned (OpenSpec.upto flatsLatticeSpec)

/-- 'rotalaw.GreedySays', WHERE WHAT IT READS IS OF BULK AT MOST 1048576: true; the input reads as it did. -/
def greedySaysUptoRow : OpenClaim := { program := "ytjpcelldbhdneaa", sum := "d6a847a77140e618fd2a63c4454dbfbd7fd56d544ab2ed70370183687a8b45f2", func := "rota/rotalaw.GreedySays", spec := "greedySays", inPlace := ["slices.overlaps[int]"], unfollowed := true, recurses := true, apart := false, narrowed := true }
def GreedySaysUptoSaid : Prop := greedySaysUptoRow.holds Try.pinned (OpenSpec.upto greedySaysSpec)

/-- 'rotalaw.SetsPicks', WHERE WHAT IT READS IS OF BULK AT MOST 1048576: true; the input reads as it did. -/
def setsPicksUptoRow : OpenClaim := { program := "ytjpcelldbhdneaa", sum := "d6a847a77140e618fd2a63c4454dbfbd7fd56d544ab2ed70370183687a8b45f2", func := "rota/rotalaw.SetsPicks", spec := "setsPicks", unfollowed := true, recurses := true, apart := false, narrowed := true }
def SetsPicksUptoSaid : Prop := setsPicksUptoRow.holds Try.pinned (OpenSpec.upto setsPicksSpec)

/-- 'rotalaw.ComplexSays', WHERE WHAT IT READS IS OF BULK AT MOST 1048576: true; the input reads as it did. -/
def complexSaysUptoRow : OpenClaim := { program := "ytjpcelldbhdneaa", sum := "d6a847a77140e618fd2a63c4454dbfbd7fd56d544ab2ed70370183687a8b45f2", func := "rota/rotalaw.ComplexSays", spec := "complexSays", unfollowed := true, recurses := true, apart := false, narrowed := true }
def ComplexSaysUptoSaid : Prop := complexSaysUptoRow.holds Try.pinned (OpenSpec.upto complexSaysSpec)

/-- 'rotalaw.KindsMakes', WHERE WHAT IT READS IS OF BULK AT MOST 1048576: true; the input reads as it did. -/
def kindsMakesUptoRow : OpenClaim := { program := "ytjpcelldbhdneaa", sum := "d6a847a77140e618fd2a63c4454dbfbd7fd56d544ab2ed70370183687a8b45f2", func := "rota/rotalaw.KindsMakes", spec := "kindsMakes", unfollowed := true, recurses := true, apart := false, narrowed := true }
def KindsMakesUptoSaid : Prop := kindsMakesUptoRow.holds Try.pinned (OpenSpec.upto kindsMakesSpec)

end Rows
end Go.Proofs.Ytjpcelldbhdneaa
