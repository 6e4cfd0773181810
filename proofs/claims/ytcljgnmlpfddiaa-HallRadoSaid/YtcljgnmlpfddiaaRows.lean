/-
  No cell of these rows narrows 'for every input' (looked for: loops, veiled, ifaces, maps, wideKeys, modest, calm, conditions, laid).
  DERIVED. THE GIVEN ROWS OF THIS SEAT. 11 by the template 'for every input the law returns true; each argument reads behind the call as it read before'; 0 by the template 'total and deterministic' (their statements: YtcljgnmlpfddiaaTotals.lean).
  GIVEN WITH THE SEED: the statements are not yours to turn. If you find one false, say at which input.
  Laid BY PROGRAM, IN A SANDBOX (cutbox-rows.mjs): the forced cells as the released guide's own fill.sh prints them over the translation 8e8613d0ccc2d3bc… (all of the seat's roots in one cut). By AI agents, Wed Nov 11 2026. No macro, syntax, notation, axiom, sorry.
-/
import Derived.Test.YtcljgnmlpfddiaaChecked
import GoSem.Claim
import GoSem.ClaimJoined
import GoSem.ClaimMapViews
import Derived.JoinedTies
import Derived.KernelRfl
namespace Go.Proofs.Ytcljgnmlpfddiaa
/- THE CELL 'sum', in the pinned program and in every row, IS THE sha256 OF THE DUMP (.gsa) THAT YtcljgnmlpfddiaaProg.lean LOADS. Nothing in Lean hashes anything: it is a label: what it is worth is what the hold of that sum in a sandbox is worth. -/
noncomputable def Try.pinned : Pinned := { name := "ytcljgnmlpfddiaa", sum := "8e8613d0ccc2d3bce8243cff6aea2832581826aede575faf3ebd7f915cab881a", checked := Try.checked }
namespace Rows
def none {H : Type} : Left H := { results := [], args := [] }

/-- 'rotalaw.Names': WHATEVER THE INPUT: true; the input reads as it did. -/
def namesSpec : ChangeSpec := { name := "names", fn := fun _ => fun
  | [] => { results := [.lit (.bool true)], args := [] }
  | _ => none }
def namesRow : OpenClaim := { program := "ytcljgnmlpfddiaa", sum := "8e8613d0ccc2d3bce8243cff6aea2832581826aede575faf3ebd7f915cab881a", func := "rota/rotalaw.Names", spec := "names", plainKeys := false, apart := false }
def NamesSaid : Prop := namesRow.holds Try.pinned (OpenSpec.ofChange namesSpec)

/-- ITS FALSE NEIGHBOUR: 'it returns false'. Refute it at one input. -/
def namesWrong : ChangeSpec := { name := "names", fn := fun _ => fun
  | [] => { results := [.lit (.bool false)], args := [] }
  | _ => none }
def NamesWrongFalsely : Prop := namesRow.holds Try.pinned (OpenSpec.ofChange namesWrong)

/-- 'rotalaw.GameSays': WHATEVER THE INPUT: true; the input reads as it did. -/
def gameSaysSpec : ChangeSpec := { name := "gameSays", fn := fun _ => fun
  | [d1, d2, d3, d4, d5, d6] => { results := [.lit (.bool true)], args := [d1, d2, d3, d4, d5, d6] }
  | _ => none }
def gameSaysRow : OpenClaim := { program := "ytcljgnmlpfddiaa", sum := "8e8613d0ccc2d3bce8243cff6aea2832581826aede575faf3ebd7f915cab881a", func := "rota/rotalaw.GameSays", spec := "gameSays", unfollowed := true, recurses := true, plainKeys := false, apart := false }
def GameSaysSaid : Prop := gameSaysRow.holds Try.pinned (OpenSpec.ofChange gameSaysSpec)

/-- ITS FALSE NEIGHBOUR: 'it returns false'. Refute it at one input. -/
def gameSaysWrong : ChangeSpec := { name := "gameSays", fn := fun _ => fun
  | [d1, d2, d3, d4, d5, d6] => { results := [.lit (.bool false)], args := [d1, d2, d3, d4, d5, d6] }
  | _ => none }
def GameSaysWrongFalsely : Prop := gameSaysRow.holds Try.pinned (OpenSpec.ofChange gameSaysWrong)

/-- 'rotalaw.GameTwins': WHATEVER THE INPUT: true; the input reads as it did. -/
def gameTwinsSpec : ChangeSpec := { name := "gameTwins", fn := fun _ => fun
  | [d1, d2, d3] => { results := [.lit (.bool true)], args := [d1, d2, d3] }
  | _ => none }
def gameTwinsRow : OpenClaim := { program := "ytcljgnmlpfddiaa", sum := "8e8613d0ccc2d3bce8243cff6aea2832581826aede575faf3ebd7f915cab881a", func := "rota/rotalaw.GameTwins", spec := "gameTwins", plainKeys := false, apart := false }
def GameTwinsSaid : Prop := gameTwinsRow.holds Try.pinned (OpenSpec.ofChange gameTwinsSpec)

/-- ITS FALSE NEIGHBOUR: 'it returns false'. Refute it at one input. -/
def gameTwinsWrong : ChangeSpec := { name := "gameTwins", fn := fun _ => fun
  | [d1, d2, d3] => { results := [.lit (.bool false)], args := [d1, d2, d3] }
  | _ => none }
def GameTwinsWrongFalsely : Prop := gameTwinsRow.holds Try.pinned (OpenSpec.ofChange gameTwinsWrong)

/-- 'rotalaw.FieldMakes': WHATEVER THE INPUT: true; the input reads as it did. -/
def fieldMakesSpec : ChangeSpec := { name := "fieldMakes", fn := fun _ => fun
  | [d1, d2] => { results := [.lit (.bool true)], args := [d1, d2] }
  | _ => none }
def fieldMakesRow : OpenClaim := { program := "ytcljgnmlpfddiaa", sum := "8e8613d0ccc2d3bce8243cff6aea2832581826aede575faf3ebd7f915cab881a", func := "rota/rotalaw.FieldMakes", spec := "fieldMakes", unfollowed := true, recurses := true, plainKeys := false, apart := false }
def FieldMakesSaid : Prop := fieldMakesRow.holds Try.pinned (OpenSpec.ofChange fieldMakesSpec)

/-- ITS FALSE NEIGHBOUR: 'it returns false'. Refute it at one input. -/
def fieldMakesWrong : ChangeSpec := { name := "fieldMakes", fn := fun _ => fun
  | [d1, d2] => { results := [.lit (.bool false)], args := [d1, d2] }
  | _ => none }
def FieldMakesWrongFalsely : Prop := fieldMakesRow.holds Try.pinned (OpenSpec.ofChange fieldMakesWrong)

/-- 'rotalaw.FieldRows': WHATEVER THE INPUT: true; the input reads as it did. -/
def fieldRowsSpec : ChangeSpec := { name := "fieldRows", fn := fun _ => fun
  | [d] => { results := [.lit (.bool true)], args := [d] }
  | _ => none }
def fieldRowsRow : OpenClaim := { program := "ytcljgnmlpfddiaa", sum := "8e8613d0ccc2d3bce8243cff6aea2832581826aede575faf3ebd7f915cab881a", func := "rota/rotalaw.FieldRows", spec := "fieldRows", plainKeys := false, apart := false }
def FieldRowsSaid : Prop := fieldRowsRow.holds Try.pinned (OpenSpec.ofChange fieldRowsSpec)

/-- ITS FALSE NEIGHBOUR: 'it returns false'. Refute it at one input. -/
def fieldRowsWrong : ChangeSpec := { name := "fieldRows", fn := fun _ => fun
  | [d] => { results := [.lit (.bool false)], args := [d] }
  | _ => none }
def FieldRowsWrongFalsely : Prop := fieldRowsRow.holds Try.pinned (OpenSpec.ofChange fieldRowsWrong)

/-- 'rotalaw.LinksGammoid': WHATEVER THE INPUT: true; the input reads as it did. -/
def linksGammoidSpec : ChangeSpec := { name := "linksGammoid", fn := fun _ => fun
  | [d1, d2] => { results := [.lit (.bool true)], args := [d1, d2] }
  | _ => none }
def linksGammoidRow : OpenClaim := { program := "ytcljgnmlpfddiaa", sum := "8e8613d0ccc2d3bce8243cff6aea2832581826aede575faf3ebd7f915cab881a", func := "rota/rotalaw.LinksGammoid", spec := "linksGammoid", unfollowed := true, recurses := true, plainKeys := false, apart := false }
def LinksGammoidSaid : Prop := linksGammoidRow.holds Try.pinned (OpenSpec.ofChange linksGammoidSpec)

/-- ITS FALSE NEIGHBOUR: 'it returns false'. Refute it at one input. -/
def linksGammoidWrong : ChangeSpec := { name := "linksGammoid", fn := fun _ => fun
  | [d1, d2] => { results := [.lit (.bool false)], args := [d1, d2] }
  | _ => none }
def LinksGammoidWrongFalsely : Prop := linksGammoidRow.holds Try.pinned (OpenSpec.ofChange linksGammoidWrong)

/-- 'rotalaw.ConvexSays': WHATEVER THE INPUT: true; the input reads as it did. -/
def convexSaysSpec : ChangeSpec := { name := "convexSays", fn := fun _ => fun
  | [d1, d2, d3] => { results := [.lit (.bool true)], args := [d1, d2, d3] }
  | _ => none }
def convexSaysRow : OpenClaim := { program := "ytcljgnmlpfddiaa", sum := "8e8613d0ccc2d3bce8243cff6aea2832581826aede575faf3ebd7f915cab881a", func := "rota/rotalaw.ConvexSays", spec := "convexSays", recurses := true, plainKeys := false, apart := false }
def ConvexSaysSaid : Prop := convexSaysRow.holds Try.pinned (OpenSpec.ofChange convexSaysSpec)

/-- ITS FALSE NEIGHBOUR: 'it returns false'. Refute it at one input. -/
def convexSaysWrong : ChangeSpec := { name := "convexSays", fn := fun _ => fun
  | [d1, d2, d3] => { results := [.lit (.bool false)], args := [d1, d2, d3] }
  | _ => none }
def ConvexSaysWrongFalsely : Prop := convexSaysRow.holds Try.pinned (OpenSpec.ofChange convexSaysWrong)

/-- 'rotalaw.SubLeast': WHATEVER THE INPUT: true; the input reads as it did. -/
def subLeastSpec : ChangeSpec := { name := "subLeast", fn := fun _ => fun
  | [d1, d2, d3, d4] => { results := [.lit (.bool true)], args := [d1, d2, d3, d4] }
  | _ => none }
def subLeastRow : OpenClaim := { program := "ytcljgnmlpfddiaa", sum := "8e8613d0ccc2d3bce8243cff6aea2832581826aede575faf3ebd7f915cab881a", func := "rota/rotalaw.SubLeast", spec := "subLeast", unfollowed := true, recurses := true, plainKeys := false, apart := false }
def SubLeastSaid : Prop := subLeastRow.holds Try.pinned (OpenSpec.ofChange subLeastSpec)

/-- ITS FALSE NEIGHBOUR: 'it returns false'. Refute it at one input. -/
def subLeastWrong : ChangeSpec := { name := "subLeast", fn := fun _ => fun
  | [d1, d2, d3, d4] => { results := [.lit (.bool false)], args := [d1, d2, d3, d4] }
  | _ => none }
def SubLeastWrongFalsely : Prop := subLeastRow.holds Try.pinned (OpenSpec.ofChange subLeastWrong)

/-- 'rotalaw.KindsSays': WHATEVER THE INPUT: true; the input reads as it did. -/
def kindsSaysSpec : ChangeSpec := { name := "kindsSays", fn := fun _ => fun
  | [d1, d2, d3, d4] => { results := [.lit (.bool true)], args := [d1, d2, d3, d4] }
  | _ => none }
def kindsSaysRow : OpenClaim := { program := "ytcljgnmlpfddiaa", sum := "8e8613d0ccc2d3bce8243cff6aea2832581826aede575faf3ebd7f915cab881a", func := "rota/rotalaw.KindsSays", spec := "kindsSays", unfollowed := true, recurses := true, plainKeys := false, apart := false }
def KindsSaysSaid : Prop := kindsSaysRow.holds Try.pinned (OpenSpec.ofChange kindsSaysSpec)

/-- ITS FALSE NEIGHBOUR: 'it returns false'. Refute it at one input. -/
def kindsSaysWrong : ChangeSpec := { name := "kindsSays", fn := fun _ => fun
  | [d1, d2, d3, d4] => { results := [.lit (.bool false)], args := [d1, d2, d3, d4] }
  | _ => none }
def KindsSaysWrongFalsely : Prop := kindsSaysRow.holds Try.pinned (OpenSpec.ofChange kindsSaysWrong)

/-- 'rotalaw.GreedySwaps': WHATEVER THE INPUT: true; the input reads as it did. -/
def greedySwapsSpec : ChangeSpec := { name := "greedySwaps", fn := fun _ => fun
  | [d1, d2, d3, d4, d5] => { results := [.lit (.bool true)], args := [d1, d2, d3, d4, d5] }
  | _ => none }
def greedySwapsRow : OpenClaim := { program := "ytcljgnmlpfddiaa", sum := "8e8613d0ccc2d3bce8243cff6aea2832581826aede575faf3ebd7f915cab881a", func := "rota/rotalaw.GreedySwaps", spec := "greedySwaps", unfollowed := true, recurses := true, plainKeys := false, apart := false }
def GreedySwapsSaid : Prop := greedySwapsRow.holds Try.pinned (OpenSpec.ofChange greedySwapsSpec)

/-- ITS FALSE NEIGHBOUR: 'it returns false'. Refute it at one input. -/
def greedySwapsWrong : ChangeSpec := { name := "greedySwaps", fn := fun _ => fun
  | [d1, d2, d3, d4, d5] => { results := [.lit (.bool false)], args := [d1, d2, d3, d4, d5] }
  | _ => none }
def GreedySwapsWrongFalsely : Prop := greedySwapsRow.holds Try.pinned (OpenSpec.ofChange greedySwapsWrong)

/-- 'rotalaw.HallRado': WHATEVER THE INPUT: true; the input reads as it did. -/
def hallRadoSpec : ChangeSpec := { name := "hallRado", fn := fun _ => fun
  | [d1, d2] => { results := [.lit (.bool true)], args := [d1, d2] }
  | _ => none }
def hallRadoRow : OpenClaim := { program := "ytcljgnmlpfddiaa", sum := "8e8613d0ccc2d3bce8243cff6aea2832581826aede575faf3ebd7f915cab881a", func := "rota/rotalaw.HallRado", spec := "hallRado", unfollowed := true, recurses := true, plainKeys := false, apart := false }
def HallRadoSaid : Prop := hallRadoRow.holds Try.pinned (OpenSpec.ofChange hallRadoSpec)

/-- ITS FALSE NEIGHBOUR: 'it returns false'. Refute it at one input. -/
def hallRadoWrong : ChangeSpec := { name := "hallRado", fn := fun _ => fun
  | [d1, d2] => { results := [.lit (.bool false)], args := [d1, d2] }
  | _ => none }
def HallRadoWrongFalsely : Prop := hallRadoRow.holds Try.pinned (OpenSpec.ofChange hallRadoWrong)

/- THE SECOND FORM. 'bulk': how many values and letters a reading holds, each counted each time it is reached (what is shared counts as often as it is met; a slice's spare places count too). A statement '..UptoSaid' is the law's where the arguments, and the package variables that the reading takes, are together of bulk at most 1048576: NARROWER than '..Said'. Prove '..Said' where nothing that the law and all that it calls make is longer than what came in: it says more and counts as full. Else prove '..UptoSaid'. A law counts once. -/
mutual
def uptoBulk {H : Type} : DataW H → Nat
  | .lit (.string bytes) => bytes.length + 1
  | .lit _ => 1
  | .nil => 1
  | .ptr d => uptoBulk d + 1
  | .slice elems spare => uptoBulkAll elems + uptoBulkAll spare + 1
  | .agg parts => uptoBulkAll parts + 1
  | .iface _ d => uptoBulk d + 1
  | .map entries => uptoBulkEntries entries + 1
  | .held _ => 1
def uptoBulkAll {H : Type} : List (DataW H) → Nat
  | [] => 0
  | d :: r => uptoBulk d + uptoBulkAll r
def uptoBulkEntries {H : Type} : List (Lit × DataW H) → Nat
  | [] => 0
  | x :: r => uptoBulkEntry x + uptoBulkEntries r
def uptoBulkEntry {H : Type} : Lit × DataW H → Nat
  | (.string bytes, d) => bytes.length + uptoBulk d + 1
  | (_, d) => uptoBulk d + 1
 end
def uptoSmall : (H : Type) → List (DataW H) → Bool := fun _ ds => decide (uptoBulkAll ds ≤ 1048576)
def OpenSpec.upto (s : _root_.Go.ChangeSpec) : _root_.Go.OpenSpec := { _root_.Go.OpenSpec.ofChange s with cond := some uptoSmall }

/-- 'rotalaw.Names', WHERE WHAT IT READS IS OF BULK AT MOST 1048576: true; the input reads as it did. -/
def namesUptoRow : OpenClaim := { program := "ytcljgnmlpfddiaa", sum := "8e8613d0ccc2d3bce8243cff6aea2832581826aede575faf3ebd7f915cab881a", func := "rota/rotalaw.Names", spec := "names", plainKeys := false, apart := false, narrowed := true }
def NamesUptoSaid : Prop := namesUptoRow.holds Try.pinned (OpenSpec.upto namesSpec)

/-- 'rotalaw.GameSays', WHERE WHAT IT READS IS OF BULK AT MOST 1048576: true; the input reads as it did. -/
def gameSaysUptoRow : OpenClaim := { program := "ytcljgnmlpfddiaa", sum := "8e8613d0ccc2d3bce8243cff6aea2832581826aede575faf3ebd7f915cab881a", func := "rota/rotalaw.GameSays", spec := "gameSays", unfollowed := true, recurses := true, plainKeys := false, apart := false, narrowed := true }
def GameSaysUptoSaid : Prop := gameSaysUptoRow.holds Try.pinned (OpenSpec.upto gameSaysSpec)

/-- 'rotalaw.GameTwins', WHERE WHAT IT READS IS OF BULK AT MOST 1048576: true; the input reads as it did. -/
def gameTwinsUptoRow : OpenClaim := { program := "ytcljgnmlpfddiaa", sum := "8e8613d0ccc2d3bce8243cff6aea2832581826aede575faf3ebd7f915cab881a", func := "rota/rotalaw.GameTwins", spec := "gameTwins", plainKeys := false, apart := false, narrowed := true }
def GameTwinsUptoSaid : Prop := gameTwinsUptoRow.holds Try.pinned (OpenSpec.upto gameTwinsSpec)

/-- 'rotalaw.FieldMakes', WHERE WHAT IT READS IS OF BULK AT MOST 1048576: true; the input reads as it did. -/
def fieldMakesUptoRow : OpenClaim := { program := "ytcljgnmlpfddiaa", sum := "8e8613d0ccc2d3bce8243cff6aea2832581826aede575faf3ebd7f915cab881a", func := "rota/rotalaw.FieldMakes", spec := "fieldMakes", unfollowed := true, recurses := true, plainKeys := false, apart := false, narrowed := true }
def FieldMakesUptoSaid : Prop := fieldMakesUptoRow.holds Try.pinned (OpenSpec.upto fieldMakesSpec)

/-- 'rotalaw.FieldRows', WHERE WHAT IT READS IS OF BULK AT MOST 1048576: true; the input reads as it did. -/
def fieldRowsUptoRow : OpenClaim := { program := "ytcljgnmlpfddiaa", sum := "8e8613d0ccc2d3bce8243cff6aea2832581826aede575faf3ebd7f915cab881a", func := "rota/rotalaw.FieldRows", spec := "fieldRows", plainKeys := false, apart := false, narrowed := true }
def FieldRowsUptoSaid : Prop := fieldRowsUptoRow.holds Try.pinned (OpenSpec.upto fieldRowsSpec)

/-- 'rotalaw.LinksGammoid', WHERE WHAT IT READS IS OF BULK AT MOST 1048576: true; the input reads as it did. -/
def linksGammoidUptoRow : OpenClaim := { program := "ytcljgnmlpfddiaa", sum := "8e8613d0ccc2d3bce8243cff6aea2832581826aede575faf3ebd7f915cab881a", func := "rota/rotalaw.LinksGammoid", spec := "linksGammoid", unfollowed := true, recurses := true, plainKeys := false, apart := false, narrowed := true }
def LinksGammoidUptoSaid : Prop := linksGammoidUptoRow.holds Try.pinned (OpenSpec.upto linksGammoidSpec)

/-- 'rotalaw.ConvexSays', WHERE WHAT IT READS IS OF BULK AT MOST 1048576: true; the input reads as it did. -/
def convexSaysUptoRow : OpenClaim := { program := "ytcljgnmlpfddiaa", sum := "8e8613d0ccc2d3bce8243cff6aea2832581826aede575faf3ebd7f915cab881a", func := "rota/rotalaw.ConvexSays", spec := "convexSays", recurses := true, plainKeys := false, apart := false, narrowed := true }
def ConvexSaysUptoSaid : Prop := convexSaysUptoRow.holds Try.pinned (OpenSpec.upto convexSaysSpec)

/-- 'rotalaw.SubLeast', WHERE WHAT IT READS IS OF BULK AT MOST 1048576: true; the input reads as it did. -/
def subLeastUptoRow : OpenClaim := { program := "ytcljgnmlpfddiaa", sum := "8e8613d0ccc2d3bce8243cff6aea2832581826aede575faf3ebd7f915cab881a", func := "rota/rotalaw.SubLeast", spec := "subLeast", unfollowed := true, recurses := true, plainKeys := false, apart := false, narrowed := true }
def SubLeastUptoSaid : Prop := subLeastUptoRow.holds Try.pinned (OpenSpec.upto subLeastSpec)

/-- 'rotalaw.KindsSays', WHERE WHAT IT READS IS OF BULK AT MOST 1048576: true; the input reads as it did. -/
def kindsSaysUptoRow : OpenClaim := { program := "ytcljgnmlpfddiaa", sum := "8e8613d0ccc2d3bce8243cff6aea2832581826aede575faf3ebd7f915cab881a", func := "rota/rotalaw.KindsSays", spec := "kindsSays", unfollowed := true, recurses := true, plainKeys := false, apart := false, narrowed := true }
def KindsSaysUptoSaid : Prop := kindsSaysUptoRow.holds Try.pinned (OpenSpec.upto kindsSaysSpec)

/-- 'rotalaw.GreedySwaps', WHERE WHAT IT READS IS OF BULK AT MOST 1048576: true; the input reads as it did. -/
def greedySwapsUptoRow : OpenClaim := { program := "ytcljgnmlpfddiaa", sum := "8e8613d0ccc2d3bce8243cff6aea2832581826aede575faf3ebd7f915cab881a", func := "rota/rotalaw.GreedySwaps", spec := "greedySwaps", unfollowed := true, recurses := true, plainKeys := false, apart := false, narrowed := true }
def GreedySwapsUptoSaid : Prop := greedySwapsUptoRow.holds Try.pinned (OpenSpec.upto greedySwapsSpec)

/-- 'rotalaw.HallRado', WHERE WHAT IT READS IS OF BULK AT MOST 1048576: true; the input reads as it did. -/
def hallRadoUptoRow : OpenClaim := { program := "ytcljgnmlpfddiaa", sum := "8e8613d0ccc2d3bce8243cff6aea2832581826aede575faf3ebd7f915cab881a", func := "rota/rotalaw.HallRado", spec := "hallRado", unfollowed := true, recurses := true, plainKeys := false, apart := false, narrowed := true }
def HallRadoUptoSaid : Prop := hallRadoUptoRow.holds Try.pinned (OpenSpec.upto hallRadoSpec)

end Rows
end Go.Proofs.Ytcljgnmlpfddiaa
