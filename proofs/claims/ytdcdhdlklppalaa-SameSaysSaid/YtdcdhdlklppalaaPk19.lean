
/-
  rotaref.OfRank: the bases of what a function value says the ranks are; rotaref.Spread.
  rotaref.Dual, Deleted, Contracted, Cut.
  rotaref.Dual, Deleted, Contracted, Cut.
-/
import Derived.Test.YtdcdhdlklppalaaPk18
import Derived.Test.YtdcdhdlklppalaaPk02
import Derived.Test.YtdcdhdlklppalaaPk12
import Derived.Deep.RegionHeld3
import Derived.Test.YtdcdhdlklppalaaPk13
import Derived.Test.YtdcdhdlklppalaaPk09
namespace Go.Proofs.Ytdcdhdlklppalaa
open Go.RowKit
set_option linter.unusedVariables false

/-- a function value that tells of each set below 2^m a number, in whatever later world -/
def TellsN (B : Nat) (W : World) (k : FuncId) (caps : Array Value) (m : Nat) (r : Nat → Int) : Prop :=
  ∀ (x : Later B W) (v : Later x.val.heap.size x.val) (s : Nat), s < bit m → Calls Try.prog k (#[.int .i64 (s : Int)] ++ caps) v.val (Ret x.val.heap.size x.val (.int .i64 (r s)))

end Go.Proofs.Ytdcdhdlklppalaa

namespace Go.Proofs.Ytdcdhdlklppalaa
open Go.RowKit
set_option linter.unusedVariables false

end Go.Proofs.Ytdcdhdlklppalaa

namespace Go.Proofs.Ytdcdhdlklppalaa
open Go.RowKit
set_option linter.unusedVariables false

/-- the contract of rotaref.Ranks at a list of bases that is a family -/
theorem c_ranksL {B : Nat} {W : World} (u : Later B W) (m : Nat) (hm : m ≤ 8) (L : List Nat) (a : Option Addr) (cap : Nat) (h : IntsAt B W a (ints L)) (hlen : (ints L).length ≤ 4611686018427387904) (hf : isFam (m : Int) (ints L)) (hTN : toN (ints L) = L) :
    Calls Try.prog 21 #[.agg #[.int .i64 m, .slice a (ints L).length cap]] u.val (RetP B W (fun v w => ∃ g c, v = .slice (some ⟨g, 0, none⟩) (bit m) c ∧ ITab w g (bit m) (fun j => (rk L j : Int)))) := by
  have := c_refRanks u m hm (ints L) a cap h hlen hf
  rwa [hTN] at this
theorem RowAt1.new (w : World) (t : TypeId) (v : Value) : RowAt1 (w.alloc (.cells #[v] t)) w.heap.size t v := heap_alloc_new w _
theorem RowAt1.keepAt {w w' : World} {g B : Nat} {t : TypeId} {v : Value} (h : RowAt1 w g t v) (hb : Below B w w') (hg : g < B) : RowAt1 w' g t v := by
  show w'.heap[g]? = _
  rw [hb.block g hg]; exact h

end Go.Proofs.Ytdcdhdlklppalaa
