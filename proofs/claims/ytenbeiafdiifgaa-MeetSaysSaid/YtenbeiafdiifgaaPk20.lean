
/-
  rotaref.Dual, Deleted, Contracted, Cut.
  rotaref.Dual, Deleted, Contracted, Cut.
-/
import Derived.Test.YtenbeiafdiifgaaPk19
import Derived.Test.YtenbeiafdiifgaaPk12
namespace Go.Proofs.Ytenbeiafdiifgaa
open Go.RowKit
set_option linter.unusedVariables false

end Go.Proofs.Ytenbeiafdiifgaa

namespace Go.Proofs.Ytenbeiafdiifgaa
open Go.RowKit
set_option linter.unusedVariables false

/-- the contract of rotaref.Ranks at a list of bases that is a family -/
theorem c_ranksL {B : Nat} {W : World} (u : Later B W) (m : Nat) (hm : m ≤ 8) (L : List Nat) (a : Option Addr) (cap : Nat) (h : IntsAt B W a (ints L)) (hlen : (ints L).length ≤ 4611686018427387904) (hf : isFam (m : Int) (ints L)) (hTN : toN (ints L) = L) :
    Calls Try.prog 6 #[.agg #[.int .i64 m, .slice a (ints L).length cap]] u.val (RetP B W (fun v w => ∃ g c, v = .slice (some ⟨g, 0, none⟩) (bit m) c ∧ ITab w g (bit m) (fun j => (rk L j : Int)))) := by
  have := c_refRanks u m hm (ints L) a cap h hlen hf
  rwa [hTN] at this
theorem RowAt1.new (w : World) (t : TypeId) (v : Value) : RowAt1 (w.alloc (.cells #[v] t)) w.heap.size t v := heap_alloc_new w _
theorem RowAt1.keepAt {w w' : World} {g B : Nat} {t : TypeId} {v : Value} (h : RowAt1 w g t v) (hb : Below B w w') (hg : g < B) : RowAt1 w' g t v := by
  show w'.heap[g]? = _
  rw [hb.block g hg]; exact h

end Go.Proofs.Ytenbeiafdiifgaa
