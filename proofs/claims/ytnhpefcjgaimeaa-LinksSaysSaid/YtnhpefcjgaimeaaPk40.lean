
/-
  greedy.First; the stable sort of an order by weight; greedy.Best.
  rotaref.Set of an order's first elements, sub.order, sub.Vertex.
-/
import Derived.Test.YtnhpefcjgaimeaaPk39
import Derived.Test.YtnhpefcjgaimeaaPk37
import Derived.BigRegion
import Derived.Test.YtnhpefcjgaimeaaPk08
namespace Go.Proofs.Ytnhpefcjgaimeaa
open Go.RowKit
set_option linter.unusedVariables false

theorem newTo_step {m : Nat} {p : List Int} {k : Nat} (h : newTo m p k) (h1 : 0 ≤ p.getD k 0 ∧ p.getD k 0 < m) (h2 : (seenTo m p k).testBit (p.getD k 0).toNat = false) : newTo m p (k + 1) := by
  intro j hj
  by_cases c : j = k
  · subst c
    refine ⟨h1.1, h1.2, fun i hi e => ?_⟩
    have := (seenTo_iff (m := m) p j (p.getD j 0).toNat (by omega)).2 ⟨i, hi, by omega⟩
    rw [this] at h2; cases h2
  · exact h j (by omega)
theorem newTo_no {m : Nat} (hm : m ≤ 8) {p : List Int} {k : Nat} (hk : k < p.length) (h : ¬ (0 ≤ p.getD k 0 ∧ p.getD k 0 < m ∧ (seenTo m p k).testBit (p.getD k 0).toNat = false)) : ¬ isOrd m p := fun hc => by
  obtain ⟨hl, hn⟩ := (isOrd_iff hm).1 hc
  have h1 := hn k (by omega)
  refine h ⟨h1.1, h1.2.1, ?_⟩
  rw [Bool.eq_false_iff]
  intro hb
  obtain ⟨j, hj, e⟩ := (seenTo_iff (m := m) p k (p.getD k 0).toNat (by omega)).1 hb
  exact h1.2.2 j hj (by omega)

def frsE (m : Nat) (p : List Int) : Int := if isOrd m p then 0 else 1
def frsV (m : Nat) (L : List Nat) (p : List Int) : Nat := if isOrd m p then takTo L (toN p) m else 0

end Go.Proofs.Ytnhpefcjgaimeaa

namespace Go.Proofs.Ytnhpefcjgaimeaa
open Go.RowKit
set_option linter.unusedVariables false

set_option maxRecDepth 100000 in
set_option maxHeartbeats 8000000 in
theorem c_setOf {B : Nat} {W : World} (u : Later B W) (O : List Nat) (b : Option Addr) (cap k : Nat) (h : IntsAt B W b (ints O)) (hk : k ≤ O.length) (hk8 : k ≤ 8) (hO : ∀ j, j < k → O.getD j 0 < 8) :
    Calls Try.prog 22 #[.slice b k cap] u.val (Ret B W (.int .i64 (prfT O k))) := by
  have HI := Lib.hid h
  have HLt := Lib.hid (prfT_lt hO)
  have HS : Hid (∀ i, prfT O (i + 1) = prfT O i ||| bit (O.getD i 0)) := Lib.hid (fun i => rfl)
  have H0 : Hid (prfT O 0 = 0) := Lib.hid rfl
  have HOl : Hid (k ≤ (ints O).length) := Lib.hid (by rw [ints_len]; exact hk)
  have HO := Lib.hid hO
  clear h hO hk
  generalize prfT O = pf at *
  go_enter Try.func22, Try.ntmps22
  go_wp2
  go_loopw [3, 4] (fun s i wr => ∃ (j : Nat) (v : Later B W), j ≤ k ∧ s = .int .i64 (pf j) ∧ i = .int .i64 j ∧ wr = v.val) (fun _ i _ => k - (intOf i).toNat)
  case atStart => exact ⟨0, u, by omega, by rw [H0.out]; rfl, rfl, rfl⟩
  case round =>
    clear u
    obtain ⟨j, v, hj, rfl, rfl, rfl⟩ := hrel
    by_cases hlt : j < k
    · obtain ⟨bb, off, rfl, hbB, hcell⟩ := HI.out.at (k := j) (by have := HOl.out; omega)
      have c0 : v.val.cell? ⟨bb, off + j, none⟩ = some (.int .i64 ((O.getD j 0 : Nat) : Int)) := by rw [← ints_getD]; exact hcell v j (by have := HOl.out; omega)
      have hx := HO.out j hlt
      have ht : pf j < 256 := HLt.out j hj
      have HN := Lib.hid (HS.out j)
      clear hcell
      generalize O.getD j 0 = x at *
      have hbx := bit_lt x (by omega)
      have bc := bit_cast x
      have w1 : IntKind.i64.wrap (bit x : Int) = (bit x : Int) := IntWalk.i64_in _ (by omega)
      have o2 := i64_or (pf j) (bit x) (by omega) (by omega)
      go_wp2
      go_roundw
      case rel => exact ⟨j+1, v, by omega, vint (by rw [HN.out]), by go_num, rfl⟩
      case measure => simp [intOf]; omega
    · have hke : j = k := by omega
      subst hke
      go_wp2
      go_ret
      exact Ret.mk v rfl

/-- the base's vertex by an order, as a list -/
def verL (m : Nat) (f p : List Int) : List Int := if isOrd m p then tabL m (verT (fun i => f.getD i 0) (toN p) m) else []

end Go.Proofs.Ytnhpefcjgaimeaa
