
/-
  greedy.weights, rotaref.Priced, rotalaw.priced, rotaref.IsOrder.
-/
import Derived.Test.YtmhjhdgaecdloaaGrPl2
import Derived.Test.YtmhjhdgaecdloaaAxi2
import Derived.Test.YtmhjhdgaecdloaaRMat
import Derived.Test.YtmhjhdgaecdloaaCFun
namespace Go.Proofs.Ytmhjhdgaecdloaa
open Go.RowKit
set_option linter.unusedVariables false

/-- what is wrong with weights of m elements -/
def PrcIs (m : Nat) (ws : List Int) (e : Int) : Prop := (ws.length ≠ m → e = 3) ∧ (ws.length = m → (∃ i, i < m ∧ ¬ (-1000 ≤ ws.getD i 0 ∧ ws.getD i 0 ≤ 1000)) → e = 1) ∧ (ws.length = m → (∀ i, i < m → -1000 ≤ ws.getD i 0 ∧ ws.getD i 0 ≤ 1000) → e = 0)
theorem PrcIs.ex (m : Nat) (ws : List Int) : ∃ e, PrcIs m ws e := by
  by_cases h : ws.length = m
  · by_cases h2 : ∀ i, i < m → -1000 ≤ ws.getD i 0 ∧ ws.getD i 0 ≤ 1000
    · exact ⟨0, fun c => absurd h c, fun _ ⟨i, hi, c⟩ => absurd (h2 i hi) c, fun _ _ => rfl⟩
    · exact ⟨1, fun c => absurd h c, fun _ _ => rfl, fun _ c => absurd c h2⟩
  · exact ⟨3, fun _ => rfl, fun c => absurd c h, fun c => absurd c h⟩
theorem PrcIs.ok {m : Nat} {ws : List Int} (h : PrcIs m ws 0) : ws.length = m ∧ ∀ i, i < m → -1000 ≤ ws.getD i 0 ∧ ws.getD i 0 ≤ 1000 := by
  have h1 : ws.length = m := Classical.byContradiction fun c => absurd (h.1 c) (by decide)
  refine ⟨h1, fun i hi => Classical.byContradiction fun c => ?_⟩
  exact absurd (h.2.1 h1 ⟨i, hi, c⟩) (by decide)

set_option maxRecDepth 100000 in
set_option maxHeartbeats 8000000 in
theorem c_refPriced {B : Nat} {W : World} (u : Later B W) (m : Nat) (ws : List Int) (b : Option Addr) (capb : Nat) (e : Int) (hw : IntsAt B W b ws) (hwl : ws.length ≤ 4611686018427387904) (hm : m ≤ 8) (hp : PrcIs m ws e) :
    Calls Try.prog 11 #[.int .i64 m, .slice b ws.length capb] u.val (Ret B W (.int .i64 e)) := by
  have HW := Lib.hid hw
  have HP := Lib.hid hp
  clear hw hp
  by_cases hl : ws.length = m
  case neg =>
    have he := HP.out.1 hl
    subst he
    have d1 : ((ws.length : Int) != (m : Int)) = true := by rw [bne_iff_ne]; omega
    clear HP HW hl
    generalize ws.length = q at *
    go_enter Try.func11, Try.ntmps11
    go_wp2
    go_ret
    exact Ret.mk u rfl
  have H1 : Hid ((∃ i, i < m ∧ ¬ (-1000 ≤ ws.getD i 0 ∧ ws.getD i 0 ≤ 1000)) → e = 1) := Lib.hid (HP.out.2.1 hl)
  have H2 : Hid ((∀ i, i < m → -1000 ≤ ws.getD i 0 ∧ ws.getD i 0 ≤ 1000) → e = 0) := Lib.hid (HP.out.2.2 hl)
  have Hl := Lib.hid hl
  have d1 : ((m : Int) != (m : Int)) = false := by simp
  rw [hl]
  clear HP hl
  go_enter Try.func11, Try.ntmps11
  go_wp2
  go_loopw [5] (fun i wr => ∃ (k : Nat) (v : Later B W), k ≤ m ∧ i = .int .i64 k ∧ wr = v.val ∧ Hid (∀ i, i < k → -1000 ≤ ws.getD i 0 ∧ ws.getD i 0 ≤ 1000)) (fun i _ => m - (intOf i).toNat)
  case atStart => exact ⟨0, u, by omega, rfl, rfl, Lib.hid (fun i hi => by omega)⟩
  case round =>
    clear u
    obtain ⟨k, v, hk, rfl, rfl, hf⟩ := hrel
    by_cases hlt : k < m
    · obtain ⟨bb, off, rfl, hbB, hcell⟩ := HW.out.at (k := k) (by rw [Hl.out]; exact hlt)
      have c0 : v.val.cell? ⟨bb, off + k, none⟩ = some (.int .i64 (ws.getD k 0)) := hcell v k (by rw [Hl.out]; exact hlt)
      have HX : Hid (¬ (-1000 ≤ ws.getD k 0 ∧ ws.getD k 0 ≤ 1000) → e = 1) := Lib.hid (fun h => H1.out ⟨k, hlt, h⟩)
      have HY : Hid (-1000 ≤ ws.getD k 0 ∧ ws.getD k 0 ≤ 1000 → ∀ i, i < k + 1 → -1000 ≤ ws.getD i 0 ∧ ws.getD i 0 ≤ 1000) := Lib.hid (fun h i hi => by
        by_cases c : i = k
        · subst c; exact h
        · exact hf.out i (by omega))
      clear hcell hf
      generalize ws.getD k 0 = x at *
      rcases ilt x (-1000) with ⟨g1, d2⟩ | ⟨g1, d2⟩
      · have hr := HX.out (by omega)
        subst hr
        clear HX HY H1 H2 g1
        go_wp2
        go_ret
        exact Ret.mk v rfl
      · rcases ilt 1000 x with ⟨g2, d3⟩ | ⟨g2, d3⟩
        · have hr := HX.out (by omega)
          subst hr
          clear HX HY H1 H2 g1 g2
          go_wp2
          go_ret
          exact Ret.mk v rfl
        · have HN := Lib.hid (HY.out ⟨by omega, by omega⟩)
          clear HX HY g1 g2
          go_wp2
          go_roundw
          case rel => exact ⟨k+1, v, by omega, by go_num, rfl, HN⟩
          case measure => simp [intOf]; omega
    · have hr := H2.out (fun i hi => hf.out i (by omega))
      subst hr
      go_wp2
      go_ret
      exact Ret.mk v rfl

end Go.Proofs.Ytmhjhdgaecdloaa
