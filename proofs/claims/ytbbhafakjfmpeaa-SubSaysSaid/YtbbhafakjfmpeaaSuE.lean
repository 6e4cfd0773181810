
/-
  The stable sort of an order by weight (slices.SortStableFunc as greedy.Best calls it).
-/
import Derived.Test.YtbbhafakjfmpeaaGrC
import Derived.Test.YtbbhafakjfmpeaaCFun
import Derived.BigRegion
namespace Go.Proofs.Ytbbhafakjfmpeaa
open Go.RowKit
set_option linter.unusedVariables false

set_option maxRecDepth 100000 in
set_option maxHeartbeats 8000000 in
theorem c_extCmp {B : Nat} {W : World} (u : Later B W) (m x y g : Nat) (hm : m ≤ 8) (hx : x < m) (hy : y < m) (ws : List Int) (b : Option Addr) (capb : Nat) (hw : IntsAt B W b ws) (hl : ws.length = m) (hg : g < B) (hbox : W.cell? ⟨g, 0, none⟩ = some (.slice b m capb)) :
    Calls Try.prog 19 #[.int .i64 x, .int .i64 y, .pointer (some ⟨g, 0, none⟩)] u.val (Ret B W (.int .i64 (cmpI (ws.getD y 0) (ws.getD x 0)))) := by
  have q0 : ∀ u : Later B W, u.val.cell? ⟨g, 0, none⟩ = some (.slice b m capb) := fun u => by rw [u.cell hg, hbox]
  obtain ⟨bb, off, rfl, hbB, hcell⟩ := hw.at (k := x) (by omega)
  have c0 : ∀ v : Later B W, v.val.cell? ⟨bb, off + x, none⟩ = some (.int .i64 (ws.getD x 0)) := fun v => hcell v x (by omega)
  have c1 : ∀ v : Later B W, v.val.cell? ⟨bb, off + y, none⟩ = some (.int .i64 (ws.getD y 0)) := fun v => hcell v y (by omega)
  have KC := Lib.hid (fun v : Later B W => c_cmpCompare v (ws.getD y 0) (ws.getD x 0))
  clear hw hbox hcell hl
  generalize ws.getD x 0 = wx at *
  generalize ws.getD y 0 = wy at *
  go_enter Try.func19, Try.ntmps19
  go_wp2
  refine wp_region_later u (by kernel_rfl) (by kernel_rfl) (fun _ => ?_)
  repeat (first | go_big_quiet_step (((go_at_call 20; exact KC.out _))) | (refine wpQuiet_step (fun K hK => ?_); go_simp; refine ⟨_, fun _ => rfl, ?_⟩; refine hK _ ?_; clear hK K))
  refine wpQuiet_nil ?_
  intro u
  go_wp2
  go_ret
  exact Ret.mk u rfl

theorem tblW_one (w : Nat → Int) (t : Nat) : tblW w 0 t = tblW w 1 t := by
  unfold tblW
  rw [if_neg (Nat.not_lt_zero _)]
  by_cases c : t < 1
  · have : t = 0 := by omega
    subst this
    rfl
  · rw [if_neg c]

set_option maxRecDepth 100000 in
set_option maxHeartbeats 20000000 in
theorem c_insSort {g : Nat} {V : World} (u : Later g V) (m gd gw : Nat) (hm : m ≤ 8) (hgd : g ≤ gd) (hgw : gw < g) (ws : List Int) (b : Option Addr) (capb : Nat) (hw : IntsAt g V b ws) (hl : ws.length = m) (hbox : V.cell? ⟨gw, 0, none⟩ = some (.slice b m capb)) (hT : ITab u.val gd m (fun t => (tblW (fun i => ws.getD i 0) 0 t : Int))) :
    Calls Try.prog 28 #[.slice (some ⟨gd, 0, none⟩) m m, .int .i64 0, .int .i64 m, .func (.func 19) #[] #[.pointer (some ⟨gw, 0, none⟩)]] u.val (fun e w' => e = .returned (.tuple #[]) ∧ ∃ v' : Later g V, w' = v'.val ∧ ITab v'.val gd m (fun t => (tblW (fun i => ws.getD i 0) m t : Int))) := by
  have KB := Lib.hid (fun (v : Later g V) (w : Later v.val.heap.size v.val) (x y : Nat) (hx : x < m) (hy : y < m) => c_extCmp w m x y gw hm hx hy ws b capb (hw.to v) hl (Nat.lt_of_lt_of_le hgw v.size) (by rw [v.cell hgw]; exact hbox))
  have HT0 : Hid (ITab u.val gd m (fun t => (tblW (fun i => ws.getD i 0) 1 t : Int))) := Lib.hid (hT.congr (fun t _ => by rw [tblW_one]))
  clear hw hl hbox hT
  obtain ⟨wf, hwf⟩ : ∃ wf : Nat → Int, wf = fun i => ws.getD i 0 := ⟨_, rfl⟩
  have HWf : Hid (∀ i, ws.getD i 0 = wf i) := Lib.hid (fun i => by rw [hwf])
  rw [← hwf] at HT0 ⊢
  clear hwf
  have HRm : Hid (∀ i t, t < i → (rkd wf i).getD t 0 < i) := Lib.hid (fun i t h => by
    have hl := rkd_len wf i
    have : (rkd wf i).getD t 0 ∈ rkd wf i := by simp [show t < (rkd wf i).length by omega]
    exact (rkd_mem wf _ i).1 this)
  have HA := Lib.hid (midW_start wf)
  have HB := Lib.hid (midW_at wf)
  have HC := Lib.hid (fun i j => @midW_prev wf i j)
  have HD := Lib.hid (fun i j => @midW_swap wf i j)
  have HE := Lib.hid (fun i j => @midW_end wf i j)
  generalize hmw : midW wf = mw at *
  generalize htb : tblW wf = tb at *
  generalize hrk : rkd wf = rkw at *
  clear hmw htb hrk
  go_enter Try.func28, Try.ntmps28
  go_wp2
  go_loopw [8] (fun i wr => ∃ (k : Nat) (v : Later g V), 1 ≤ k ∧ k ≤ max m 1 ∧ i = .int .i64 k ∧ wr = v.val ∧ Hid (ITab v.val gd m (fun t => (tb k t : Int)))) (fun i _ => m - (intOf i).toNat)
  case atStart => exact ⟨1, u, by omega, by omega, rfl, rfl, HT0⟩
  case round =>
    clear u HT0
    obtain ⟨i, v, h1, h2, rfl, rfl, HT⟩ := hrel
    by_cases hlt : i < m
    · have HT0 : Hid (ITab v.val gd m (fun t => (mw i i t : Int))) := Lib.hid (HT.out.congr (fun t _ => by rw [HA.out]))
      go_wp2
      go_loopw [9] (fun j wr => ∃ (q : Nat) (v : Later g V), q ≤ i ∧ j = .int .i64 q ∧ wr = v.val ∧ Hid (ITab v.val gd m (fun t => (mw i q t : Int))) ∧ Hid (∀ t, q ≤ t → t < i → wf ((rkw i).getD t 0) < wf i)) (fun j _ => (intOf j).toNat)
      case atStart => exact ⟨i, v, Nat.le_refl _, rfl, rfl, HT0, Lib.hid (fun t ht ht2 => by omega)⟩
      case round =>
        clear HT HT0 v
        obtain ⟨q, v, hq, rfl, rfl, HT, HF⟩ := hrel
        have HTw : Hid (∀ w : Later v.val.heap.size v.val, ITab w.val gd m (fun t => (mw i q t : Int))) := Lib.hid (fun w => HT.out.keep w.below)
        obtain ⟨y0, hy0⟩ : ∃ y : Later v.val.heap.size v.val, y.val = v.val := ⟨Later.self _, rfl⟩
        by_cases hq0 : q = 0
        · subst hq0
          have HN : Hid (∀ w : Later v.val.heap.size v.val, ITab w.val gd m (fun t => (tb (i + 1) t : Int))) := Lib.hid (fun w => (HTw.out w).congr (fun t _ => by
            rw [HE.out i 0 (by omega) (fun t h1 h2 => HF.out t h1 h2) (fun h => by omega)]))
          clear HT HF HTw
          rw [← hy0]
          clear hy0
          go_wp2
          refine wp_region_later y0 (by kernel_rfl) (by kernel_rfl) (fun _ => ?_)
          repeat (first | go_big_quiet_step ((fail)) | (refine wpQuiet_step (fun K hK => ?_); go_simp; refine ⟨_, fun _ => rfl, ?_⟩; refine hK _ ?_; clear hK K))
          refine wpQuiet_nil ?_
          intro y0
          go_wp2
          go_roundw
          case rel => exact ⟨i+1, v.up y0, by omega, by omega, by go_num, rfl, Lib.hid (HN.out y0)⟩
          case measure => simp [intOf]; omega
        · obtain ⟨jp, rfl⟩ : ∃ jp, q = jp + 1 := ⟨q - 1, by omega⟩
          have hjp : jp < i := by omega
          obtain ⟨j1, hj1⟩ : ∃ j1, j1 = jp + 1 := ⟨_, rfl⟩
          have cj : ∀ w : Later v.val.heap.size v.val, w.val.cell? ⟨gd, j1, none⟩ = some (.int .i64 (i : Int)) := fun w => by
            have := (HTw.out w).cell (i := jp + 1) (by omega)
            rw [HB.out] at this
            rw [hj1]; exact this
          have cp : ∀ w : Later v.val.heap.size v.val, w.val.cell? ⟨gd, jp, none⟩ = some (.int .i64 (((rkw i).getD jp 0 : Nat) : Int)) := fun w => by
            have := (HTw.out w).cell (i := jp) (by omega)
            have e := HC.out i (jp + 1) (by omega)
            rw [show jp + 1 - 1 = jp from rfl] at e
            rwa [e] at this
          have fz : ∀ (w : Later v.val.heap.size v.val) (t : Nat), w.val.frozen? ⟨gd, t, none⟩ = false := fun w t => (HTw.out w).frozen t
          have hrm := HRm.out i jp hjp
          have KB1 : Hid (∀ w : Later v.val.heap.size v.val, Calls Try.prog 19 #[.int .i64 (i : Int), .int .i64 (((rkw i).getD jp 0 : Nat) : Int), .pointer (some ⟨gw, 0, none⟩)] w.val (Ret v.val.heap.size v.val (.int .i64 (cmpI (wf ((rkw i).getD jp 0)) (wf i))))) := Lib.hid (fun w => by
            have := KB.out v w i ((rkw i).getD jp 0) (by omega) (by omega)
            rwa [HWf.out, HWf.out] at this)
          have HSw := Lib.hid (fun t => HD.out i (jp + 1) (by omega) hq t)
          have HEx : Hid (wf i ≤ wf ((rkw i).getD jp 0) → ∀ w : Later v.val.heap.size v.val, ITab w.val gd m (fun t => (tb (i + 1) t : Int))) := Lib.hid (fun hle w => (HTw.out w).congr (fun t _ => by
            rw [HE.out i (jp + 1) hq (fun t h1 h2 => HF.out t h1 h2) (fun _ => by rw [show jp + 1 - 1 = jp from rfl]; exact hle)]))
          have HF2 : Hid (wf ((rkw i).getD jp 0) < wf i → ∀ t, jp ≤ t → t < i → wf ((rkw i).getD t 0) < wf i) := Lib.hid (fun hl t ht1 ht2 => by
            by_cases c : t = jp
            · subst c; exact hl
            · exact HF.out t (by omega) ht2)
          have j1z : (j1 : Int) < (m : Int) := by omega
          have jpz : (jp : Int) < (m : Int) := by omega
          have hwp : IntKind.i64.wrap (jp : Int) = (jp : Int) := IntWalk.i64_in _ (by omega)
          have hpe : ((jp + 1 : Nat) : Int) = (j1 : Int) := by omega
          have hpm : ((j1 : Int) - 1) = (jp : Int) := by omega
          have d0 : decide ((0 : Int) < (j1 : Int)) = true := decide_eq_true (by omega)
          have d0' : decide (0 < j1) = true := decide_eq_true (by omega)
          have HTw2 := HTw
          have Hj1 := Lib.hid hj1
          rw [hpe]
          clear hpe hj1 HT HF HTw KB
          generalize hrj : (rkw i).getD jp 0 = rj at *
          have Hrj := Lib.hid hrj
          clear hrj
          unfold cmpI at KB1
          by_cases hlw : wf rj < wf i
          · rw [if_pos hlw] at KB1
            have HFn := Lib.hid (HF2.out hlw)
            clear HEx HF2 hlw
            rw [← hy0]
            clear hy0
            go_wp2
            refine wp_region_later y0 (by kernel_rfl) (by kernel_rfl) (fun _ => ?_)
            repeat (first | go_big_quiet_step (((go_at_call 19; exact KB1.out _))) | (refine wpQuiet_step (fun K hK => ?_); go_simp; refine ⟨_, fun _ => rfl, ?_⟩; refine hK _ ?_; clear hK K))
            refine wpQuiet_nil ?_
            intro y0
            go_wp2
            have cj2 := cj y0
            have cp2 := cp y0
            have fj2 := fz y0 j1
            have fp2 := fz y0 jp
            have HT2 := Lib.hid (HTw2.out y0)
            obtain ⟨y1, hy1⟩ : ∃ y1 : Later g V, y1.val = y0.val := ⟨v.up y0, rfl⟩
            rw [← hy1] at cj2 cp2 fj2 fp2 HT2 ⊢
            clear hy1 cj cp fz KB1 HTw2 y0
            go_big_region
            all_goals go_wp2
            all_goals (refine ⟨⟨jp, ((y1.set ⟨gd, j1, none⟩ hgd (.int .i64 (rj : Int))).set ⟨gd, jp, none⟩ hgd (.int .i64 (i : Int))).drew, by omega, rfl, rfl, Lib.hid ?_, HFn⟩, by simp [intOf]; omega⟩)
            all_goals
              have HS1 := HT2.out.set j1 (rj : Int) (A' := fun t => if t = j1 then (rj : Int) else (mw i (jp + 1) t : Int)) (fun t _ => rfl)
              have HS2 := HS1.set jp (i : Int) (A' := fun t => (mw i jp t : Int)) (fun t _ => by
                have e := HSw.out t
                rw [show jp + 1 - 1 = jp from rfl, ← Hj1.out, Hrj.out] at e
                rw [e, Hj1.out]
                by_cases c1 : t = jp
                · rw [if_pos c1, if_pos c1]
                · rw [if_neg c1, if_neg c1]
                  by_cases c2 : t = jp + 1
                  · rw [if_pos c2, if_pos c2]
                  · rw [if_neg c2, if_neg c2])
              exact HS2.keep ((Below.refl _ _).drew)
          · have HFn := Lib.hid (HEx.out (by omega))
            have hcn : Hid (0 ≤ cmpI (wf rj) (wf i)) := Lib.hid (by unfold cmpI; rw [if_neg hlw]; split <;> omega)
            rw [if_neg hlw] at KB1
            have KB2 : Hid (∃ r : Int, 0 ≤ r ∧ ∀ w : Later v.val.heap.size v.val, Calls Try.prog 19 #[.int .i64 (i : Int), .int .i64 (rj : Int), .pointer (some ⟨gw, 0, none⟩)] w.val (Ret v.val.heap.size v.val (.int .i64 r))) := Lib.hid ⟨_, by
              split
              · omega
              · omega, KB1.out⟩
            obtain ⟨r, hr0, hKr⟩ := KB2.out
            have K3 := Lib.hid hKr
            have dr : decide (r < 0) = false := decide_eq_false (by omega)
            clear HEx HF2 hlw hcn KB1 KB2 hKr hr0
            rw [← hy0]
            clear hy0
            go_wp2
            refine wp_region_later y0 (by kernel_rfl) (by kernel_rfl) (fun _ => ?_)
            repeat (first | go_big_quiet_step (((go_at_call 19; exact K3.out _))) | (refine wpQuiet_step (fun K hK => ?_); go_simp; refine ⟨_, fun _ => rfl, ?_⟩; refine hK _ ?_; clear hK K))
            refine wpQuiet_nil ?_
            intro y0
            go_wp2
            go_roundw
            case rel => exact ⟨i+1, v.up y0, by omega, by omega, by go_num, rfl, Lib.hid (HFn.out y0)⟩
            case measure => simp [intOf]; omega
    · have HN : Hid (ITab v.val gd m (fun t => (tb m t : Int))) := Lib.hid (by
        by_cases c : m = 0
        · subst c
          exact HT.out.congr (fun t ht => by omega)
        · have : i = m := by omega
          rw [← this]
          rw [← this] at HT
          exact HT.out)
      go_wp2
      go_end0
      exact ⟨rfl, v, rfl, HN.out⟩

set_option maxRecDepth 100000 in
set_option maxHeartbeats 20000000 in
theorem c_stable {g : Nat} {V : World} (u : Later g V) (m gd gw : Nat) (hm : m ≤ 8) (hgd : g ≤ gd) (hgw : gw < g) (ws : List Int) (b : Option Addr) (capb : Nat) (hw : IntsAt g V b ws) (hl : ws.length = m) (hbox : V.cell? ⟨gw, 0, none⟩ = some (.slice b m capb)) (hT : ITab u.val gd m (fun t => (tblW (fun i => ws.getD i 0) 0 t : Int))) :
    Calls Try.prog 18 #[.slice (some ⟨gd, 0, none⟩) m m, .func (.func 19) #[] #[.pointer (some ⟨gw, 0, none⟩)]] u.val (fun e w' => e = .returned (.tuple #[]) ∧ ∃ v' : Later g V, w' = v'.val ∧ ITab v'.val gd m (fun t => (tblW (fun i => ws.getD i 0) m t : Int))) := by
  have K1 : Hid (Calls Try.prog 24 #[.slice (some ⟨gd, 0, none⟩) m m, .int .i64 m, .func (.func 19) #[] #[.pointer (some ⟨gw, 0, none⟩)]] u.val (fun e w' => e = .returned (.tuple #[]) ∧ ∃ v' : Later g V, w' = v'.val ∧ ITab v'.val gd m (fun t => (tblW (fun i => ws.getD i 0) m t : Int)))) := Lib.hid (by
    have K := Lib.hid (c_insSort u m gd gw hm hgd hgw ws b capb hw hl hbox hT)
    clear hw hl hbox hT
    generalize tblW (fun i => ws.getD i 0) m = A at *
    have d1 : decide ((20 : Int) ≤ (m : Int)) = false := decide_eq_false (by omega)
    have d2 : decide ((20 : Int) < (m : Int)) = false := decide_eq_false (by omega)
    have d3 : decide (20 ≤ m) = false := decide_eq_false (by omega)
    have d4 : decide (20 < m) = false := decide_eq_false (by omega)
    go_enter Try.func24, Try.ntmps24
    go_wp2
    go_loopw [7, 8] (fun x y wr => x = .int .i64 0 ∧ y = .int .i64 20 ∧ wr = u.val) (fun _ _ _ => 0)
    case atStart => exact ⟨rfl, rfl, rfl⟩
    case round =>
      obtain ⟨rfl, rfl, rfl⟩ := hrel
      go_wp2_with (first | (go_at_call 28; (with_reducible refine (K.out).mono ?_); rintro e _ ⟨rfl, v1, rfl, hT1⟩))
      have HT1 := Lib.hid hT1
      clear hT1 K
      go_loopw [6] (fun x wr => x = .int .i64 20 ∧ wr = v1.val) (fun _ _ => 0)
      case atStart => exact ⟨rfl, rfl⟩
      case round =>
        obtain ⟨rfl, rfl⟩ := hrel
        go_wp2
        go_end0
        exact ⟨rfl, v1, rfl, HT1.out⟩)
  clear hw hl hbox hT
  generalize tblW (fun i => ws.getD i 0) m = A at *
  go_enter Try.func18, Try.ntmps18
  go_wp2_with (first | (go_at_call 24; (with_reducible refine (K1.out).mono ?_); rintro e _ ⟨rfl, v1, rfl, hT1⟩))
  go_end0
  exact ⟨rfl, v1, rfl, hT1⟩

end Go.Proofs.Ytbbhafakjfmpeaa
