
/-
  rotaref.Ranked, rotaref.Climb.
-/
import Derived.Test.YtbbhafakjfmpeaaGrC
import Derived.Test.YtbbhafakjfmpeaaGrIns
namespace Go.Proofs.Ytbbhafakjfmpeaa
open Go.RowKit
set_option linter.unusedVariables false

theorem insL_ints (R : List Nat) (p x : Nat) : insL (ints R) p (x : Int) = ints (insAt R p x) := by
  unfold insL insAt ints
  rw [List.map_append, List.map_cons, List.map_take, List.map_drop]

theorem Own.room {B : Nat} {w : World} {ad : Option Addr} {cap : Nat} {xs : List Int} (h : Own B w ad cap xs) : xs.length ≤ cap := by
  rcases h.2 with ⟨_, e⟩ | ⟨g, c, cur, e, _, _, h2, _⟩
  · omega
  · simp only [Value.slice.injEq] at e
    omega

set_option maxRecDepth 100000 in
set_option maxHeartbeats 8000000 in
theorem c_rankedO {B : Nat} {W : World} (u : Later B W) (m : Nat) (hm : m ≤ 8) (ws : List Int) (b : Option Addr) (capb : Nat) (hw : IntsAt B W b ws) (hl : ws.length = m) :
    Calls Try.prog 22 #[.slice b m capb] u.val (RetP B W (fun v w => ∃ ad cp, v = .slice ad (ints (rkd (fun i => ws.getD i 0) m)).length cp ∧ Own B w ad cp (ints (rkd (fun i => ws.getD i 0) m)))) := by
  have HW := Lib.hid hw
  have Hl := Lib.hid hl
  obtain ⟨wf, hwf⟩ : ∃ wf : Nat → Int, wf = fun i => ws.getD i 0 := ⟨_, rfl⟩
  have HWf : Hid (∀ i, ws.getD i 0 = wf i) := Lib.hid (fun i => by rw [hwf])
  rw [← hwf]
  clear hwf hw hl
  have HRl := Lib.hid (rkd_len wf)
  have HRm : Hid (∀ i t, t < i → (rkd wf i).getD t 0 < i) := Lib.hid (fun i t h => by
    have hl := rkd_len wf i
    have : (rkd wf i).getD t 0 ∈ rkd wf i := by simp [show t < (rkd wf i).length by omega]
    exact (rkd_mem wf _ i).1 this)
  have HRs : Hid (∀ i k, k ≤ i → (∀ t, t < k → wf i ≤ wf ((rkd wf i).getD t 0)) → (k < i → wf ((rkd wf i).getD k 0) < wf i) → rkd wf (i + 1) = insAt (rkd wf i) k i) := Lib.hid (fun i k h1 h2 h3 => by
    have hl := rkd_len wf i
    rw [rkd_succ, ← posW_unique (w := wf) (x := wf i) (R := rkd wf i) (k := k) (by omega) h2 (fun h => h3 (by omega))])
  have HR0 : Hid (rkd wf 0 = []) := Lib.hid rfl
  generalize rkd wf = rkw at *
  go_enter Try.func22, Try.ntmps22
  go_wp2
  go_loopw [3, 4] (fun o i wr => ∃ (k : Nat) (ad : Option Addr) (cp : Nat) (v : Later B W), k ≤ m ∧ o = .slice ad (ints (rkw k)).length cp ∧ i = .int .i64 k ∧ wr = v.val ∧ Hid (Own B v.val ad cp (ints (rkw k)))) (fun _ i _ => m - (intOf i).toNat)
  case atStart => exact ⟨0, none, 0, u, by omega, by rw [HR0.out]; rfl, rfl, rfl, by rw [HR0.out]; exact Own.nil _ _⟩
  case round =>
    clear u
    obtain ⟨i, ad, cp, v, hk, rfl, rfl, rfl, HO⟩ := hrel
    by_cases hlt : i < m
    · have hRl : (ints (rkw i)).length = i := by rw [ints_len, HRl.out]
      have hRl' : (rkw i).length = i := HRl.out i
      obtain ⟨bb, off, rfl, hbB, hcell⟩ := HW.out.at (k := i) (by rw [Hl.out]; exact hlt)
      have HC : Hid (∀ (v : Later B W) (j : Nat), j < m → v.val.cell? ⟨bb, off + j, none⟩ = some (.int .i64 (wf j))) := Lib.hid (fun v j hj => by
        rw [← HWf.out]; exact hcell v j (by rw [Hl.out]; exact hj))
      have HS := Lib.hid (HRs.out i)
      have HM := Lib.hid (HRm.out i)
      have HD := Lib.hid hRl'
      rw [hRl]
      clear hcell hRl'
      have Hrl := Lib.hid hRl
      clear hRl
      generalize hR : rkw i = R at *
      clear hR
      have HNx : Hid (∀ p, p ≤ i → rkw (i + 1) = insAt R p i → ints (rkw (i + 1)) = insL (ints R) p (i : Int)) := Lib.hid (fun p _ e => by rw [e, insL_ints])
      go_wp2
      go_loopw [5] (fun k wr => ∃ (p : Nat) (y : Later v.val.heap.size v.val), p ≤ i ∧ k = .int .i64 p ∧ wr = y.val ∧ Hid (∀ t, t < p → wf i ≤ wf (R.getD t 0))) (fun k _ => i - (intOf k).toNat)
      case atStart => exact ⟨0, Later.self v.val, by omega, rfl, rfl, Lib.hid (fun t ht => by omega)⟩
      case round =>
        obtain ⟨p, y, hp, rfl, rfl, HF⟩ := hrel
        by_cases hpi : p < i
        · obtain ⟨bo, oo, rfl, hbo, hco⟩ := HO.out.reads.at (k := p) (by rw [Hrl.out]; exact hpi)
          have c0 : ∀ w : Later v.val.heap.size v.val, w.val.cell? ⟨bo, oo + p, none⟩ = some (.int .i64 ((R.getD p 0 : Nat) : Int)) := fun w => by rw [← ints_getD]; exact hco w p (by rw [Hrl.out]; exact hpi)
          have hx := HM.out p hpi
          have c1 : ∀ w : Later v.val.heap.size v.val, w.val.cell? ⟨bb, off + R.getD p 0, none⟩ = some (.int .i64 (wf (R.getD p 0))) := fun w => HC.out (v.up w) _ (by omega)
          have c2 : ∀ w : Later v.val.heap.size v.val, w.val.cell? ⟨bb, off + i, none⟩ = some (.int .i64 (wf i)) := fun w => HC.out (v.up w) i hlt
          have hxm : ((R.getD p 0 : Nat) : Int) < (m : Int) := by omega
          have hxm2 : R.getD p 0 < m := by omega
          have HX : Hid (wf (R.getD p 0) < wf i → rkw (i + 1) = insAt R p i) := Lib.hid (fun h => HS.out p hp HF.out (fun _ => h))
          have HY : Hid (wf i ≤ wf (R.getD p 0) → ∀ t, t < p + 1 → wf i ≤ wf (R.getD t 0)) := Lib.hid (fun h t ht => by
            by_cases c : t = p
            · subst c; exact h
            · exact HF.out t (by omega))
          clear hco HF
          generalize R.getD p 0 = x at *
          generalize wf x = wx at *
          generalize wf i = wi at *
          rcases ile wi wx with ⟨g1, d1⟩ | ⟨g1, d1⟩
          · have HN := Lib.hid (HY.out g1)
            clear HX HY g1
            go_wp2
            refine wp_region_later y (by kernel_rfl) (by kernel_rfl) (fun _ => ?_)
            repeat (first | go_big_quiet_step ((fail)) | (refine wpQuiet_step (fun K hK => ?_); go_simp; refine ⟨_, fun _ => rfl, ?_⟩; refine hK _ ?_; clear hK K))
            refine wpQuiet_nil ?_
            intro y
            go_wp2
            go_roundw
            case rel => exact ⟨p+1, y, by omega, by go_num, rfl, HN⟩
            case measure => simp [intOf]; omega
          · have HN := HX.out g1
            have HN2 := Lib.hid (HNx.out p hp HN)
            clear HX HY g1 HN
            go_wp2
            refine wp_region_later y (by kernel_rfl) (by kernel_rfl) (fun _ => ?_)
            repeat (first | go_big_quiet_step ((fail)) | (refine wpQuiet_step (fun K hK => ?_); go_simp; refine ⟨_, fun _ => rfl, ?_⟩; refine hK _ ?_; clear hK K))
            refine wpQuiet_nil ?_
            intro y
            clear c0 c1 c2
            have HO1 := Lib.hid (HO.out.keep y.below)
            obtain ⟨z, hz⟩ : ∃ z : Later B W, z.val = y.val := ⟨v.up y, rfl⟩
            rw [← hz] at HO1 ⊢
            clear hz HO y
            have KI := Lib.hid (c_insert z (ints R) (some ⟨bo, oo, none⟩) cp p (i : Int) (by rw [Hrl.out]; omega) HO1.out (by rw [Hrl.out]; omega))
            rw [← HN2.out, Hrl.out] at KI
            clear HO1 HN2 HNx
            go_wp2_with (first | (go_at_call 27; (with_reducible refine (KI.out).mono ?_); rintro e _ ⟨u2, ad2, cp2, rfl, rfl, hO2⟩))
            go_roundw
            case rel => exact ⟨i+1, ad2, cp2, u2, by omega, rfl, by go_num, rfl, Lib.hid hO2⟩
            case measure => simp [intOf]; omega
        · have hpe : p = i := by omega
          subst hpe
          have HN := HS.out p (Nat.le_refl _) HF.out (fun h => by omega)
          have HN2 := Lib.hid (HNx.out p hp HN)
          have d1 : decide ((p : Int) < (p : Int)) = false := by simp
          clear HN
          go_wp2
          refine wp_region_later y (by kernel_rfl) (by kernel_rfl) (fun _ => ?_)
          repeat (first | go_big_quiet_step ((fail)) | (refine wpQuiet_step (fun K hK => ?_); go_simp; refine ⟨_, fun _ => rfl, ?_⟩; refine hK _ ?_; clear hK K))
          refine wpQuiet_nil ?_
          intro y
          have HO1 := Lib.hid (HO.out.keep y.below)
          obtain ⟨z, hz⟩ : ∃ z : Later B W, z.val = y.val := ⟨v.up y, rfl⟩
          rw [← hz] at HO1 ⊢
          clear hz HO y
          have KI := Lib.hid (c_insert z (ints R) ad cp p (p : Int) (by rw [Hrl.out]; omega) HO1.out (by rw [Hrl.out]; omega))
          rw [← HN2.out, Hrl.out] at KI
          clear HO1 HN2 HNx
          go_wp2_with (first | (go_at_call 27; (with_reducible refine (KI.out).mono ?_); rintro e _ ⟨u2, ad2, cp2, rfl, rfl, hO2⟩))
          go_roundw
          case rel => exact ⟨p+1, ad2, cp2, u2, by omega, rfl, by go_num, rfl, Lib.hid hO2⟩
          case measure => simp [intOf]; omega
    · have hke : i = m := by omega
      subst hke
      go_wp2
      go_ret
      exact RetP.mk v ⟨ad, cp, rfl, HO.out⟩

theorem c_ranked {B : Nat} {W : World} (u : Later B W) (m : Nat) (hm : m ≤ 8) (ws : List Int) (b : Option Addr) (capb : Nat) (hw : IntsAt B W b ws) (hl : ws.length = m) :
    Calls Try.prog 22 #[.slice b m capb] u.val (RetInts B W (ints (rkd (fun i => ws.getD i 0) m))) := by
  refine (c_rankedO u m hm ws b capb hw hl).mono ?_
  rintro e _ ⟨_, rfl, ⟨ad, cp, rfl, hO⟩, v, rfl⟩
  exact RetP.mk v (Reads.of_own hO)

end Go.Proofs.Ytbbhafakjfmpeaa
