
/-
  rotaref.Lovasz.
-/
import Derived.Test.YtbbhafakjfmpeaaSuB
import Derived.Test.YtbbhafakjfmpeaaGrG
namespace Go.Proofs.Ytbbhafakjfmpeaa
open Go.RowKit
set_option linter.unusedVariables false

set_option maxRecDepth 100000 in
set_option maxHeartbeats 20000000 in
theorem c_lovasz {B : Nat} {W : World} (u : Later B W) (m : Nat) (hm : m ≤ 8) (f ws : List Int) (a b : Option Addr) (cap capb : Nat) (h : IntsAt B W a f) (hlen : f.length ≤ 4611686018427387904) (hf : isFun (m : Int) f) (hw : IntsAt B W b ws) (hp : PrcIs m ws 0) :
    Calls Try.prog 12 #[.slice a f.length cap, .slice b ws.length capb] u.val (Ret B W (.int .i64 (extT (fun i => ws.getD i 0) (fun i => f.getD i 0) (rkd (fun i => ws.getD i 0) m) m))) := by
  have hb := bit_le m hm
  have hfl := hf.len
  obtain ⟨hl, hr⟩ := hp.ok
  have hf0 : f.getD 0 0 = 0 := hf.2.2.2.1
  rw [← lov_all _ _ _ _ hf0, hl]
  have KR := Lib.hid (c_rankedO u m hm ws b capb hw hl)
  obtain ⟨O, hO⟩ : ∃ O, O = rkd (fun i => ws.getD i 0) m := ⟨_, rfl⟩
  have hOl : O.length = m := by rw [hO, rkd_len]
  have hO2 : ∀ j, j < m → O.getD j 0 < m := fun j hj => by
    have : O.getD j 0 ∈ O := by simp [show j < O.length by omega]
    rw [hO] at this ⊢
    exact (rkd_mem _ _ m).1 this
  rw [← hO] at KR ⊢
  have HF := Lib.hid h
  have HW := Lib.hid hw
  have Hl := Lib.hid hl
  have HR := Lib.hid hr
  have HB := Lib.hid hf.bound
  have HFl := Lib.hid hfl
  have HO2 := Lib.hid hO2
  have HOl := Lib.hid hOl
  have HLt := Lib.hid (prfT_lt hO2)
  have HBd := Lib.hid (fun k hk => lovT_bd (w := fun i => ws.getD i 0) (f := fun i => f.getD i 0) hO2 hr hf.bound k hk)
  have HS : Hid (∀ k, lovT (fun i => ws.getD i 0) (fun i => f.getD i 0) O m (k + 1) = lovT (fun i => ws.getD i 0) (fun i => f.getD i 0) O m k + (ws.getD (O.getD k 0) 0 - nxtT (fun i => ws.getD i 0) O m (k + 1)) * f.getD (prfT O (k + 1)) 0) := Lib.hid (fun k => rfl)
  have HNx : Hid (∀ k, k < m → nxtT (fun i => ws.getD i 0) O m k = ws.getD (O.getD k 0) 0) := Lib.hid (fun k hk => by unfold nxtT; rw [if_pos hk])
  have HNe : Hid (nxtT (fun i => ws.getD i 0) O m m = 0) := Lib.hid (by unfold nxtT; rw [if_neg (Nat.lt_irrefl _)])
  have HNb := Lib.hid (nxtT_bd (w := fun i => ws.getD i 0) hO2 hr)
  have H0 : Hid (lovT (fun i => ws.getD i 0) (fun i => f.getD i 0) O m 0 = 0) := Lib.hid rfl
  have KS : Hid (∀ (B : Nat) (W : World) (v : Later B W) (ad : Option Addr) (cp k : Nat), IntsAt B W ad (ints O) → k ≤ m → Calls Try.prog 10 #[.slice ad k cp] v.val (Ret B W (.int .i64 (prfT O k)))) := Lib.hid (fun B W v ad cp k h hk => c_setOf v O ad cp k h (by omega) (by omega) (fun j hj => by have := hO2 j (by omega); omega))
  have hil : (ints O).length = m := by rw [ints_len, hOl]
  rw [hil] at KR
  have Hil := Lib.hid hil
  clear h hw hp hl hr hf hfl hf0 hO hOl hO2 hil
  generalize lovT (fun i => ws.getD i 0) (fun i => f.getD i 0) O m = A at *
  generalize nxtT (fun i => ws.getD i 0) O m = nx at *
  generalize prfT O = pf at *
  generalize hfl2 : f.length = fl at *
  have HFn := Lib.hid hfl2
  clear hfl2
  go_enter Try.func12, Try.ntmps12
  go_upto_region 2 with (first | (go_at_call 22; (with_reducible refine (KR.out).mono ?_); rintro e _ ⟨_, rfl, ⟨ad, cp, rfl, hO⟩, v1, rfl⟩))
  have hroom : m ≤ cp := by have := hO.room; rwa [Hil.out] at this
  have HI : Hid (IntsAt v1.val.heap.size v1.val ad (ints O)) := Lib.hid hO.reads
  have HF1 : Hid (IntsAt v1.val.heap.size v1.val a f) := Lib.hid (HF.out.to v1)
  have HW1 : Hid (IntsAt v1.val.heap.size v1.val b ws) := Lib.hid (HW.out.to v1)
  have HV : Hid (∀ y : Later v1.val.heap.size v1.val, ∃ w : Later B W, w.val = y.val) := Lib.hid (fun y => ⟨v1.up y, rfl⟩)
  obtain ⟨y, hy⟩ : ∃ y : Later v1.val.heap.size v1.val, y.val = v1.val := ⟨Later.self _, rfl⟩
  rw [← hy]
  clear hy KR HF HW hO u
  generalize v1.val = V at *
  clear v1
  go_wp2
  go_loopw [6, 7] (fun s i wr => ∃ (k : Nat) (v : Later V.heap.size V), k ≤ m ∧ s = .int .i64 (A k) ∧ i = .int .i64 k ∧ wr = v.val) (fun _ i _ => m - (intOf i).toNat)
  case atStart => exact ⟨0, y, by omega, by rw [H0.out], rfl, rfl⟩
  case round =>
    clear y
    obtain ⟨k, v, hk, rfl, rfl, rfl⟩ := hrel
    by_cases hlt : k < m
    · obtain ⟨bo, oo, rfl, hbo, hco⟩ := HI.out.at (k := k) (by rw [Hil.out]; exact hlt)
      have hx := HO2.out k hlt
      obtain ⟨bb, off, rfl, hbB, hcell⟩ := HW1.out.at (k := O.getD k 0) (by rw [Hl.out]; exact hx)
      obtain ⟨bf, of, rfl, hbf, hcf⟩ := HF1.out.at (k := 0) (by have := HFl.out; have := HFn.out; omega)
      have c0 : ∀ w : Later V.heap.size V, w.val.cell? ⟨bo, oo + k, none⟩ = some (.int .i64 ((O.getD k 0 : Nat) : Int)) := fun w => by rw [← ints_getD]; exact hco w k (by rw [Hil.out]; exact hlt)
      have c1 : ∀ w : Later V.heap.size V, w.val.cell? ⟨bb, off + O.getD k 0, none⟩ = some (.int .i64 (ws.getD (O.getD k 0) 0)) := fun w => hcell w _ (by rw [Hl.out]; exact hx)
      have c2 : ∀ w : Later V.heap.size V, w.val.cell? ⟨bf, of + pf (k + 1), none⟩ = some (.int .i64 (f.getD (pf (k + 1)) 0)) := fun w => hcf w _ (by have := HFl.out; have := HFn.out; have := HLt.out (k + 1) (by omega); omega)
      have ht1 : pf (k + 1) < bit m := HLt.out (k + 1) (by omega)
      have htz : ((pf (k + 1) : Nat) : Int) < (fl : Int) := by have := HFl.out; omega
      have hB1 := HB.out (pf (k + 1))
      have hB2 := HR.out _ hx
      have hB3 := HNb.out (k + 1)
      have hB4 := HBd.out k hk
      have HN := Lib.hid (HS.out k)
      have K1 := Lib.hid (KS.out V.heap.size V v (some ⟨bo, oo, none⟩) cp (k + 1) HI.out (by omega))
      have hxz : ((O.getD k 0 : Nat) : Int) < (m : Int) := by omega
      have hB5 := step_bd2 (a := ws.getD (O.getD k 0) 0 - nx (k + 1)) (b := f.getD (pf (k + 1)) 0) (by omega) hB1
      have c0' := c0 v
      have c1' := c1 v
      have w1 := IntWalk.i64_in (ws.getD (O.getD k 0) 0 - nx (k + 1)) (by omega)
      have w2 := IntWalk.i64_in ((ws.getD (O.getD k 0) 0 - nx (k + 1)) * f.getD (pf (k + 1)) 0) (by omega)
      have w3 := IntWalk.i64_in (A k + (ws.getD (O.getD k 0) 0 - nx (k + 1)) * f.getD (pf (k + 1)) 0) (by omega)
      clear hcell hcf hco hB5
      by_cases hl2 : k + 1 < m
      · have hy2 := HO2.out (k + 1) hl2
        have hn : nx (k + 1) = ws.getD (O.getD (k + 1) 0) 0 := HNx.out (k + 1) hl2
        obtain ⟨q, hq⟩ : ∃ q, q = k + 1 := ⟨_, rfl⟩
        have w4 : IntKind.i64.wrap ((k : Int) + 1) = (q : Int) := by rw [IntWalk.i64_in _ (by omega)]; omega
        rw [← hq] at hl2 hy2 hn c2 ht1 htz HN K1 w1 w2 w3
        have Hq := Lib.hid hq
        have hqc : (q : Int) ≤ (cp : Int) := by omega
        have hqm : (q : Int) < (m : Int) := by omega
        clear hq
        have c3 : ∀ w : Later V.heap.size V, w.val.cell? ⟨bo, oo + q, none⟩ = some (.int .i64 ((O.getD q 0 : Nat) : Int)) := fun w => by
          obtain ⟨bo', oo', ho, _, hco⟩ := HI.out.at (k := q) (by rw [Hil.out]; exact hl2)
          simp only [Option.some.injEq, Addr.mk.injEq, and_true] at ho
          obtain ⟨rfl, rfl⟩ := ho
          rw [← ints_getD]; exact hco w q (by rw [Hil.out]; exact hl2)
        have c4 : ∀ w : Later V.heap.size V, w.val.cell? ⟨bb, off + O.getD q 0, none⟩ = some (.int .i64 (ws.getD (O.getD q 0) 0)) := fun w => by
          obtain ⟨bb', off', ho, _, hco⟩ := HW1.out.at (k := O.getD q 0) (by rw [Hl.out]; exact hy2)
          simp only [Option.some.injEq, Addr.mk.injEq, and_true] at ho
          obtain ⟨rfl, rfl⟩ := ho
          exact hco w _ (by rw [Hl.out]; exact hy2)
        have c3' := c3 v
        have c4' := c4 v
        have hyz : ((O.getD q 0 : Nat) : Int) < (m : Int) := by omega
        rw [← hn] at c4 c4'
        clear hn hy2
        generalize O.getD q 0 = y at *
        generalize O.getD k 0 = x at *
        generalize ws.getD x 0 = wx at *
        generalize f.getD (pf q) 0 = fa at *
        go_wp2_with (first | (go_at_call 10; (with_reducible refine (K1.out).mono ?_); rintro e _ ⟨rfl, v2, rfl⟩))
        go_roundw
        case rel => exact ⟨q, v2, by omega, vint (by rw [HN.out]), rfl, rfl⟩
        case measure => have := Hq.out; simp [intOf]; omega
      · have hke : m = k + 1 := by omega
        have hn : nx (k + 1) = 0 := by rw [← hke]; exact HNe.out
        obtain ⟨q, hq⟩ : ∃ q, q = k + 1 := ⟨_, rfl⟩
        have w4 : IntKind.i64.wrap ((k : Int) + 1) = (q : Int) := by rw [IntWalk.i64_in _ (by omega)]; omega
        rw [← hq] at hn c2 ht1 htz HN K1 w1 w2 w3
        have Hq := Lib.hid hq
        have hqc : (q : Int) ≤ (cp : Int) := by omega
        have hqm : ¬ ((q : Int) < (m : Int)) := by omega
        have d1 : decide ((q : Int) < (m : Int)) = false := decide_eq_false hqm
        have hqq : q ≤ m := by omega
        rw [hn, Int.sub_zero] at w1 w2 w3 HN
        clear hq hke hl2 hn
        generalize O.getD k 0 = x at *
        generalize ws.getD x 0 = wx at *
        generalize f.getD (pf q) 0 = fa at *
        go_wp2_with (first | (go_at_call 10; (with_reducible refine (K1.out).mono ?_); rintro e _ ⟨rfl, v2, rfl⟩))
        go_roundw
        case rel => exact ⟨q, v2, hqq, vint (by rw [HN.out]), rfl, rfl⟩
        case measure => have := Hq.out; simp [intOf]; omega
    · have hke : k = m := by omega
      subst hke
      go_wp2
      go_ret
      exact Ret.of (HV.out v) rfl

end Go.Proofs.Ytbbhafakjfmpeaa
