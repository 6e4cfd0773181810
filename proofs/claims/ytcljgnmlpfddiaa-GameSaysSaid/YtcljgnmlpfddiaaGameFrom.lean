/-
  rotaref.Wins: the walk of the function value.
-/
import Derived.Test.YtcljgnmlpfddiaaGameRef
namespace Go.Proofs.Ytcljgnmlpfddiaa
open Go.RowKit Go.Maps
set_option linter.unusedVariables false

set_option maxRecDepth 100000 in
set_option maxHeartbeats 20000000 in
theorem c_from (n s t : Nat) (es : List (Int × Int)) (a : Option Addr) (cap : Nat) (hG : isGraph (n : Int) es) (hs : s < 8) (ht : t < 8) (b B bg bs bt bw bn bf : Nat) (hBb : B ≤ b) : ∀ k, ∀ (w : World) (cnt j c q : Nat), EdgesAt B w a es → Boxes w b n s t es.length a cap es.length bg bs bt bw bn bf → Memo (led n es s t) es.length w b cnt → sz (left es.length j c) = k → cnt + cost k ≤ 1000000 → j < bit es.length → c < bit es.length → (q = 1 ∨ q = 2) →
    Calls Try.prog 91 (#[.int .i64 j, .int .i64 c, .int .i64 q] ++ #[.pointer (some ⟨bg, 0, none⟩), .pointer (some ⟨bs, 0, none⟩), .pointer (some ⟨bt, 0, none⟩), .pointer (some ⟨bw, 0, none⟩), .pointer (some ⟨bn, 0, none⟩), .pointer (some ⟨bf, 0, none⟩)]) w (WinsPost (led n es s t) es.length w b (cnt + cost k) (.int .i64 (winN (led n es s t) es.length j c (decide (q = 1))))) := by
  have he8 : es.length ≤ 8 := hG.2.2.1
  have hbm := bit_le es.length he8
  have HG := Lib.hid hG; clear hG
  intro k
  induction k using Nat.strongRecOn with
  | ind k ih =>
  intro w cnt j c q hE hBX hM hk hcost hj hc hq
  have IH := Lib.hid ih; clear ih
  have hbw := hM.lt
  have hmB : B ≤ w.heap.size := by omega
  have HKk := Lib.hid hk; clear hk
  have hcp := cost_pos k
  show Calls _ _ #[.int .i64 j, .int .i64 c, .int .i64 q, .pointer (some ⟨bg, 0, none⟩), .pointer (some ⟨bs, 0, none⟩), .pointer (some ⟨bt, 0, none⟩), .pointer (some ⟨bw, 0, none⟩), .pointer (some ⟨bn, 0, none⟩), .pointer (some ⟨bf, 0, none⟩)] w _
  have K1 := Lib.hid (c_over (Later.self w) n s t j c es a cap (hE.mono hmB) HG.out hs ht hj hc)
  have K1' : Hid (Calls Try.prog 20 #[.agg #[.int .i64 n, .slice a es.length cap], .int .i64 s, .int .i64 t, .int .i64 j, .int .i64 c] w (Ret w.heap.size w (.int .i64 (overV (led n es s t) es.length j c)))) := K1
  clear K1
  have f0 := hBX.g0; have f1 := hBX.g1; have f2 := hBX.s0; have f3 := hBX.t0
  have hp1 : ∀ (args : Array Value) (w : World), (callFunc 91 args).run Try.prog w = .ok (.enter 91 args) w := fun _ _ => by kernel_rfl
  have HBX := Lib.hid hBX; have HM := Lib.hid hM; have HE := Lib.hid hE
  clear hBX hM hE
  by_cases ho : overV (led n es s t) es.length j c = 0
  case neg =>
    have HW := Lib.hid (overV_pos he8 ho (decide (q = 1)))
    have h12 := overV_ge (led n es s t) es.length j c
    have ho2 : 0 < overV (led n es s t) es.length j c := by omega
    rw [← HW.out]
    clear ho h12 HW IH hp1
    generalize overV (led n es s t) es.length j c = ov at *
    go_enter Try.func91, Try.ntmps91
    go_wp2_with (first | (go_at_call 20; refine (K1'.out).mono ?_; rintro e _ ⟨rfl, v1, rfl⟩))
    go_ret
    exact ⟨rfl, ((Beside.self w).later v1).grown, (HM.out.keep v1.below).mono (by omega)⟩
  have HMid := Lib.hid (overV_zero ho)
  rw [ho] at K1'
  clear ho
  go_enter Try.func91, Try.ntmps91
  go_upto_region 4 with (first | (go_at_call 20; refine (K1'.out).mono ?_; rintro e _ ⟨rfl, v1, rfl⟩))
  have BX1 := Lib.hid (HBX.out.beside ((Beside.self w).later v1))
  have BX1' : Hid (Boxes v1.val b n s t es.length a cap es.length bg bs bt bw bn bf) := BX1
  have M1 := Lib.hid (HM.out.keep v1.below)
  have E1 : Hid (EdgesAt B v1.val a es) := Lib.hid (HE.out.later (v1.below.mono hmB))
  have HF1 : Hid (∀ w' : World, v1.val.grownBy w' (some b) → w.grownBy w' (some b)) := Lib.hid (fun w' h => World.grownBy.trans ((Beside.self w).later v1).grown h)
  have hbv : b < v1.val.heap.size := M1.out.lt
  clear f0 f1 f2 f3 BX1 HBX HM HE K1' hbw hmB
  go_upto_region 5 with fail
  have R0 : Hid (RowAt (v1.val.alloc (.cells #[.int .i64 j, .int .i64 c, .int .i64 q] 120)) v1.val.heap.size 120 #[.int .i64 j, .int .i64 c, .int .i64 q]) := Lib.hid (RowAt.new _ _ _)
  have BX2 : Hid (Boxes (v1.val.alloc (.cells #[.int .i64 j, .int .i64 c, .int .i64 q] 120)) b n s t es.length a cap es.length bg bs bt bw bn bf) := Lib.hid (BX1'.out.beside ((Beside.self v1.val).al _))
  have M2 : Hid (Memo (led n es s t) es.length (v1.val.alloc (.cells #[.int .i64 j, .int .i64 c, .int .i64 q] 120)) b cnt) := Lib.hid (M1.out.keep ((Below.refl _ _).alloc (Nat.le_refl _) _))
  have E2 : Hid (EdgesAt B (v1.val.alloc (.cells #[.int .i64 j, .int .i64 c, .int .i64 q] 120)) a es) := Lib.hid (E1.out.later ((Below.refl _ _).alloc (by omega) _))
  have HF : Hid (∀ w' : World, (v1.val.alloc (.cells #[.int .i64 j, .int .i64 c, .int .i64 q] 120)).grownBy w' (some b) → w.grownBy w' (some b)) := Lib.hid (fun w' h => HF1.out w' (World.grownBy.trans (World.grownBy_alloc _ _ _) h))
  have hgk : v1.val.heap.size < (v1.val.alloc (.cells #[.int .i64 j, .int .i64 c, .int .i64 q] 120)).heap.size := by simp
  clear BX1' M1 E1 HF1
  generalize hg : v1.val.heap.size = gk at *
  generalize hW1 : v1.val.alloc (.cells #[.int .i64 j, .int .i64 c, .int .i64 q] 120) = w1 at *
  clear hg hW1 v1
  have hgb : gk ≠ b := by omega
  have k0 : ∀ x : Beside b w1, x.val.cell? ⟨gk, 0, none⟩ = some (.int .i64 j) := fun x => (R0.out.beside x hgb).cell 0
  have k1 : ∀ x : Beside b w1, x.val.cell? ⟨gk, 1, none⟩ = some (.int .i64 c) := fun x => (R0.out.beside x hgb).cell 1
  have k2 : ∀ x : Beside b w1, x.val.cell? ⟨gk, 2, none⟩ = some (.int .i64 q) := fun x => (R0.out.beside x hgb).cell 2
  have hB1 : B ≤ w1.heap.size := by omega
  have EX : Hid (∀ x : Beside b w1, EdgesAt B x.val a es) := Lib.hid (fun x => E2.out.later (x.below hBb hB1))
  have BX : Hid (∀ x : Beside b w1, Boxes x.val b n s t es.length a cap es.length bg bs bt bw bn bf) := Lib.hid (fun x => BX2.out.beside x)
  obtain ⟨y0, hy0⟩ : ∃ x : Beside b w1, x.val = w1 := ⟨Beside.self _, rfl⟩
  have M3 : Hid (Memo (led n es s t) es.length y0.val b (cnt + 0)) := Lib.hid (by rw [hy0]; exact M2.out)
  rw [← hy0]
  clear hy0 M2 R0 E2 BX2
  have hll := left_lt he8 j c
  have hj8 : j < 256 := by omega
  have hc8 : c < 256 := by omega
  obtain ⟨z, hlook, hz⟩ := M3.out.look hj8 hc8 (show q < 3 by omega)
  have e6 := (BX.out y0).w0
  have HP0 : Hid (0 + sz (nand (left es.length j c) (bit 0 - 1)) * cost (k - 1) ≤ k * cost (k - 1)) := Lib.hid (by
    have h0 : nand (left es.length j c) (bit 0 - 1) = left es.length j c := by
      apply Nat.eq_of_testBit_eq; intro i; rw [nand_testBit]; simp [bit]
    rw [h0, HKk.out]; omega)
  rcases hz with rfl | hz
  case inr =>
    have HZ := Lib.hid hz
    have hz12 : 0 < z := by rw [hz]; unfold winN; split <;> omega
    rw [← HZ.out]
    have HMe : Hid (Memo (led n es s t) es.length y0.val b (cnt + cost k)) := Lib.hid (M3.out.mono (by omega))
    have HGe := Lib.hid (HF.out _ y0.grown)
    clear hz IH
    go_wp2
    go_ret
    exact ⟨congrArg Ending.returned (show Value.int .i64 z = _ by first | rfl | rw [HZ.out]), HGe.out, HMe.out⟩
  go_upto_region 7 with fail
  clear hlook e6
  rcases hq with rfl | rfl
  · as_aux_lemma =>
    have e22 : ((1 : Nat) : Int) = 1 := rfl
    simp only [e22] at k2 ⊢
    clear e22

    go_wp2
    go_loopw [15, 16] (fun o i wr => ∃ (z : Int) (d p : Nat) (y : Beside b w1), d ≤ es.length ∧ i = .int .i64 d ∧ o = .int .i64 z ∧ wr = y.val ∧ Hid (Memo (led n es s t) es.length y.val b (cnt + p)) ∧ Hid (p + sz (nand (left es.length j c) (bit d - 1)) * cost (k - 1) ≤ k * cost (k - 1)) ∧ Hid (FIs (FndA (led n es s t) es.length j c d) 1 z 2)) (fun _ i _ => es.length - (intOf i).toNat)
    case atStart => exact ⟨2, 0, 0, y0, by omega, rfl, rfl, rfl, M3, HP0, Lib.hid (.inr ⟨rfl, FndA.zero _ _ _ _⟩)⟩
    case round =>
      clear M3 HP0
      clear y0
      obtain ⟨z, d, p, y, hd, rfl, rfl, rfl, HMy, HPy, HFy⟩ := hrel
      have BXy := Lib.hid (BX.out y)
      have e0 := BXy.out.n0
      by_cases hlt : d < es.length
      · have e1 : ∀ v : Later y.val.heap.size y.val, v.val.cell? ⟨bf, 0, none⟩ = some (.func (.func 91) #[] #[.pointer (some ⟨bg, 0, none⟩), .pointer (some ⟨bs, 0, none⟩), .pointer (some ⟨bt, 0, none⟩), .pointer (some ⟨bw, 0, none⟩), .pointer (some ⟨bn, 0, none⟩), .pointer (some ⟨bf, 0, none⟩)]) := fun v => (BX.out (y.later v)).f0
        have o3 := i64_or j c (by omega) (by omega)
        have hjc : j ||| c < 256 := or_lt j c (by omega) (by omega)
        have KI := Lib.hid (c_in (Later.self y.val) (j ||| c) d (by omega) (by omega))
        have hbd := bit_lt d (by omega)
        have hbdc := bit_cast d
        have hrf := rest_free (left es.length j c) d hll (by omega)
        have hlb : (left es.length j c).testBit d = !(j ||| c).testBit d := by rw [left_testBit]; simp [hlt]
        rcases btf ((j ||| c).testBit d) with g1 | g1
        · have HFn : Hid (FIs (FndA (led n es s t) es.length j c (d+1)) 1 z 2) := Lib.hid (HFy.out.iff (FndA.skip (.inl g1)))
          have HPn : Hid (p + sz (nand (left es.length j c) (bit (d+1) - 1)) * cost (k - 1) ≤ k * cost (k - 1)) := Lib.hid (by
            rw [hlb, g1] at hrf
            have h1 := HPy.out
            rw [← hrf] at h1
            exact h1)
          rw [g1] at KI
          clear g1 hrf hlb e1 HFy HPy
          go_wp2_with (first | (go_at_call 21; refine (KI.out).mono ?_; rintro e _ ⟨rfl, v2, rfl⟩))
          go_roundw
          case rel => exact ⟨z, d+1, p, y.later v2, by omega, by go_num, rfl, rfl, Lib.hid (HMy.out.keep v2.below), HPn, HFn⟩
          case measure => simp [intOf]; omega
        · have hfree : j.testBit d = false := by
            have := g1
            rw [Nat.testBit_or] at this
            cases h : j.testBit d
            · rfl
            · simp [h] at this
          have hC := cost_pos (k - 1)
          rw [hlb, g1] at hrf
          have hrf2 : sz (nand (left es.length j c) (bit (d+1) - 1)) + 1 = sz (nand (left es.length j c) (bit d - 1)) := by simpa using hrf
          have hk1 : 1 ≤ k := by
            rcases Nat.eq_zero_or_pos k with hz | hz
            · have h1 := HPy.out
              rw [hz, Nat.zero_mul] at h1
              rw [hz] at hC
              have h2 : 1 * cost (0 - 1) ≤ sz (nand (left es.length j c) (bit d - 1)) * cost (0 - 1) := Nat.mul_le_mul_right _ (by omega)
              omega
            · exact hz
          have HPn : Hid (p + cost (k - 1) + sz (nand (left es.length j c) (bit (d+1) - 1)) * cost (k - 1) ≤ k * cost (k - 1)) := Lib.hid (by
            have h1 := HPy.out
            rw [← hrf2, Nat.succ_mul] at h1
            omega)
          have hle : cnt + p + cost (k - 1) ≤ 1000000 := by
            have h1 := HPn.out
            have h2 := cost_step k hk1
            omega
          have hnew : j ||| bit d < bit es.length := or_lt_bit hj (bit_lt_bit hlt)
          have hsum : j ||| bit d = j + bit d := or_bit j d (by omega) (by omega) hfree
          have hln : sz (left es.length (j ||| bit d) c) = k - 1 := by
            rw [left_join]
            have h1 := sz_without (left es.length j c) d hll (by omega) (by rw [hlb, g1]; rfl)
            have h2 := HKk.out
            omega
          have K3 : Hid (∀ v : Later y.val.heap.size y.val, Calls Try.prog 91 (#[.int .i64 ((j : Int) + (bit d : Int)), .int .i64 (c : Int), .int .i64 2] ++ #[.pointer (some ⟨bg, 0, none⟩), .pointer (some ⟨bs, 0, none⟩), .pointer (some ⟨bt, 0, none⟩), .pointer (some ⟨bw, 0, none⟩), .pointer (some ⟨bn, 0, none⟩), .pointer (some ⟨bf, 0, none⟩)]) v.val (WinsPost (led n es s t) es.length v.val b (cnt + p + cost (k - 1)) (.int .i64 (winN (led n es s t) es.length (j ||| bit d) c false)))) := Lib.hid (fun v => by
            have := IH.out (k - 1) (by omega) v.val (cnt + p) (j ||| bit d) c 2 (EX.out (y.later v)) (BX.out (y.later v)) (HMy.out.keep v.below) hln hle hnew hc (.inr rfl)
            rw [show (((j ||| bit d) : Nat) : Int) = ((j : Int) + (bit d : Int)) by rw [hsum]; omega] at this
            exact this)
          have HIf : Hid (win (led n es s t) es.length (j ||| bit d) c false = true → FndA (led n es s t) es.length j c (d+1)) := Lib.hid (fun h => ⟨d, by omega, g1, h⟩)
          have HIn : Hid (win (led n es s t) es.length (j ||| bit d) c false = false → FIs (FndA (led n es s t) es.length j c (d+1)) 1 z 2) := Lib.hid (fun h => HFy.out.iff (FndA.skip (.inr h)))
          have hW : Hid (winN (led n es s t) es.length (j ||| bit d) c false = if win (led n es s t) es.length (j ||| bit d) c false = true then 1 else 2) := Lib.hid rfl
          rw [hW.out] at K3
          clear hW
          have w9 := IntWalk.i64_in ((j : Int) + (bit d : Int)) (by omega)
          have w8 := IntWalk.i64_in ((bit d : Int)) (by omega)
          rw [g1] at KI
          clear g1 hrf hrf2 hlb HFy HPy hC hle hnew hsum hln hfree
          generalize win (led n es s t) es.length (j ||| bit d) c false = wn at *
          cases wn
          · have HR : Hid (FIs (FndA (led n es s t) es.length j c (d+1)) 1 z 2) := Lib.hid (HIn.out rfl)
            rw [if_neg (by decide)] at K3
            clear HIf HIn
            go_wp2_with (first | (go_at_call 21; refine (KI.out).mono ?_; rintro e _ ⟨rfl, v2, rfl⟩))
            refine wp_region_later_tail v2 6 (by kernel_rfl) (by kernel_rfl) (fun v3 => ?_)
            simp only [List.take_succ_cons, List.take_zero, List.drop_succ_cons, List.drop_zero]
            repeat still_step
            refine wpStill_nil ?_
            go_wp2_with ((refine (K3.out v3).mono ?_; rintro e w2 ⟨rfl, hgr, hme⟩; obtain ⟨y2, rfl⟩ : ∃ y2 : Beside b w1, y2.val = w2 := ⟨(y.later v3).of w2 hgr, rfl⟩; have HME := Lib.hid hme; clear hme hgr))
            go_roundw
            case rel => exact ⟨z, d+1, p + cost (k - 1), y2, by omega, by go_num, rfl, rfl, Lib.hid (by rw [← Nat.add_assoc]; exact HME.out), HPn, HR⟩
            case measure => simp [intOf]; omega
          · have HR : Hid (FIs (FndA (led n es s t) es.length j c (d+1)) 1 1 2) := Lib.hid (.inl ⟨rfl, HIf.out rfl⟩)
            rw [if_pos rfl] at K3
            clear HIf HIn
            go_wp2_with (first | (go_at_call 21; refine (KI.out).mono ?_; rintro e _ ⟨rfl, v2, rfl⟩))
            refine wp_region_later_tail v2 6 (by kernel_rfl) (by kernel_rfl) (fun v3 => ?_)
            simp only [List.take_succ_cons, List.take_zero, List.drop_succ_cons, List.drop_zero]
            repeat still_step
            refine wpStill_nil ?_
            go_wp2_with ((refine (K3.out v3).mono ?_; rintro e w2 ⟨rfl, hgr, hme⟩; obtain ⟨y2, rfl⟩ : ∃ y2 : Beside b w1, y2.val = w2 := ⟨(y.later v3).of w2 hgr, rfl⟩; have HME := Lib.hid hme; clear hme hgr))
            go_roundw
            case rel => exact ⟨1, d+1, p + cost (k - 1), y2, by omega, by go_num, rfl, rfl, Lib.hid (by rw [← Nat.add_assoc]; exact HME.out), HPn, HR⟩
            case measure => simp [intOf]; omega
      · have hde : Hid (d = es.length) := Lib.hid (by omega)
        have HZ : Hid (z = winN (led n es s t) es.length j c (decide (1 = 1))) := Lib.hid (FndA.end he8 HMid.out (by have := HFy.out; rwa [hde.out] at this))
        have HM4 : Hid (Memo (led n es s t) es.length y.val b (cnt + (cost k - 1))) := Lib.hid (by
          refine HMy.out.mono ?_
          have h1 := HPy.out
          rcases Nat.eq_zero_or_pos k with hz | hz
          · rw [hz, Nat.zero_mul] at h1; omega
          · have h2 := cost_step k hz; omega)
        have e2 := BXy.out.w0
        have kk0 := k0 y
        have kk1 := k1 y
        have kk2 := k2 y
        clear HFy HPy HMy IH
        go_wp2_with (first | (at_mapUpdate; refine wpList_memo_put _ rfl _ _ _ rfl b (cnt + (cost k - 1)) rfl HM4.out (by omega) j c 1 (by omega) (by omega) (by omega) rfl z rfl HZ.out ?_; intro w3 hm3 hg3; have HM3 := Lib.hid hm3; have HG3 := Lib.hid hg3; clear hm3 hg3))
        go_ret
        exact ⟨congrArg Ending.returned (show Value.int .i64 z = _ by first | (rw [HZ.out]; done) | (rw [HZ.out]; rfl)), HF.out _ (World.grownBy.trans y.grown HG3.out), HM3.out.mono (by omega)⟩
  · as_aux_lemma =>
    have e22 : ((2 : Nat) : Int) = 2 := rfl
    simp only [e22] at k2 ⊢
    clear e22

    go_wp2
    go_loopw [15, 16] (fun o i wr => ∃ (z : Int) (d p : Nat) (y : Beside b w1), d ≤ es.length ∧ i = .int .i64 d ∧ o = .int .i64 z ∧ wr = y.val ∧ Hid (Memo (led n es s t) es.length y.val b (cnt + p)) ∧ Hid (p + sz (nand (left es.length j c) (bit d - 1)) * cost (k - 1) ≤ k * cost (k - 1)) ∧ Hid (FIs (FndB (led n es s t) es.length j c d) 2 z 1)) (fun _ i _ => es.length - (intOf i).toNat)
    case atStart => exact ⟨1, 0, 0, y0, by omega, rfl, rfl, rfl, M3, HP0, Lib.hid (.inr ⟨rfl, FndB.zero _ _ _ _⟩)⟩
    case round =>
      clear M3 HP0
      clear y0
      obtain ⟨z, d, p, y, hd, rfl, rfl, rfl, HMy, HPy, HFy⟩ := hrel
      have BXy := Lib.hid (BX.out y)
      have e0 := BXy.out.n0
      by_cases hlt : d < es.length
      · have e1 : ∀ v : Later y.val.heap.size y.val, v.val.cell? ⟨bf, 0, none⟩ = some (.func (.func 91) #[] #[.pointer (some ⟨bg, 0, none⟩), .pointer (some ⟨bs, 0, none⟩), .pointer (some ⟨bt, 0, none⟩), .pointer (some ⟨bw, 0, none⟩), .pointer (some ⟨bn, 0, none⟩), .pointer (some ⟨bf, 0, none⟩)]) := fun v => (BX.out (y.later v)).f0
        have o3 := i64_or j c (by omega) (by omega)
        have hjc : j ||| c < 256 := or_lt j c (by omega) (by omega)
        have KI := Lib.hid (c_in (Later.self y.val) (j ||| c) d (by omega) (by omega))
        have hbd := bit_lt d (by omega)
        have hbdc := bit_cast d
        have hrf := rest_free (left es.length j c) d hll (by omega)
        have hlb : (left es.length j c).testBit d = !(j ||| c).testBit d := by rw [left_testBit]; simp [hlt]
        rcases btf ((j ||| c).testBit d) with g1 | g1
        · have HFn : Hid (FIs (FndB (led n es s t) es.length j c (d+1)) 2 z 1) := Lib.hid (HFy.out.iff (FndB.skip (.inl g1)))
          have HPn : Hid (p + sz (nand (left es.length j c) (bit (d+1) - 1)) * cost (k - 1) ≤ k * cost (k - 1)) := Lib.hid (by
            rw [hlb, g1] at hrf
            have h1 := HPy.out
            rw [← hrf] at h1
            exact h1)
          rw [g1] at KI
          clear g1 hrf hlb e1 HFy HPy
          go_wp2_with (first | (go_at_call 21; refine (KI.out).mono ?_; rintro e _ ⟨rfl, v2, rfl⟩))
          go_roundw
          case rel => exact ⟨z, d+1, p, y.later v2, by omega, by go_num, rfl, rfl, Lib.hid (HMy.out.keep v2.below), HPn, HFn⟩
          case measure => simp [intOf]; omega
        · have hfree : c.testBit d = false := by
            have := g1
            rw [Nat.testBit_or] at this
            cases h : c.testBit d
            · rfl
            · simp [h] at this
          have hC := cost_pos (k - 1)
          rw [hlb, g1] at hrf
          have hrf2 : sz (nand (left es.length j c) (bit (d+1) - 1)) + 1 = sz (nand (left es.length j c) (bit d - 1)) := by simpa using hrf
          have hk1 : 1 ≤ k := by
            rcases Nat.eq_zero_or_pos k with hz | hz
            · have h1 := HPy.out
              rw [hz, Nat.zero_mul] at h1
              rw [hz] at hC
              have h2 : 1 * cost (0 - 1) ≤ sz (nand (left es.length j c) (bit d - 1)) * cost (0 - 1) := Nat.mul_le_mul_right _ (by omega)
              omega
            · exact hz
          have HPn : Hid (p + cost (k - 1) + sz (nand (left es.length j c) (bit (d+1) - 1)) * cost (k - 1) ≤ k * cost (k - 1)) := Lib.hid (by
            have h1 := HPy.out
            rw [← hrf2, Nat.succ_mul] at h1
            omega)
          have hle : cnt + p + cost (k - 1) ≤ 1000000 := by
            have h1 := HPn.out
            have h2 := cost_step k hk1
            omega
          have hnew : c ||| bit d < bit es.length := or_lt_bit hc (bit_lt_bit hlt)
          have hsum : c ||| bit d = c + bit d := or_bit c d (by omega) (by omega) hfree
          have hln : sz (left es.length j (c ||| bit d)) = k - 1 := by
            rw [left_cut]
            have h1 := sz_without (left es.length j c) d hll (by omega) (by rw [hlb, g1]; rfl)
            have h2 := HKk.out
            omega
          have K3 : Hid (∀ v : Later y.val.heap.size y.val, Calls Try.prog 91 (#[.int .i64 (j : Int), .int .i64 ((c : Int) + (bit d : Int)), .int .i64 1] ++ #[.pointer (some ⟨bg, 0, none⟩), .pointer (some ⟨bs, 0, none⟩), .pointer (some ⟨bt, 0, none⟩), .pointer (some ⟨bw, 0, none⟩), .pointer (some ⟨bn, 0, none⟩), .pointer (some ⟨bf, 0, none⟩)]) v.val (WinsPost (led n es s t) es.length v.val b (cnt + p + cost (k - 1)) (.int .i64 (winN (led n es s t) es.length j (c ||| bit d) true)))) := Lib.hid (fun v => by
            have := IH.out (k - 1) (by omega) v.val (cnt + p) j (c ||| bit d) 1 (EX.out (y.later v)) (BX.out (y.later v)) (HMy.out.keep v.below) hln hle hj hnew (.inl rfl)
            rw [show (((c ||| bit d) : Nat) : Int) = ((c : Int) + (bit d : Int)) by rw [hsum]; omega] at this
            exact this)
          have HIf : Hid (win (led n es s t) es.length j (c ||| bit d) true = false → FndB (led n es s t) es.length j c (d+1)) := Lib.hid (fun h => ⟨d, by omega, g1, h⟩)
          have HIn : Hid (win (led n es s t) es.length j (c ||| bit d) true = true → FIs (FndB (led n es s t) es.length j c (d+1)) 2 z 1) := Lib.hid (fun h => HFy.out.iff (FndB.skip (.inr h)))
          have hW : Hid (winN (led n es s t) es.length j (c ||| bit d) true = if win (led n es s t) es.length j (c ||| bit d) true = true then 1 else 2) := Lib.hid rfl
          rw [hW.out] at K3
          clear hW
          have w9 := IntWalk.i64_in ((c : Int) + (bit d : Int)) (by omega)
          have w8 := IntWalk.i64_in ((bit d : Int)) (by omega)
          rw [g1] at KI
          clear g1 hrf hrf2 hlb HFy HPy hC hle hnew hsum hln hfree
          generalize win (led n es s t) es.length j (c ||| bit d) true = wn at *
          cases wn
          · have HR : Hid (FIs (FndB (led n es s t) es.length j c (d+1)) 2 2 1) := Lib.hid (.inl ⟨rfl, HIf.out rfl⟩)
            rw [if_neg (by decide)] at K3
            clear HIf HIn
            go_wp2_with (first | (go_at_call 21; refine (KI.out).mono ?_; rintro e _ ⟨rfl, v2, rfl⟩))
            refine wp_region_later_tail v2 6 (by kernel_rfl) (by kernel_rfl) (fun v3 => ?_)
            simp only [List.take_succ_cons, List.take_zero, List.drop_succ_cons, List.drop_zero]
            repeat still_step
            refine wpStill_nil ?_
            go_wp2_with ((refine (K3.out v3).mono ?_; rintro e w2 ⟨rfl, hgr, hme⟩; obtain ⟨y2, rfl⟩ : ∃ y2 : Beside b w1, y2.val = w2 := ⟨(y.later v3).of w2 hgr, rfl⟩; have HME := Lib.hid hme; clear hme hgr))
            go_roundw
            case rel => exact ⟨2, d+1, p + cost (k - 1), y2, by omega, by go_num, rfl, rfl, Lib.hid (by rw [← Nat.add_assoc]; exact HME.out), HPn, HR⟩
            case measure => simp [intOf]; omega
          · have HR : Hid (FIs (FndB (led n es s t) es.length j c (d+1)) 2 z 1) := Lib.hid (HIn.out rfl)
            rw [if_pos rfl] at K3
            clear HIf HIn
            go_wp2_with (first | (go_at_call 21; refine (KI.out).mono ?_; rintro e _ ⟨rfl, v2, rfl⟩))
            refine wp_region_later_tail v2 6 (by kernel_rfl) (by kernel_rfl) (fun v3 => ?_)
            simp only [List.take_succ_cons, List.take_zero, List.drop_succ_cons, List.drop_zero]
            repeat still_step
            refine wpStill_nil ?_
            go_wp2_with ((refine (K3.out v3).mono ?_; rintro e w2 ⟨rfl, hgr, hme⟩; obtain ⟨y2, rfl⟩ : ∃ y2 : Beside b w1, y2.val = w2 := ⟨(y.later v3).of w2 hgr, rfl⟩; have HME := Lib.hid hme; clear hme hgr))
            go_roundw
            case rel => exact ⟨z, d+1, p + cost (k - 1), y2, by omega, by go_num, rfl, rfl, Lib.hid (by rw [← Nat.add_assoc]; exact HME.out), HPn, HR⟩
            case measure => simp [intOf]; omega
      · have hde : Hid (d = es.length) := Lib.hid (by omega)
        have HZ : Hid (z = winN (led n es s t) es.length j c (decide (2 = 1))) := Lib.hid (FndB.end he8 HMid.out (by have := HFy.out; rwa [hde.out] at this))
        have HM4 : Hid (Memo (led n es s t) es.length y.val b (cnt + (cost k - 1))) := Lib.hid (by
          refine HMy.out.mono ?_
          have h1 := HPy.out
          rcases Nat.eq_zero_or_pos k with hz | hz
          · rw [hz, Nat.zero_mul] at h1; omega
          · have h2 := cost_step k hz; omega)
        have e2 := BXy.out.w0
        have kk0 := k0 y
        have kk1 := k1 y
        have kk2 := k2 y
        clear HFy HPy HMy IH
        go_wp2_with (first | (at_mapUpdate; refine wpList_memo_put _ rfl _ _ _ rfl b (cnt + (cost k - 1)) rfl HM4.out (by omega) j c 2 (by omega) (by omega) (by omega) rfl z rfl HZ.out ?_; intro w3 hm3 hg3; have HM3 := Lib.hid hm3; have HG3 := Lib.hid hg3; clear hm3 hg3))
        go_ret
        exact ⟨congrArg Ending.returned (show Value.int .i64 z = _ by first | (rw [HZ.out]; done) | (rw [HZ.out]; rfl)), HF.out _ (World.grownBy.trans y.grown HG3.out), HM3.out.mono (by omega)⟩

end Go.Proofs.Ytcljgnmlpfddiaa
