/-
  game.table.wins: the walk.
-/
import Derived.Test.YtcljgnmlpfddiaaGameWins
namespace Go.Proofs.Ytcljgnmlpfddiaa
open Go.RowKit Go.Maps
set_option linter.unusedVariables false

set_option maxRecDepth 100000 in
set_option maxHeartbeats 20000000 in
theorem c_wins (n s t : Nat) (es : List (Int × Int)) (a : Option Addr) (cap : Nat) (hG : isGraph (n : Int) es) (hs : s < 8) (ht : t < 8) (b B : Nat) (hBb : B ≤ b) : ∀ k, ∀ (w : World) (cnt j c q : Nat), EdgesAt B w a es → Memo (led n es s t) es.length w b cnt → sz (left es.length j c) = k → cnt + cost k ≤ 1000000 → j < bit es.length → c < bit es.length → (q = 0 ∨ q = 1) →
    Calls Try.prog 89 #[.agg #[.int .i64 n, .slice a es.length cap, .int .i64 s, .int .i64 t, .map (some b)], .int .i64 j, .int .i64 c, .int .i64 q] w (WinsPost (led n es s t) es.length w b (cnt + cost k) (.bool (win (led n es s t) es.length j c (decide (q = 1))))) := by
  have he8 : es.length ≤ 8 := hG.2.2.1
  have hbm := bit_le es.length he8
  have hbmc := bit_cast es.length
  have HG := Lib.hid hG; clear hG
  intro k
  induction k using Nat.strongRecOn with
  | ind k ih =>
  intro w cnt j c q hE hM hk hcost hj hc hq
  have IH := Lib.hid ih; clear ih
  have hbw := hM.lt
  have hmB : B ≤ w.heap.size := by omega
  -- the world with the table
  have R0 : Hid (RowAt (w.alloc (.cells #[.int .i64 n, .slice a es.length cap, .int .i64 s, .int .i64 t, .map (some b)] 116)) w.heap.size 116 #[.int .i64 n, .slice a es.length cap, .int .i64 s, .int .i64 t, .map (some b)]) := Lib.hid (RowAt.new _ _ _)
  have hg0 : w.heap.size < (w.alloc (.cells #[.int .i64 n, .slice a es.length cap, .int .i64 s, .int .i64 t, .map (some b)] 116)).heap.size := by simp
  have M0 : Hid (Memo (led n es s t) es.length (w.alloc (.cells #[.int .i64 n, .slice a es.length cap, .int .i64 s, .int .i64 t, .map (some b)] 116)) b cnt) := Lib.hid (hM.keep ((Below.refl _ _).alloc (Nat.le_refl _) _))
  have E0 : Hid (EdgesAt B (w.alloc (.cells #[.int .i64 n, .slice a es.length cap, .int .i64 s, .int .i64 t, .map (some b)] 116)) a es) := Lib.hid (hE.later ((Below.refl _ _).alloc hmB _))
  have HF : Hid (∀ w' : World, (w.alloc (.cells #[.int .i64 n, .slice a es.length cap, .int .i64 s, .int .i64 t, .map (some b)] 116)).grownBy w' (some b) → w.grownBy w' (some b)) := Lib.hid (fun w' h => World.grownBy.trans (World.grownBy_alloc w _ _) h)
  clear hE hM
  go_enter Try.func89, Try.ntmps89
  go_upto_region 1 with fail
  generalize hg : w.heap.size = g at *
  generalize hW0 : w.alloc (.cells #[.int .i64 n, .slice a es.length cap, .int .i64 s, .int .i64 t, .map (some b)] 116) = w0 at *
  clear hg hW0
  have hgb : g ≠ b := by omega
  have c0 : ∀ x : Beside b w0, x.val.cell? ⟨g, 0, none⟩ = some (.int .i64 n) := fun x => (R0.out.beside x hgb).cell 0
  have c1 : ∀ x : Beside b w0, x.val.cell? ⟨g, 1, none⟩ = some (.slice a es.length cap) := fun x => (R0.out.beside x hgb).cell 1
  have c2 : ∀ x : Beside b w0, x.val.cell? ⟨g, 2, none⟩ = some (.int .i64 s) := fun x => (R0.out.beside x hgb).cell 2
  have c3 : ∀ x : Beside b w0, x.val.cell? ⟨g, 3, none⟩ = some (.int .i64 t) := fun x => (R0.out.beside x hgb).cell 3
  have c4 : ∀ x : Beside b w0, x.val.cell? ⟨g, 4, none⟩ = some (.map (some b)) := fun x => (R0.out.beside x hgb).cell 4
  have hB0 : B ≤ w0.heap.size := by omega
  have EX : Hid (∀ x : Beside b w0, EdgesAt B x.val a es) := Lib.hid (fun x => E0.out.later (x.below hBb hB0))
  have KH : Hid (∀ (x : Beside b w0) (y : Nat), y < 256 → Calls Try.prog 90 #[.agg #[.int .i64 n, .slice a es.length cap], .int .i64 s, .int .i64 t, .int .i64 y] x.val (Ret x.val.heap.size x.val (.bool (led n es s t y)))) := Lib.hid (fun x y hy => c_hangs (Later.self x.val) n s t y es a cap ((EX.out x).mono (by have := x.size; omega)) HG.out hs ht hy)
  clear R0 E0
  obtain ⟨x0, hx0⟩ : ∃ x : Beside b w0, x.val = w0 := ⟨Beside.self _, rfl⟩
  have M1 : Hid (Memo (led n es s t) es.length x0.val b cnt) := Lib.hid (by rw [hx0]; exact M0.out)
  rw [← hx0]
  clear hx0 M0
  have hq2 : q < 3 := by omega
  go_upto_region 2 with (first | (at_lookup; refine wpList_memo _ rfl _ _ rfl b cnt rfl M1.out j c q (by omega) (by omega) hq2 rfl ?_; intro z hz))
  have hwn : Hid (∀ wh, winN (led n es s t) es.length j c wh = if win (led n es s t) es.length j c wh = true then 1 else 2) := Lib.hid (fun _ => rfl)
  have hcp := cost_pos k
  rcases hz with rfl | hz
  case inr =>
    have HZ := Lib.hid hz; clear hz
    have HZ2 : Hid (z = if win (led n es s t) es.length j c (decide (q = 1)) = true then 1 else 2) := Lib.hid (by rw [HZ.out]; rfl)
    have M2 : Hid (Memo (led n es s t) es.length x0.val b (cnt + cost k)) := Lib.hid (M1.out.mono (by omega))
    have HG2 : Hid (w.grownBy x0.val (some b)) := Lib.hid (HF.out _ x0.grown)
    generalize win (led n es s t) es.length j c (decide (q = 1)) = wv at *
    cases wv
    · have hz2 : z = 2 := by rw [HZ2.out]; rfl
      subst hz2
      clear HZ HZ2
      go_wp2
      go_ret
      exact ⟨rfl, HG2.out, M2.out⟩
    · have hz2 : z = 1 := by rw [HZ2.out]; rfl
      subst hz2
      clear HZ HZ2
      go_wp2
      go_ret
      exact ⟨rfl, HG2.out, M2.out⟩
  have d0 : decide (0 < (0 : Int)) = false := by decide
  go_upto_block 0 with fail
  clear d0
  have HKk := Lib.hid hk; clear hk
  go_cut [11] from 32 to 102 (fun ok w => WinMid (led n es s t) es.length w0 b (cnt + (cost k - 1)) (win (led n es s t) es.length j c (decide (q = 1))) ok w)
  case first =>
    have K1 := Lib.hid (KH.out x0 j (by omega))
    go_upto_if 55 with (first | (go_at_call 90; refine (K1.out).mono ?_; rintro e _ ⟨rfl, v1, rfl⟩))
    have M2 : Hid (Memo (led n es s t) es.length v1.val b cnt) := Lib.hid (M1.out.keep v1.below)
    obtain ⟨x1, hx1⟩ : ∃ x : Beside b w0, x.val = v1.val := ⟨x0.later v1, rfl⟩
    rw [← hx1] at M2 ⊢
    clear hx1 v1 M1 K1
    have M9 : Hid (Memo (led n es s t) es.length x1.val b (cnt + (cost k - 1))) := Lib.hid (M2.out.mono (by omega))
    rcases btf (led n es s t j) with g1 | g1
    · have HW : Hid (win (led n es s t) es.length j c (decide (q = 1)) = true) := Lib.hid (win_joined he8 g1)
      rw [g1]
      clear g1 IH
      go_wp2
      go_meet
      case rel => exact ⟨by rw [HW.out], x1, rfl, M9.out⟩
    have hy := nand_lt (bit es.length - 1) c 8 (by show bit es.length - 1 < 256; omega)
    have hy' : nand (bit es.length - 1) c < 256 := hy
    clear hy
    have o2 := i64_andNot (bit es.length - 1) c (by omega) (by omega)
    rw [show ((bit es.length - 1 : Nat) : Int) = (bit es.length : Int) - 1 by omega] at o2
    have K2 := Lib.hid (KH.out x1 (nand (bit es.length - 1) c) hy')
    rcases btf (led n es s t (nand (bit es.length - 1) c)) with g2 | g2
    case inr =>
      have HW : Hid (win (led n es s t) es.length j c (decide (q = 1)) = false) := Lib.hid (win_cut he8 g1 g2)
      rw [g1]
      rw [g2] at K2
      clear g1 g2 IH
      go_wp2_with (first | (go_at_call 90; refine (K2.out).mono ?_; rintro e _ ⟨rfl, v2, rfl⟩))
      go_meet
      case rel => exact ⟨by rw [HW.out], x1.later v2, rfl, M9.out.keep v2.below⟩
    have HMid : Hid (Mid (led n es s t) es.length j c) := Lib.hid ⟨g1, g2⟩
    rw [g1]
    rw [g2] at K2
    clear g1 g2 hy' M9
    rcases hq with rfl | rfl
    · as_aux_lemma =>
        have o3 := i64_or j c (by omega) (by omega)
        have hjc : j ||| c < 256 := or_lt j c (by omega) (by omega)
        have o4 := i64_andNot (bit es.length - 1) (j ||| c) (by omega) (by omega)
        rw [show ((bit es.length - 1 : Nat) : Int) = (bit es.length : Int) - 1 by omega] at o4
        have HLF : Hid (nand (bit es.length - 1) (j ||| c) = left es.length j c) := Lib.hid rfl
        rw [HLF.out] at o4
        go_wp2_with (first | (go_at_call 90; refine (K2.out).mono ?_; rintro e _ ⟨rfl, v2, rfl⟩))
        clear o2 o3 o4 HLF hjc
        have M3 := Lib.hid (M2.out.keep v2.below)
        obtain ⟨x2, hx2⟩ : ∃ x : Beside b w0, x.val = v2.val := ⟨x1.later v2, rfl⟩
        rw [← hx2] at M3 ⊢
        clear hx2 v2 M2 K2 x1
        have hll := left_lt he8 j c
        have AI := Lib.hid (AllInv.start (led n es s t) es.length j c)
        have AE : Hid (∀ x ok, AllInv (led n es s t) es.length j c x ok → (x = 0 ∨ ok = false) → ok = win (led n es s t) es.length j c false) := Lib.hid (fun x ok h hx => AllInv.end he8 HMid.out h hx)
        have AS : Hid (∀ x d, d < es.length → (j ||| c).testBit d = false → (∀ i, i ≠ d → (drop1 x).testBit i = x.testBit i) → AllInv (led n es s t) es.length j c x true → AllInv (led n es s t) es.length j c (drop1 x) (win (led n es s t) es.length j (c ||| bit d) true)) := Lib.hid (fun x d h1 h2 h3 h => AllInv.step he8 HMid.out h1 h2 h3 h)
        have SL : Hid (Sub (left es.length j c) (left es.length j c)) := Lib.hid (fun _ h => h)
        have HP0 : Hid (0 + sz (left es.length j c) * cost (k - 1) ≤ k * cost (k - 1)) := Lib.hid (by rw [HKk.out]; omega)
        clear HMid
        go_loopw [11, 13] (fun o xr wr => ∃ (ok : Bool) (x p : Nat) (y : Beside b w0), x < 256 ∧ xr = .int .i64 x ∧ o = .bool ok ∧ wr = y.val ∧ Hid (Memo (led n es s t) es.length y.val b (cnt + p)) ∧ Hid (p + sz x * cost (k - 1) ≤ k * cost (k - 1)) ∧ Hid (Sub x (left es.length j c)) ∧ Hid (AllInv (led n es s t) es.length j c x ok)) (fun _ x _ => (intOf x).toNat)
        case atStart => exact ⟨true, left es.length j c, 0, x2, hll, rfl, rfl, rfl, M3, HP0, SL, AI⟩
        case round =>
          clear x2 M3 AI HP0 SL
          obtain ⟨ok, x, p, y, hx, rfl, rfl, rfl, HMy, HPy, HSy, HAy⟩ := hrel
          by_cases hgo : x ≠ 0 ∧ ok = true
          · obtain ⟨h0, rfl⟩ := hgo
            obtain ⟨d, hd, hlow, hfree, hsub, hsz, hdrop, hbits⟩ := move_facts he8 hx h0 HSy.out
            have d0 : ((x : Int) != 0) = true := by rw [bne_iff_ne]; omega
            have l1 := i64_low x hx
            rw [hlow] at l1
            have l2 := i64_drop1 x hx (by omega)
            have hbd := bit_lt d (by omega)
            have HDl := drop1_lt x hx
            have HNI := Lib.hid (AS.out x d hd hfree hbits HAy.out)
            have hC := cost_pos (k - 1)
            have hk1 : 1 ≤ k := by
              rcases Nat.eq_zero_or_pos k with hz | hz
              · have h1 := HPy.out
                rw [hz, Nat.zero_mul] at h1
                have h2 : 1 * cost (0 - 1) ≤ sz x * cost (0 - 1) := Nat.mul_le_mul_right _ (by omega)
                rw [hz] at hC
                omega
              · exact hz
            have HPn : Hid (p + cost (k - 1) + sz (drop1 x) * cost (k - 1) ≤ k * cost (k - 1)) := Lib.hid (by
              have h1 := HPy.out
              rw [← hsz, Nat.succ_mul] at h1
              omega)
            have hle : cnt + p + cost (k - 1) ≤ 1000000 := by
              have h1 := HPn.out
              have h2 := cost_step k hk1
              omega
            have hnew : c ||| bit d < bit es.length := or_lt_bit hc (bit_lt_bit hd)
            have hln : sz (left es.length j (c ||| bit d)) = k - 1 := by
              rw [left_cut]
              have h1 := sz_without (left es.length j c) d hll (by omega) (by rw [left_testBit, hfree]; simp [hd])
              have h2 := HKk.out
              omega
            have K3 : Hid (Calls Try.prog 89 #[.agg #[.int .i64 n, .slice a es.length cap, .int .i64 s, .int .i64 t, .map (some b)], .int .i64 ((j : Nat) : Int), .int .i64 (((c ||| bit d) : Nat) : Int), .int .i64 1] y.val (WinsPost (led n es s t) es.length y.val b (cnt + p + cost (k - 1)) (.bool (win (led n es s t) es.length j (c ||| bit d) true)))) := Lib.hid (IH.out (k - 1) (by omega) y.val (cnt + p) j (c ||| bit d) 1 (EX.out y) HMy.out hln hle hj hnew (.inr rfl))
            have o5 := i64_or c (bit d) (by omega) (by omega)
            have hor256 : c ||| bit d < 256 := or_lt _ _ (by omega) (by omega)
            have HSN := Lib.hid hsub
            have HDR := Lib.hid hdrop
            clear hbits hfree hsub hdrop hln HPy HSy HAy AS AE hsz hC hle hnew hlow
            generalize win (led n es s t) es.length j (c ||| bit d) true = wn at *
            go_wp2_with (first | (go_at_call 89; refine (K3.out).mono ?_; rintro e w2 ⟨rfl, hgr, hme⟩; obtain ⟨y2, rfl⟩ : ∃ y2 : Beside b w0, y2.val = w2 := ⟨y.of w2 hgr, rfl⟩; have HME := Lib.hid hme; clear hme hgr))
            go_roundw
            case rel => exact ⟨wn, drop1 x, p + cost (k - 1), y2, HDl, rfl, rfl, rfl, Lib.hid (by rw [← Nat.add_assoc]; exact HME.out), HPn, HSN, HNI⟩
            case measure => have := HDR.out; simp [intOf]; omega
          · have HEx : Hid (ok = win (led n es s t) es.length j c false) := Lib.hid (AE.out x ok HAy.out (by
              by_cases h0 : x = 0
              · exact .inl h0
              · right
                cases ok with
                | false => rfl
                | true => exact absurd ⟨h0, rfl⟩ hgo))
            have hpb : p ≤ cost k - 1 := by
              have h1 := HPy.out
              rcases Nat.eq_zero_or_pos k with hz | hz
              · rw [hz, Nat.zero_mul] at h1; omega
              · have h2 := cost_step k hz; omega
            have HMn : Hid (Memo (led n es s t) es.length y.val b (cnt + (cost k - 1))) := Lib.hid (HMy.out.mono (by omega))
            clear HMy HPy HSy HAy AS AE IH
            cases ok with
            | true =>
              have h0 : x = 0 := Classical.byContradiction (fun h => hgo ⟨h, rfl⟩)
              subst h0
              have d0 : ((((0 : Nat) : Int)) != 0) = false := rfl
              go_wp2
              go_meet
              case rel => exact ⟨by rw [HEx.out]; rfl, y, rfl, HMn.out⟩
            | false =>
              rcases ieq (x : Int) 0 with ⟨g, d0, d1⟩ | ⟨g, d0, d1⟩
              all_goals
                clear g hgo
                go_wp2
                go_meet
                case rel => exact ⟨by rw [HEx.out]; rfl, y, rfl, HMn.out⟩
    · as_aux_lemma =>
        have o3 := i64_or j c (by omega) (by omega)
        have hjc : j ||| c < 256 := or_lt j c (by omega) (by omega)
        have o4 := i64_andNot (bit es.length - 1) (j ||| c) (by omega) (by omega)
        rw [show ((bit es.length - 1 : Nat) : Int) = (bit es.length : Int) - 1 by omega] at o4
        have HLF : Hid (nand (bit es.length - 1) (j ||| c) = left es.length j c) := Lib.hid rfl
        rw [HLF.out] at o4
        go_wp2_with (first | (go_at_call 90; refine (K2.out).mono ?_; rintro e _ ⟨rfl, v2, rfl⟩))
        clear o2 o3 o4 HLF hjc
        have M3 := Lib.hid (M2.out.keep v2.below)
        obtain ⟨x2, hx2⟩ : ∃ x : Beside b w0, x.val = v2.val := ⟨x1.later v2, rfl⟩
        rw [← hx2] at M3 ⊢
        clear hx2 v2 M2 K2 x1
        have hll := left_lt he8 j c
        have AI := Lib.hid (AnyInv.start (led n es s t) es.length j c)
        have AE : Hid (∀ x ok, AnyInv (led n es s t) es.length j c x ok → (x = 0 ∨ ok = true) → ok = win (led n es s t) es.length j c true) := Lib.hid (fun x ok h hx => AnyInv.end he8 HMid.out h hx)
        have AS : Hid (∀ x d, d < es.length → (j ||| c).testBit d = false → (∀ i, i ≠ d → (drop1 x).testBit i = x.testBit i) → AnyInv (led n es s t) es.length j c x false → AnyInv (led n es s t) es.length j c (drop1 x) (win (led n es s t) es.length (j ||| bit d) c false)) := Lib.hid (fun x d h1 h2 h3 h => AnyInv.step he8 HMid.out h1 h2 h3 h)
        have SL : Hid (Sub (left es.length j c) (left es.length j c)) := Lib.hid (fun _ h => h)
        have HP0 : Hid (0 + sz (left es.length j c) * cost (k - 1) ≤ k * cost (k - 1)) := Lib.hid (by rw [HKk.out]; omega)
        clear HMid
        go_loopw [11, 12] (fun o xr wr => ∃ (ok : Bool) (x p : Nat) (y : Beside b w0), x < 256 ∧ xr = .int .i64 x ∧ o = .bool ok ∧ wr = y.val ∧ Hid (Memo (led n es s t) es.length y.val b (cnt + p)) ∧ Hid (p + sz x * cost (k - 1) ≤ k * cost (k - 1)) ∧ Hid (Sub x (left es.length j c)) ∧ Hid (AnyInv (led n es s t) es.length j c x ok)) (fun _ x _ => (intOf x).toNat)
        case atStart => exact ⟨false, left es.length j c, 0, x2, hll, rfl, rfl, rfl, M3, HP0, SL, AI⟩
        case round =>
          clear x2 M3 AI HP0 SL
          obtain ⟨ok, x, p, y, hx, rfl, rfl, rfl, HMy, HPy, HSy, HAy⟩ := hrel
          by_cases hgo : x ≠ 0 ∧ ok = false
          · obtain ⟨h0, rfl⟩ := hgo
            obtain ⟨d, hd, hlow, hfree, hsub, hsz, hdrop, hbits⟩ := move_facts he8 hx h0 HSy.out
            have d0 : ((x : Int) != 0) = true := by rw [bne_iff_ne]; omega
            have l1 := i64_low x hx
            rw [hlow] at l1
            have l2 := i64_drop1 x hx (by omega)
            have hbd := bit_lt d (by omega)
            have HDl := drop1_lt x hx
            have HNI := Lib.hid (AS.out x d hd hfree hbits HAy.out)
            have hC := cost_pos (k - 1)
            have hk1 : 1 ≤ k := by
              rcases Nat.eq_zero_or_pos k with hz | hz
              · have h1 := HPy.out
                rw [hz, Nat.zero_mul] at h1
                have h2 : 1 * cost (0 - 1) ≤ sz x * cost (0 - 1) := Nat.mul_le_mul_right _ (by omega)
                rw [hz] at hC
                omega
              · exact hz
            have HPn : Hid (p + cost (k - 1) + sz (drop1 x) * cost (k - 1) ≤ k * cost (k - 1)) := Lib.hid (by
              have h1 := HPy.out
              rw [← hsz, Nat.succ_mul] at h1
              omega)
            have hle : cnt + p + cost (k - 1) ≤ 1000000 := by
              have h1 := HPn.out
              have h2 := cost_step k hk1
              omega
            have hnew : j ||| bit d < bit es.length := or_lt_bit hj (bit_lt_bit hd)
            have hln : sz (left es.length (j ||| bit d) c) = k - 1 := by
              rw [left_join]
              have h1 := sz_without (left es.length j c) d hll (by omega) (by rw [left_testBit, hfree]; simp [hd])
              have h2 := HKk.out
              omega
            have K3 : Hid (Calls Try.prog 89 #[.agg #[.int .i64 n, .slice a es.length cap, .int .i64 s, .int .i64 t, .map (some b)], .int .i64 (((j ||| bit d) : Nat) : Int), .int .i64 ((c : Nat) : Int), .int .i64 0] y.val (WinsPost (led n es s t) es.length y.val b (cnt + p + cost (k - 1)) (.bool (win (led n es s t) es.length (j ||| bit d) c false)))) := Lib.hid (IH.out (k - 1) (by omega) y.val (cnt + p) (j ||| bit d) c 0 (EX.out y) HMy.out hln hle hnew hc (.inl rfl))
            have o5 := i64_or j (bit d) (by omega) (by omega)
            have hor256 : j ||| bit d < 256 := or_lt _ _ (by omega) (by omega)
            have HSN := Lib.hid hsub
            have HDR := Lib.hid hdrop
            clear hbits hfree hsub hdrop hln HPy HSy HAy AS AE hsz hC hle hnew hlow
            generalize win (led n es s t) es.length (j ||| bit d) c false = wn at *
            go_wp2_with (first | (go_at_call 89; refine (K3.out).mono ?_; rintro e w2 ⟨rfl, hgr, hme⟩; obtain ⟨y2, rfl⟩ : ∃ y2 : Beside b w0, y2.val = w2 := ⟨y.of w2 hgr, rfl⟩; have HME := Lib.hid hme; clear hme hgr))
            go_roundw
            case rel => exact ⟨wn, drop1 x, p + cost (k - 1), y2, HDl, rfl, rfl, rfl, Lib.hid (by rw [← Nat.add_assoc]; exact HME.out), HPn, HSN, HNI⟩
            case measure => have := HDR.out; simp [intOf]; omega
          · have HEx : Hid (ok = win (led n es s t) es.length j c true) := Lib.hid (AE.out x ok HAy.out (by
              by_cases h0 : x = 0
              · exact .inl h0
              · right
                cases ok with
                | true => rfl
                | false => exact absurd ⟨h0, rfl⟩ hgo))
            have hpb : p ≤ cost k - 1 := by
              have h1 := HPy.out
              rcases Nat.eq_zero_or_pos k with hz | hz
              · rw [hz, Nat.zero_mul] at h1; omega
              · have h2 := cost_step k hz; omega
            have HMn : Hid (Memo (led n es s t) es.length y.val b (cnt + (cost k - 1))) := Lib.hid (HMy.out.mono (by omega))
            clear HMy HPy HSy HAy AS AE IH
            cases ok with
            | false =>
              have h0 : x = 0 := Classical.byContradiction (fun h => hgo ⟨h, rfl⟩)
              subst h0
              have d0 : ((((0 : Nat) : Int)) != 0) = false := rfl
              go_wp2
              go_meet
              case rel => exact ⟨by rw [HEx.out]; rfl, y, rfl, HMn.out⟩
            | true =>
              rcases ieq (x : Int) 0 with ⟨g, d0, d1⟩ | ⟨g, d0, d1⟩
              all_goals
                clear g hgo
                go_wp2
                go_meet
                case rel => exact ⟨by rw [HEx.out]; rfl, y, rfl, HMn.out⟩
  case rest =>
    obtain ⟨rfl, x2, rfl, hM⟩ := hcut
    have HM := Lib.hid hM
    have hzz : Hid (∀ z : Int, z = (if win (led n es s t) es.length j c (decide (q = 1)) = true then 1 else 2) → z = winN (led n es s t) es.length j c (decide (q = 1))) := Lib.hid (fun z h => h)
    clear hM M1 IH KH
    rcases btf (win (led n es s t) es.length j c (decide (q = 1))) with g1 | g1
    all_goals
      have HW1 := Lib.hid g1
      rw [g1] at hzz ⊢
      clear g1
    case inl =>
      have HZ := Lib.hid (hzz.out 1 rfl)
      clear hzz
      go_wp2_with (first | (at_mapUpdate; refine wpList_memo_put _ rfl _ _ _ rfl b (cnt + (cost k - 1)) rfl HM.out (by omega) j c q (by omega) (by omega) hq2 rfl 1 rfl HZ.out ?_; intro w3 hm3 hg3; have HM3 := Lib.hid hm3; have HG3 := Lib.hid hg3; clear hm3 hg3))
      go_ret
      exact ⟨congrArg Ending.returned (show Value.bool true = _ by rw [HW1.out]), HF.out _ (World.grownBy.trans x2.grown HG3.out), HM3.out.mono (by omega)⟩
    case inr =>
      have HZ := Lib.hid (hzz.out 2 rfl)
      clear hzz
      go_wp2_with (first | (at_mapUpdate; refine wpList_memo_put _ rfl _ _ _ rfl b (cnt + (cost k - 1)) rfl HM.out (by omega) j c q (by omega) (by omega) hq2 rfl 2 rfl HZ.out ?_; intro w3 hm3 hg3; have HM3 := Lib.hid hm3; have HG3 := Lib.hid hg3; clear hm3 hg3))
      go_ret
      exact ⟨congrArg Ending.returned (show Value.bool false = _ by rw [HW1.out]), HF.out _ (World.grownBy.trans x2.grown HG3.out), HM3.out.mono (by omega)⟩

end Go.Proofs.Ytcljgnmlpfddiaa
