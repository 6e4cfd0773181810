/-
  rotalaw.GameSays returns true, whatever it is handed.
-/
import Derived.Test.YtcljgnmlpfddiaaGameMove
namespace Go.Proofs.Ytcljgnmlpfddiaa
open Go.RowKit Go.Maps
set_option linter.unusedVariables false

set_option maxRecDepth 100000 in
set_option maxHeartbeats 20000000 in
theorem law_game_no {B : Nat} {W : World} (u : Later B W) (n s t j c : Int) (first : Bool) (es : List (Int × Int)) (a : Option Addr) (cap : Nat) (h : EdgesAt B W a es) (hlen : es.length ≤ 4611686018427387904) (hj : j < 9223372036854775808) (hc : c < 9223372036854775808) (hp : ¬ isPos n es s t j c) :
    Calls Try.prog 4 #[.agg #[.int .i64 n, .slice a es.length cap], .int .i64 s, .int .i64 t, .int .i64 j, .int .i64 c, .bool first] u.val (Ret B W (.bool true)) := by
  have T0 : Hid (Two (u.val.alloc (.cells #[.int .i64 n, .slice a es.length cap] 27)) u.val.heap.size 27 (.int .i64 n) (.slice a es.length cap)) := Lib.hid (Two.new _ _ _ _)
  have hE' : EdgesAt (u.val.alloc (.cells #[.int .i64 n, .slice a es.length cap] 27)).heap.size (u.val.alloc (.cells #[.int .i64 n, .slice a es.length cap] 27)) a es := h.to (u.alloc (.cells #[.int .i64 n, .slice a es.length cap] 27))
  have HV : Hid (∀ v : Later (u.val.alloc (.cells #[.int .i64 n, .slice a es.length cap] 27)).heap.size (u.val.alloc (.cells #[.int .i64 n, .slice a es.length cap] 27)), ∃ w : Later B W, w.val = v.val) := Lib.hid (fun v => ⟨(u.alloc _).up v, rfl⟩)
  have q0 : ∀ w : Later (u.val.alloc (.cells #[.int .i64 n, .slice a es.length cap] 27)).heap.size (u.val.alloc (.cells #[.int .i64 n, .slice a es.length cap] 27)), w.val.cell? ⟨u.val.heap.size, 0, none⟩ = some (.int .i64 n) := fun w => (T0.out.keep w.below).c0
  have q1 : ∀ w : Later (u.val.alloc (.cells #[.int .i64 n, .slice a es.length cap] 27)).heap.size (u.val.alloc (.cells #[.int .i64 n, .slice a es.length cap] 27)), w.val.cell? ⟨u.val.heap.size, 1, none⟩ = some (.slice a es.length cap) := fun w => (T0.out.keep w.below).c1
  have K0 : Hid (Calls Try.prog 15 #[.agg #[.int .i64 n, .slice a es.length cap], .int .i64 s, .int .i64 t, .int .i64 j, .int .i64 c] (u.val.alloc (.cells #[.int .i64 n, .slice a es.length cap] 27)) (Ret (u.val.alloc (.cells #[.int .i64 n, .slice a es.length cap] 27)).heap.size (u.val.alloc (.cells #[.int .i64 n, .slice a es.length cap] 27)) (.bool false))) := Lib.hid (dcall_f (c_position (Later.self (u.val.alloc (.cells #[.int .i64 n, .slice a es.length cap] 27))) n s t j c es a cap hE' hlen) hp)
  have K1 : Hid (∀ v : Later (u.val.alloc (.cells #[.int .i64 n, .slice a es.length cap] 27)).heap.size (u.val.alloc (.cells #[.int .i64 n, .slice a es.length cap] 27)), Calls Try.prog 14 #[.bool false, .int .i64 1] v.val (Ret (u.val.alloc (.cells #[.int .i64 n, .slice a es.length cap] 27)).heap.size (u.val.alloc (.cells #[.int .i64 n, .slice a es.length cap] 27)) (.int .i64 1))) := Lib.hid (fun v => c_bad v false 1)
  have K2 := Lib.hid (fun v : Later (u.val.alloc (.cells #[.int .i64 n, .slice a es.length cap] 27)).heap.size (u.val.alloc (.cells #[.int .i64 n, .slice a es.length cap] 27)) => c_joins_no v n s t j c first es a cap hE' hlen hj hc hp)
  have K3 := Lib.hid (fun v : Later (u.val.alloc (.cells #[.int .i64 n, .slice a es.length cap] 27)).heap.size (u.val.alloc (.cells #[.int .i64 n, .slice a es.length cap] 27)) => c_move_no v n s t j c first es a cap hE' hlen hj hc hp)
  have K4 : Hid (∀ v : Later (u.val.alloc (.cells #[.int .i64 n, .slice a es.length cap] 27)).heap.size (u.val.alloc (.cells #[.int .i64 n, .slice a es.length cap] 27)), Calls Try.prog 18 #[.agg #[.int .i64 n, .slice a es.length cap], .int .i64 s, .int .i64 t, .int .i64 j, .int .i64 c] v.val (Ret (u.val.alloc (.cells #[.int .i64 n, .slice a es.length cap] 27)).heap.size (u.val.alloc (.cells #[.int .i64 n, .slice a es.length cap] 27)) (.int .i64 1))) := Lib.hid (fun v => by
    have := c_gameCheck v n s t j c es a cap hE' hlen hj hc
    rwa [← errno_bad hp] at this)
  clear h hE' hp T0
  go_enter Try.func4, Try.ntmps4
  go_wp2_with (first | (go_at_call 15; refine (K0.out).mono ?_; rintro e _ ⟨rfl, v1, rfl⟩) | (go_at_call 14; refine (K1.out _).mono ?_; rintro e _ ⟨rfl, v1, rfl⟩) | (go_at_call 16; refine (K2.out _).mono ?_; rintro e _ ⟨rfl, v1, rfl⟩) | (go_at_call 17; refine (K3.out _).mono ?_; rintro e _ ⟨rfl, v1, rfl⟩) | (go_at_call 18; refine (K4.out _).mono ?_; rintro e _ ⟨rfl, v1, rfl⟩))
  go_ret
  exact Ret.of (HV.out v1) rfl

set_option maxRecDepth 100000 in
set_option maxHeartbeats 20000000 in
theorem law_game_yes {B : Nat} {W : World} (u : Later B W) (n s t j c : Nat) (first : Bool) (es : List (Int × Int)) (a : Option Addr) (cap : Nat) (h : EdgesAt B W a es) (hp : isPos n es s t j c) :
    Calls Try.prog 4 #[.agg #[.int .i64 n, .slice a es.length cap], .int .i64 s, .int .i64 t, .int .i64 j, .int .i64 c, .bool first] u.val (Ret B W (.bool true)) := by
  obtain ⟨iv, ev, hmv⟩ := MvIs.ex (led n es s t) es.length j c first
  have hG := hp.1
  have he8 : es.length ≤ 8 := hG.2.2.1
  have hbm := bit_le es.length he8
  have hs : s < 8 := by have := hp.2.1; have := hG.2.1; omega
  have ht : t < 8 := by have := hp.2.1; have := hG.2.1; omega
  have hj : j < bit es.length := by have := (isSet_iff he8 (j : Int)).1 hp.2.2.1; omega
  have hc : c < bit es.length := by have := (isSet_iff he8 (c : Int)).1 hp.2.2.2.1; omega
  have T0 : Hid (Two (u.val.alloc (.cells #[.int .i64 n, .slice a es.length cap] 27)) u.val.heap.size 27 (.int .i64 n) (.slice a es.length cap)) := Lib.hid (Two.new _ _ _ _)
  have hE' : EdgesAt (u.val.alloc (.cells #[.int .i64 n, .slice a es.length cap] 27)).heap.size (u.val.alloc (.cells #[.int .i64 n, .slice a es.length cap] 27)) a es := h.to (u.alloc (.cells #[.int .i64 n, .slice a es.length cap] 27))
  have HV : Hid (∀ v : Later (u.val.alloc (.cells #[.int .i64 n, .slice a es.length cap] 27)).heap.size (u.val.alloc (.cells #[.int .i64 n, .slice a es.length cap] 27)), ∃ w : Later B W, w.val = v.val) := Lib.hid (fun v => ⟨(u.alloc _).up v, rfl⟩)
  have q0 : ∀ w : Later (u.val.alloc (.cells #[.int .i64 n, .slice a es.length cap] 27)).heap.size (u.val.alloc (.cells #[.int .i64 n, .slice a es.length cap] 27)), w.val.cell? ⟨u.val.heap.size, 0, none⟩ = some (.int .i64 n) := fun w => (T0.out.keep w.below).c0
  have q1 : ∀ w : Later (u.val.alloc (.cells #[.int .i64 n, .slice a es.length cap] 27)).heap.size (u.val.alloc (.cells #[.int .i64 n, .slice a es.length cap] 27)), w.val.cell? ⟨u.val.heap.size, 1, none⟩ = some (.slice a es.length cap) := fun w => (T0.out.keep w.below).c1
  have K0 : Hid (Calls Try.prog 15 #[.agg #[.int .i64 n, .slice a es.length cap], .int .i64 s, .int .i64 t, .int .i64 j, .int .i64 c] (u.val.alloc (.cells #[.int .i64 n, .slice a es.length cap] 27)) (Ret (u.val.alloc (.cells #[.int .i64 n, .slice a es.length cap] 27)).heap.size (u.val.alloc (.cells #[.int .i64 n, .slice a es.length cap] 27)) (.bool true))) := Lib.hid (dcall_t (c_position (Later.self (u.val.alloc (.cells #[.int .i64 n, .slice a es.length cap] 27))) n s t j c es a cap hE' (by omega)) hp)
  have K1 : Hid (∀ v : Later (u.val.alloc (.cells #[.int .i64 n, .slice a es.length cap] 27)).heap.size (u.val.alloc (.cells #[.int .i64 n, .slice a es.length cap] 27)), Calls Try.prog 14 #[.bool true, .int .i64 1] v.val (Ret (u.val.alloc (.cells #[.int .i64 n, .slice a es.length cap] 27)).heap.size (u.val.alloc (.cells #[.int .i64 n, .slice a es.length cap] 27)) (.int .i64 0))) := Lib.hid (fun v => c_bad v true 1)
  have K2 := Lib.hid (fun v : Later (u.val.alloc (.cells #[.int .i64 n, .slice a es.length cap] 27)).heap.size (u.val.alloc (.cells #[.int .i64 n, .slice a es.length cap] 27)) => c_joins v n s t j c first es a cap hE' hp)
  have K3 := Lib.hid (fun v : Later (u.val.alloc (.cells #[.int .i64 n, .slice a es.length cap] 27)).heap.size (u.val.alloc (.cells #[.int .i64 n, .slice a es.length cap] 27)) => c_move v n s t j c first es a cap iv ev hE' hp hmv)
  have K4 : Hid (∀ v : Later (u.val.alloc (.cells #[.int .i64 n, .slice a es.length cap] 27)).heap.size (u.val.alloc (.cells #[.int .i64 n, .slice a es.length cap] 27)), Calls Try.prog 18 #[.agg #[.int .i64 n, .slice a es.length cap], .int .i64 s, .int .i64 t, .int .i64 j, .int .i64 c] v.val (Ret (u.val.alloc (.cells #[.int .i64 n, .slice a es.length cap] 27)).heap.size (u.val.alloc (.cells #[.int .i64 n, .slice a es.length cap] 27)) (.int .i64 0))) := Lib.hid (fun v => by
    have := c_gameCheck v n s t j c es a cap hE' (by omega) (by omega) (by omega)
    rwa [← errno_ok hp] at this)
  have K5 := Lib.hid (fun v : Later (u.val.alloc (.cells #[.int .i64 n, .slice a es.length cap] 27)).heap.size (u.val.alloc (.cells #[.int .i64 n, .slice a es.length cap] 27)) => c_refWins v n s t j c first es a cap hE' hG hs ht hj hc)
  have K6 := Lib.hid (fun v : Later (u.val.alloc (.cells #[.int .i64 n, .slice a es.length cap] 27)).heap.size (u.val.alloc (.cells #[.int .i64 n, .slice a es.length cap] 27)) => c_over v n s t j c es a cap hE' hG hs ht hj hc)
  have K7 := Lib.hid (fun (v : Later (u.val.alloc (.cells #[.int .i64 n, .slice a es.length cap] 27)).heap.size (u.val.alloc (.cells #[.int .i64 n, .slice a es.length cap] 27))) (j c : Nat) (first : Bool) (hj : j < bit es.length) (hc : c < bit es.length) => c_refWins v n s t j c first es a cap hE' hG hs ht hj hc)
  have HMv := Lib.hid hmv
  clear h hE' hp T0 hG hmv
  have hov := overV_ge (led n es s t) es.length j c
  generalize hwn : win (led n es s t) es.length j c first = wn at *
  go_enter Try.func4, Try.ntmps4
  by_cases ho : overV (led n es s t) es.length j c = 0
  case neg =>
    have hie := HMv.out.1 ho
    obtain ⟨hi, he⟩ := hie
    subst hi he
    have ho2 : 0 < overV (led n es s t) es.length j c := by omega
    clear HMv hov ho hwn K7
    generalize overV (led n es s t) es.length j c = ov at *
    cases wn
    all_goals
      go_wp2_with (first | (go_at_call 15; refine (K0.out).mono ?_; rintro e _ ⟨rfl, v1, rfl⟩) | (go_at_call 14; refine (K1.out _).mono ?_; rintro e _ ⟨rfl, v1, rfl⟩) | (go_at_call 16; refine (K2.out _).mono ?_; rintro e _ ⟨rfl, v1, rfl⟩) | (go_at_call 17; refine (K3.out _).mono ?_; rintro e _ ⟨rfl, v1, rfl⟩) | (go_at_call 18; refine (K4.out _).mono ?_; rintro e _ ⟨rfl, v1, rfl⟩) | (go_at_call 19; refine (K5.out _).mono ?_; rintro e _ ⟨rfl, v1, rfl⟩) | (go_at_call 20; refine (K6.out _).mono ?_; rintro e _ ⟨rfl, v1, rfl⟩))
      go_ret
      exact Ret.of (HV.out v1) rfl
  have HO := Lib.hid ho
  rw [ho] at K6
  clear ho hov hwn
  cases first
  · go_upto_region 10 with (first | (go_at_call 15; refine (K0.out).mono ?_; rintro e _ ⟨rfl, v1, rfl⟩) | (go_at_call 14; refine (K1.out _).mono ?_; rintro e _ ⟨rfl, v1, rfl⟩) | (go_at_call 16; refine (K2.out _).mono ?_; rintro e _ ⟨rfl, v1, rfl⟩) | (go_at_call 17; refine (K3.out _).mono ?_; rintro e _ ⟨rfl, v1, rfl⟩) | (go_at_call 18; refine (K4.out _).mono ?_; rintro e _ ⟨rfl, v1, rfl⟩) | (go_at_call 19; refine (K5.out _).mono ?_; rintro e _ ⟨rfl, v1, rfl⟩) | (go_at_call 20; refine (K6.out _).mono ?_; rintro e _ ⟨rfl, v1, rfl⟩))
    clear K0 K1 K2 K3 K4 K5 K6
    go_wp2
    go_loopw [114] (fun r wr => ∃ (d : Nat) (v : Later (u.val.alloc (.cells #[.int .i64 n, .slice a es.length cap] 27)).heap.size (u.val.alloc (.cells #[.int .i64 n, .slice a es.length cap] 27))), d ≤ es.length ∧ r = .int .i64 d ∧ wr = v.val ∧ Hid (∀ l, l < d → ¬ mvOk (led n es s t) es.length j c false l)) (fun r _ => es.length - (intOf r).toNat)
    case atStart => exact ⟨0, v1, by omega, rfl, rfl, Lib.hid (fun l hl => by omega)⟩
    case round =>
      clear v1
      obtain ⟨d, v1, hd, rfl, rfl, HNo⟩ := hrel
      by_cases hlt : d < es.length
      · have hbd := bit_lt d (by omega)
        have hbdc := bit_cast d
        have hjc : j ||| c < 256 := or_lt j c (by omega) (by omega)
        have o3 := i64_or j c (by omega) (by omega)
        have KI := Lib.hid (c_in v1 (j ||| c) d (by omega) (by omega))
        rcases btf ((j ||| c).testBit d) with g1 | g1
        · have HN2 := Lib.hid (mv_next HNo.out (fun h => by have := h.1; rw [g1] at this; cases this))
          rw [g1] at KI
          clear g1 HNo
          go_wp2_with (first | (go_at_call 21; refine (KI.out).mono ?_; rintro e _ ⟨rfl, v2, rfl⟩))
          go_roundw
          case rel => exact ⟨d+1, v2, by omega, by go_num, rfl, HN2⟩
          case measure => simp [intOf]; omega
        · have hfree : c.testBit d = false := by
            have := g1
            rw [Nat.testBit_or] at this
            cases h : c.testBit d
            · rfl
            · simp [h] at this
          have hnew : c ||| bit d < bit es.length := or_lt_bit hc (bit_lt_bit hlt)
          have hsum : c ||| bit d = c + bit d := or_bit c d (by omega) (by omega) hfree
          have K8 : Hid (∀ v : Later (u.val.alloc (.cells #[.int .i64 n, .slice a es.length cap] 27)).heap.size (u.val.alloc (.cells #[.int .i64 n, .slice a es.length cap] 27)), Calls Try.prog 19 #[.agg #[.int .i64 n, .slice a es.length cap], .int .i64 s, .int .i64 t, .int .i64 (j : Int), .int .i64 ((c : Int) + (bit d : Int)), .bool true] v.val (Ret (u.val.alloc (.cells #[.int .i64 n, .slice a es.length cap] 27)).heap.size (u.val.alloc (.cells #[.int .i64 n, .slice a es.length cap] 27)) (.bool (win (led n es s t) es.length j (c ||| bit d) true)))) := Lib.hid (fun v => by
            have := K7.out v j (c ||| bit d) true hj hnew
            rwa [show (((c ||| bit d) : Nat) : Int) = ((c : Int) + (bit d : Int)) by rw [hsum]; omega] at this)
          have HYes : Hid (win (led n es s t) es.length j (c ||| bit d) true = false → iv = d ∧ ev = 0) := Lib.hid (fun h => HMv.out.hit HO.out hlt ⟨g1, .inr ⟨rfl, h⟩⟩ HNo.out)
          have HNx : Hid (win (led n es s t) es.length j (c ||| bit d) true = true → ∀ l, l < d + 1 → ¬ mvOk (led n es s t) es.length j c false l) := Lib.hid (fun h => mv_next HNo.out (fun hk => by rcases hk.2 with ⟨h1, h2⟩ | ⟨h1, h2⟩ <;> simp_all))
          have w9 := IntWalk.i64_in ((c : Int) + (bit d : Int)) (by omega)
          have w8 := IntWalk.i64_in ((bit d : Int)) (by omega)
          rw [g1] at KI
          clear g1 hsum hnew hfree HNo
          generalize win (led n es s t) es.length j (c ||| bit d) true = wm at *
          cases wm
          · go_wp2_with (first | (go_at_call 21; refine (KI.out).mono ?_; rintro e _ ⟨rfl, v2, rfl⟩))
            obtain ⟨hi, he⟩ := HYes.out (by trivial)
            subst hi he
            clear HYes HNx
            refine wp_region_later v2 (by kernel_rfl) (by kernel_rfl) (fun _ => ?_)
            repeat (first | go_big_quiet_step (((go_at_call 19; exact K8.out _))) | (refine wpQuiet_step (fun K hK => ?_); go_simp; refine ⟨_, fun _ => rfl, ?_⟩; refine hK _ ?_; clear hK K))
            refine wpQuiet_nil ?_
            intro v2
            go_wp2
            go_ret
            exact Ret.of (HV.out v2) rfl
          · go_wp2_with (first | (go_at_call 21; refine (KI.out).mono ?_; rintro e _ ⟨rfl, v2, rfl⟩))
            have HN2 := Lib.hid (HNx.out (by trivial))
            clear HYes HNx
            refine wp_region_later v2 (by kernel_rfl) (by kernel_rfl) (fun _ => ?_)
            repeat (first | go_big_quiet_step (((go_at_call 19; exact K8.out _))) | (refine wpQuiet_step (fun K hK => ?_); go_simp; refine ⟨_, fun _ => rfl, ?_⟩; refine hK _ ?_; clear hK K))
            refine wpQuiet_nil ?_
            intro v2
            go_wp2
            go_roundw
            case rel => exact ⟨d+1, v2, by omega, by go_num, rfl, HN2⟩
            case measure => simp [intOf]; omega
      · have HMs : Hid (iv = 0 ∧ ev = 5) := Lib.hid (HMv.out.miss HO.out (fun l hl => HNo.out l (by omega)))
        obtain ⟨hi, he⟩ := HMs.out
        subst hi he
        clear HMs
        go_wp2
        go_ret
        exact Ret.of (HV.out v1) rfl
  · go_upto_region 10 with (first | (go_at_call 15; refine (K0.out).mono ?_; rintro e _ ⟨rfl, v1, rfl⟩) | (go_at_call 14; refine (K1.out _).mono ?_; rintro e _ ⟨rfl, v1, rfl⟩) | (go_at_call 16; refine (K2.out _).mono ?_; rintro e _ ⟨rfl, v1, rfl⟩) | (go_at_call 17; refine (K3.out _).mono ?_; rintro e _ ⟨rfl, v1, rfl⟩) | (go_at_call 18; refine (K4.out _).mono ?_; rintro e _ ⟨rfl, v1, rfl⟩) | (go_at_call 19; refine (K5.out _).mono ?_; rintro e _ ⟨rfl, v1, rfl⟩) | (go_at_call 20; refine (K6.out _).mono ?_; rintro e _ ⟨rfl, v1, rfl⟩))
    clear K0 K1 K2 K3 K4 K5 K6
    go_wp2
    go_loopw [114] (fun r wr => ∃ (d : Nat) (v : Later (u.val.alloc (.cells #[.int .i64 n, .slice a es.length cap] 27)).heap.size (u.val.alloc (.cells #[.int .i64 n, .slice a es.length cap] 27))), d ≤ es.length ∧ r = .int .i64 d ∧ wr = v.val ∧ Hid (∀ l, l < d → ¬ mvOk (led n es s t) es.length j c true l)) (fun r _ => es.length - (intOf r).toNat)
    case atStart => exact ⟨0, v1, by omega, rfl, rfl, Lib.hid (fun l hl => by omega)⟩
    case round =>
      clear v1
      obtain ⟨d, v1, hd, rfl, rfl, HNo⟩ := hrel
      by_cases hlt : d < es.length
      · have hbd := bit_lt d (by omega)
        have hbdc := bit_cast d
        have hjc : j ||| c < 256 := or_lt j c (by omega) (by omega)
        have o3 := i64_or j c (by omega) (by omega)
        have KI := Lib.hid (c_in v1 (j ||| c) d (by omega) (by omega))
        rcases btf ((j ||| c).testBit d) with g1 | g1
        · have HN2 := Lib.hid (mv_next HNo.out (fun h => by have := h.1; rw [g1] at this; cases this))
          rw [g1] at KI
          clear g1 HNo
          go_wp2_with (first | (go_at_call 21; refine (KI.out).mono ?_; rintro e _ ⟨rfl, v2, rfl⟩))
          go_roundw
          case rel => exact ⟨d+1, v2, by omega, by go_num, rfl, HN2⟩
          case measure => simp [intOf]; omega
        · have hfree : j.testBit d = false := by
            have := g1
            rw [Nat.testBit_or] at this
            cases h : j.testBit d
            · rfl
            · simp [h] at this
          have hnew : j ||| bit d < bit es.length := or_lt_bit hj (bit_lt_bit hlt)
          have hsum : j ||| bit d = j + bit d := or_bit j d (by omega) (by omega) hfree
          have K8 : Hid (∀ v : Later (u.val.alloc (.cells #[.int .i64 n, .slice a es.length cap] 27)).heap.size (u.val.alloc (.cells #[.int .i64 n, .slice a es.length cap] 27)), Calls Try.prog 19 #[.agg #[.int .i64 n, .slice a es.length cap], .int .i64 s, .int .i64 t, .int .i64 ((j : Int) + (bit d : Int)), .int .i64 (c : Int), .bool false] v.val (Ret (u.val.alloc (.cells #[.int .i64 n, .slice a es.length cap] 27)).heap.size (u.val.alloc (.cells #[.int .i64 n, .slice a es.length cap] 27)) (.bool (win (led n es s t) es.length (j ||| bit d) c false)))) := Lib.hid (fun v => by
            have := K7.out v (j ||| bit d) c false hnew hc
            rwa [show (((j ||| bit d) : Nat) : Int) = ((j : Int) + (bit d : Int)) by rw [hsum]; omega] at this)
          have HYes : Hid (win (led n es s t) es.length (j ||| bit d) c false = true → iv = d ∧ ev = 0) := Lib.hid (fun h => HMv.out.hit HO.out hlt ⟨g1, .inl ⟨rfl, h⟩⟩ HNo.out)
          have HNx : Hid (win (led n es s t) es.length (j ||| bit d) c false = false → ∀ l, l < d + 1 → ¬ mvOk (led n es s t) es.length j c true l) := Lib.hid (fun h => mv_next HNo.out (fun hk => by rcases hk.2 with ⟨h1, h2⟩ | ⟨h1, h2⟩ <;> simp_all))
          have w9 := IntWalk.i64_in ((j : Int) + (bit d : Int)) (by omega)
          have w8 := IntWalk.i64_in ((bit d : Int)) (by omega)
          rw [g1] at KI
          clear g1 hsum hnew hfree HNo
          generalize win (led n es s t) es.length (j ||| bit d) c false = wm at *
          cases wm
          · go_wp2_with (first | (go_at_call 21; refine (KI.out).mono ?_; rintro e _ ⟨rfl, v2, rfl⟩))
            have HN2 := Lib.hid (HNx.out (by trivial))
            clear HYes HNx
            refine wp_region_later v2 (by kernel_rfl) (by kernel_rfl) (fun _ => ?_)
            repeat (first | go_big_quiet_step (((go_at_call 19; exact K8.out _))) | (refine wpQuiet_step (fun K hK => ?_); go_simp; refine ⟨_, fun _ => rfl, ?_⟩; refine hK _ ?_; clear hK K))
            refine wpQuiet_nil ?_
            intro v2
            go_wp2
            go_roundw
            case rel => exact ⟨d+1, v2, by omega, by go_num, rfl, HN2⟩
            case measure => simp [intOf]; omega
          · go_wp2_with (first | (go_at_call 21; refine (KI.out).mono ?_; rintro e _ ⟨rfl, v2, rfl⟩))
            obtain ⟨hi, he⟩ := HYes.out (by trivial)
            subst hi he
            clear HYes HNx
            refine wp_region_later v2 (by kernel_rfl) (by kernel_rfl) (fun _ => ?_)
            repeat (first | go_big_quiet_step (((go_at_call 19; exact K8.out _))) | (refine wpQuiet_step (fun K hK => ?_); go_simp; refine ⟨_, fun _ => rfl, ?_⟩; refine hK _ ?_; clear hK K))
            refine wpQuiet_nil ?_
            intro v2
            go_wp2
            go_ret
            exact Ret.of (HV.out v2) rfl
      · have HMs : Hid (iv = 0 ∧ ev = 5) := Lib.hid (HMv.out.miss HO.out (fun l hl => HNo.out l (by omega)))
        obtain ⟨hi, he⟩ := HMs.out
        subst hi he
        clear HMs
        go_wp2
        go_ret
        exact Ret.of (HV.out v1) rfl

theorem wf_lt {a : Int} (h : (Lit.int .i64 a).wf = true) : a < 9223372036854775808 := by
  simp only [Lit.wf, Bool.and_eq_true, decide_eq_true_eq] at h
  have hm : IntKind.i64.max = 9223372036854775807 := by decide
  omega
theorem law_gameSays {B : Nat} {W : World} (u : Later B W) (n s t j c : Int) (first : Bool) (es : List (Int × Int)) (a : Option Addr) (cap : Nat) (h : EdgesAt B W a es) (hlen : es.length ≤ 4611686018427387904) (hj : j < 9223372036854775808) (hc : c < 9223372036854775808) :
    Calls Try.prog 4 #[.agg #[.int .i64 n, .slice a es.length cap], .int .i64 s, .int .i64 t, .int .i64 j, .int .i64 c, .bool first] u.val (Ret B W (.bool true)) := by
  by_cases hp : isPos n es s t j c
  · obtain ⟨n', rfl⟩ := Int.eq_ofNat_of_zero_le (show 0 ≤ n by have := hp.1.1; omega)
    obtain ⟨s', rfl⟩ := Int.eq_ofNat_of_zero_le hp.2.1.1
    obtain ⟨t', rfl⟩ := Int.eq_ofNat_of_zero_le hp.2.1.2.2.1
    have he8 : es.length ≤ 8 := hp.1.2.2.1
    obtain ⟨j', rfl⟩ := Int.eq_ofNat_of_zero_le ((isSet_iff he8 j).1 hp.2.2.1).1
    obtain ⟨c', rfl⟩ := Int.eq_ofNat_of_zero_le ((isSet_iff he8 c).1 hp.2.2.2.1).1
    exact law_game_yes u n' s' t' j' c' first es a cap h hp
  · exact law_game_no u n s t j c first es a cap h hlen hj hc hp

end Go.Proofs.Ytcljgnmlpfddiaa
