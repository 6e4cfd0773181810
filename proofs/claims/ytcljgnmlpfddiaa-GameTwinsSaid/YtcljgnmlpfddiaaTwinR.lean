/-
  rotaref.Twins.
-/
import Derived.Deep.CutRange
import Derived.Deep.CutBlock
import Derived.Test.YtcljgnmlpfddiaaTwin
namespace Go.Proofs.Ytcljgnmlpfddiaa
open Go.RowKit
set_option linter.unusedVariables false

theorem c_treesP {B : Nat} {W : World} (u : Later B W) (n x s : Nat) (d : Bool) (es : List (Int × Int)) (a : Option Addr) (cap : Nat) (h : EdgesAt B W a es) (hG : isGraph (n : Int) es) (hx : x < bit es.length) (hs : s < 256) (hd : d = true ↔ TrP n es x s) :
    Calls Try.prog 94 #[.agg #[.int .i64 n, .slice a es.length cap], .int .i64 x, .int .i64 s] u.val (Ret B W (.bool d)) := by
  obtain ⟨R, hR⟩ := Reps.ex n es x
  refine c_trees u n x s R d es a cap h hG hx hs hR ?_
  rw [hd]
  constructor
  · rintro ⟨R', h1, h2⟩
    rwa [Reps.one hR h1]
  · intro h; exact ⟨R, hR, h⟩
theorem dec_ex (p : Prop) : ∃ d : Bool, d = true ↔ p := by
  by_cases h : p
  · exact ⟨true, by simp [h]⟩
  · exact ⟨false, by simp [h]⟩

set_option maxRecDepth 100000 in
set_option maxHeartbeats 8000000 in
theorem c_refTwins {B : Nat} {W : World} (u : Later B W) (n s t : Nat) (x y e : Int) (es : List (Int × Int)) (a : Option Addr) (cap : Nat) (h : EdgesAt B W a es) (hG : isGraph (n : Int) es) (hs : s < 8) (ht : t < 8) (hT : TwIs es.length (TwR n es (bit s ||| bit t)) x y e) :
    Calls Try.prog 23 #[.agg #[.int .i64 n, .slice a es.length cap], .int .i64 s, .int .i64 t] u.val (Ret B W (.tuple #[.int .i64 x, .int .i64 y, .bool (decide (e = 0))])) := by
  have hn7 : n ≤ 7 := by have := hG.2.1; omega
  have he8 : es.length ≤ 8 := hG.2.2.1
  have hbe := bit_le _ he8
  have hbn := bit_le n (by omega)
  have bs := bit_cast s
  have bt := bit_cast t
  have bs1 := bit_lt s hs
  have bt1 := bit_lt t ht
  have o1 := i64_or (bit s) (bit t) (by omega) (by omega)
  have hnd := or_lt (bit s) (bit t) (by omega) (by omega)
  have w1 := IntWalk.i64_in (bit s : Int) (by omega)
  have w2 := IntWalk.i64_in (bit t : Int) (by omega)
  have T0 : Hid (Two (u.val.alloc (.cells #[.int .i64 n, .slice a es.length cap] 27)) u.val.heap.size 27 (.int .i64 n) (.slice a es.length cap)) := Lib.hid (Two.new _ _ _ _)
  have hE : EdgesAt (u.val.alloc (.cells #[.int .i64 n, .slice a es.length cap] 27)).heap.size (u.val.alloc (.cells #[.int .i64 n, .slice a es.length cap] 27)) a es := h.to (u.alloc _)
  have HV : Hid (∀ v : Later (u.val.alloc (.cells #[.int .i64 n, .slice a es.length cap] 27)).heap.size (u.val.alloc (.cells #[.int .i64 n, .slice a es.length cap] 27)), ∃ w : Later B W, w.val = v.val) := Lib.hid (fun v => ⟨(u.alloc _).up v, rfl⟩)
  have q0 : ∀ w : Later (u.val.alloc (.cells #[.int .i64 n, .slice a es.length cap] 27)).heap.size (u.val.alloc (.cells #[.int .i64 n, .slice a es.length cap] 27)), w.val.cell? ⟨u.val.heap.size, 0, none⟩ = some (.int .i64 n) := fun w => (T0.out.keep w.below).c0
  have q1 : ∀ w : Later (u.val.alloc (.cells #[.int .i64 n, .slice a es.length cap] 27)).heap.size (u.val.alloc (.cells #[.int .i64 n, .slice a es.length cap] 27)), w.val.cell? ⟨u.val.heap.size, 1, none⟩ = some (.slice a es.length cap) := fun w => (T0.out.keep w.below).c1
  obtain ⟨y0, hy0⟩ : ∃ y0 : Later (u.val.alloc (.cells #[.int .i64 n, .slice a es.length cap] 27)).heap.size (u.val.alloc (.cells #[.int .i64 n, .slice a es.length cap] 27)), y0.val = u.val.alloc (.cells #[.int .i64 n, .slice a es.length cap] 27) := ⟨Later.self _, rfl⟩
  have HG := Lib.hid hG
  have HE := Lib.hid hE
  have HT := Lib.hid hT
  clear h T0 hG hE hT
  go_enter Try.func23, Try.ntmps23
  go_wp2
  rw [← hy0]
  clear hy0
  generalize u.val.alloc (.cells #[.int .i64 n, .slice a es.length cap] 27) = W1 at *
  generalize u.val.heap.size = gu at *
  have KA1 : Hid (∀ v : Later W1.heap.size W1, Calls Try.prog 59 #[.int .i64 es.length] v.val (Ret W1.heap.size W1 (.int .i64 ((bit es.length : Int) - 1)))) := Lib.hid (fun v => by
    have := c_all v (es.length : Int) (by omega) (by omega)
    rwa [all_nat, show ((bit es.length - 1 : Nat) : Int) = (bit es.length : Int) - 1 by omega] at this)
  have KA2 : Hid (∀ v : Later W1.heap.size W1, Calls Try.prog 59 #[.int .i64 n] v.val (Ret W1.heap.size W1 (.int .i64 ((bit n : Int) - 1)))) := Lib.hid (fun v => by
    have := c_all v (n : Int) (by omega) (by omega)
    rwa [all_nat, show ((bit n - 1 : Nat) : Int) = (bit n : Int) - 1 by omega] at this)
  have KT := Lib.hid (fun (v : Later W1.heap.size W1) (x s : Nat) (d : Bool) (hx : x < bit es.length) (hs : s < 256) (hd : d = true ↔ TrP n es x s) => c_treesP v n x s d es a cap HE.out HG.out hx hs hd)
  refine wp_region_later y0 (by kernel_rfl) (by kernel_rfl) (fun _ => ?_)
  repeat (first | go_big_quiet_step ((fail)) | (refine wpQuiet_step (fun K hK => ?_); go_simp; refine ⟨_, fun _ => rfl, ?_⟩; refine hK _ ?_; clear hK K))
  refine wpQuiet_nil ?_
  intro y0
  generalize hnd0 : bit s ||| bit t = need at *
  clear hnd0 bs bt bs1 bt1 o1 w1 w2
  go_wp2
  go_loopw [10] (fun i wr => ∃ (p : Nat) (v : Later W1.heap.size W1), p ≤ bit es.length ∧ i = .int .i64 p ∧ wr = v.val ∧ Hid (∀ a', a' < p → ∀ b', b' < bit es.length → ¬ TwR n es need a' b')) (fun i _ => bit es.length - (intOf i).toNat)
  case atStart => exact ⟨0, y0, by omega, rfl, rfl, Lib.hid (fun a' ha => by omega)⟩
  case round =>
    obtain ⟨p, v, hp, rfl, rfl, HA⟩ := hrel
    rcases ile (p : Int) ((bit es.length : Int) - 1) with ⟨hlt, d0⟩ | ⟨hlt, d0⟩
    case inr =>
      obtain ⟨rfl, rfl, rfl⟩ := HT.out.miss (fun a' ha b' hb => HA.out a' (by omega) b' hb)
      clear HT HA
      go_wp2_with (first | (go_at_call 59; ((with_reducible refine (KA1.out _).mono ?_); rintro e _ ⟨rfl, v1, rfl⟩)))
      go_ret3
      exact Ret.of (HV.out v1) rfl
    go_wp2_with (first | (go_at_call 59; ((with_reducible refine (KA1.out _).mono ?_); rintro e _ ⟨rfl, v1, rfl⟩)))
    clear d0
    go_loopw [11] (fun i wr => ∃ (q : Nat) (v : Later W1.heap.size W1), q ≤ bit es.length ∧ i = .int .i64 q ∧ wr = v.val ∧ Hid (∀ b', b' < q → ¬ TwR n es need p b')) (fun i _ => bit es.length - (intOf i).toNat)
    case atStart => exact ⟨0, v1, by omega, rfl, rfl, Lib.hid (fun a' ha => by omega)⟩
    case round =>
      obtain ⟨q, v, hq, rfl, rfl, HB⟩ := hrel
      rcases ile (q : Int) ((bit es.length : Int) - 1) with ⟨hlt2, d0⟩ | ⟨hlt2, d0⟩
      case inr =>
        have HA2 : Hid (∀ a', a' < p + 1 → ∀ b', b' < bit es.length → ¬ TwR n es need a' b') := Lib.hid (fun a' ha b' hb => by
          by_cases c : a' = p
          · subst c; exact HB.out b' (by omega)
          · exact HA.out a' (by omega) b' hb)
        clear HA HB
        go_wp2_with (first | (go_at_call 59; ((with_reducible refine (KA1.out _).mono ?_); rintro e _ ⟨rfl, v1, rfl⟩)))
        go_roundw
        case rel => exact ⟨p+1, v1, by omega, by go_num, rfl, HA2⟩
        case measure => simp [intOf]; omega
      have HBn : Hid (¬ TwR n es need p q → ∀ b', b' < q + 1 → ¬ TwR n es need p b') := Lib.hid (fun hn b' hb => by
        by_cases c : b' = q
        · subst c; exact hn
        · exact HB.out b' (by omega))
      have HHit : Hid (TwR n es need p q → x = p ∧ y = q ∧ e = 0) := Lib.hid (fun h => HT.out.hit (by omega) (by omega) h HA.out HB.out)
      have KS1 := Lib.hid (fun v : Later W1.heap.size W1 => c_size v p (by omega))
      have KS2 := Lib.hid (fun v : Later W1.heap.size W1 => c_size v q (by omega))
      have hand := i64_and p q (by omega) (by omega)
      clear HB
      by_cases h1 : p &&& q = 0
      case neg =>
        have d1 : (((p &&& q : Nat) : Int) != 0) = true := by rw [bne_iff_ne]; omega
        have HN := Lib.hid (HBn.out (fun h => h1 h.1))
        clear h1 HBn HHit
        generalize p &&& q = pq at *
        go_wp2_with (first | (go_at_call 59; ((with_reducible refine (KA1.out _).mono ?_); rintro e _ ⟨rfl, v1, rfl⟩)))
        go_roundw
        case rel => exact ⟨q+1, v1, by omega, by go_num, rfl, HN⟩
        case measure => simp [intOf]; omega
      rw [h1] at hand
      by_cases h2 : sz p = sz q
      case neg =>
        have d1 : ((sz p : Int) != (sz q : Int)) = true := by rw [bne_iff_ne]; omega
        have HN := Lib.hid (HBn.out (fun h => h2 h.2.1))
        clear h2 HBn HHit
        generalize sz p = zp at *
        generalize sz q = zq at *
        go_wp2_with (first | (go_at_call 59; ((with_reducible refine (KA1.out _).mono ?_); rintro e _ ⟨rfl, v1, rfl⟩)) | (go_at_call 66; ((with_reducible refine (KS1.out _).mono ?_); rintro e _ ⟨rfl, v1, rfl⟩)) | (go_at_call 66; ((with_reducible refine (KS2.out _).mono ?_); rintro e _ ⟨rfl, v1, rfl⟩)))
        go_roundw
        case rel => exact ⟨q+1, v1, by omega, by go_num, rfl, HN⟩
        case measure => simp [intOf]; omega
      have HQ : Hid ((∃ v, need ≤ v ∧ v < bit n ∧ TwQ n es need p q v) → x = p ∧ y = q ∧ e = 0) := Lib.hid (fun h => HHit.out ⟨h1, h2, h⟩)
      have HQn : Hid ((∀ v, need ≤ v → v < bit n → ¬ TwQ n es need p q v) → ∀ b', b' < q + 1 → ¬ TwR n es need p b') := Lib.hid (fun h => HBn.out (fun ⟨_, _, v, h3, h4, h5⟩ => h v h3 h4 h5))
      rw [h2] at KS1
      clear h1 h2 HBn HHit
      generalize sz q = zq at *
      go_wp2_with (first | (go_at_call 59; ((with_reducible refine (KA1.out _).mono ?_); rintro e _ ⟨rfl, v1, rfl⟩)) | (go_at_call 66; ((with_reducible refine (KS1.out _).mono ?_); rintro e _ ⟨rfl, v1, rfl⟩)) | (go_at_call 66; ((with_reducible refine (KS2.out _).mono ?_); rintro e _ ⟨rfl, v1, rfl⟩)))
      clear hand KS1 KS2 d0
      go_loopw [12] (fun i wr => ∃ (k : Nat) (v : Later W1.heap.size W1), (need ≤ k ∧ (k ≤ bit n ∨ k = need)) ∧ i = .int .i64 k ∧ wr = v.val ∧ Hid (∀ v', need ≤ v' → v' < k → ¬ TwQ n es need p q v')) (fun i _ => bit n + need - (intOf i).toNat)
      case atStart => exact ⟨need, v1, ⟨by omega, .inr rfl⟩, rfl, rfl, Lib.hid (fun a' ha => by omega)⟩
      case round =>
        obtain ⟨k, v, hk, rfl, rfl, HC⟩ := hrel
        rcases ile (k : Int) ((bit n : Int) - 1) with ⟨hlt3, d0⟩ | ⟨hlt3, d0⟩
        case inr =>
          have HN := Lib.hid (HQn.out (fun v' h1 h2 => HC.out v' h1 (by omega)))
          clear HQn HQ HC
          go_wp2_with (first | (go_at_call 59; ((with_reducible refine (KA2.out _).mono ?_); rintro e _ ⟨rfl, v1, rfl⟩)))
          go_roundw
          case rel => exact ⟨q+1, v1, by omega, by go_num, rfl, HN⟩
          case measure => simp [intOf]; omega
        have HCn : Hid (¬ TwQ n es need p q k → ∀ v', need ≤ v' → v' < k + 1 → ¬ TwQ n es need p q v') := Lib.hid (fun hn v' h1 h2 => by
          by_cases c : v' = k
          · subst c; exact hn
          · exact HC.out v' h1 (by omega))
        have HHit : Hid (TwQ n es need p q k → x = p ∧ y = q ∧ e = 0) := Lib.hid (fun h => HQ.out ⟨k, hk.1, by omega, h⟩)
        have KW := Lib.hid (fun v : Later W1.heap.size W1 => c_within v need k (by omega) (by omega))
        clear HQ HC
        by_cases h1 : need ||| k = k
        case neg =>
          have K1 := Lib.hid (fun v => dcall_f (KW.out v) h1)
          have HN := Lib.hid (HCn.out (fun h => h1 (or_eq_iff.2 h.1)))
          clear h1 KW HCn HHit
          go_wp2_with (first | (go_at_call 59; ((with_reducible refine (KA2.out _).mono ?_); rintro e _ ⟨rfl, v1, rfl⟩)) | (go_at_call 60; ((with_reducible refine (K1.out _).mono ?_); rintro e _ ⟨rfl, v1, rfl⟩)))
          go_roundw
          case rel => exact ⟨k+1, v1, ⟨by omega, by omega⟩, by go_num, rfl, HN⟩
          case measure => simp [intOf]; omega
        have K1 := Lib.hid (fun v => dcall_t (KW.out v) h1)
        have HSub : Hid (sub need k) := Lib.hid (or_eq_iff.1 h1)
        clear h1 KW
        obtain ⟨f1, hf1⟩ := dec_ex (TrP n es p k)
        obtain ⟨f2, hf2⟩ := dec_ex (TrP n es q k)
        have KT1 := Lib.hid (fun v : Later W1.heap.size W1 => KT.out v p k f1 (by omega) (by omega) hf1)
        have KT2 := Lib.hid (fun v : Later W1.heap.size W1 => KT.out v q k f2 (by omega) (by omega) hf2)
        have HQ : Hid (TwQ n es need p q k ↔ f1 = true ∧ f2 = true) := Lib.hid (by
          rw [hf1, hf2]
          exact ⟨fun h => h.2, fun h => ⟨HSub.out, h⟩⟩)
        clear hf1 hf2 HSub
        rcases btf f1 with rfl | rfl
        · rcases btf f2 with rfl | rfl
          · obtain ⟨rfl, rfl, rfl⟩ := HHit.out (HQ.out.2 ⟨rfl, rfl⟩)
            clear HHit HCn HQ HT
            go_wp2_with (first | (go_at_call 59; ((with_reducible refine (KA2.out _).mono ?_); rintro e _ ⟨rfl, v1, rfl⟩)) | (go_at_call 60; ((with_reducible refine (K1.out _).mono ?_); rintro e _ ⟨rfl, v1, rfl⟩)) | (go_at_call 94; ((with_reducible refine (KT1.out _).mono ?_); rintro e _ ⟨rfl, v1, rfl⟩)) | (go_at_call 94; ((with_reducible refine (KT2.out _).mono ?_); rintro e _ ⟨rfl, v1, rfl⟩)))
            go_ret3
            exact Ret.of (HV.out v1) rfl
          · have HN := Lib.hid (HCn.out (fun h => by have := (HQ.out.1 h).2; cases this))
            clear HHit HCn HQ
            go_wp2_with (first | (go_at_call 59; ((with_reducible refine (KA2.out _).mono ?_); rintro e _ ⟨rfl, v1, rfl⟩)) | (go_at_call 60; ((with_reducible refine (K1.out _).mono ?_); rintro e _ ⟨rfl, v1, rfl⟩)) | (go_at_call 94; ((with_reducible refine (KT1.out _).mono ?_); rintro e _ ⟨rfl, v1, rfl⟩)) | (go_at_call 94; ((with_reducible refine (KT2.out _).mono ?_); rintro e _ ⟨rfl, v1, rfl⟩)))
            go_roundw
            case rel => exact ⟨k+1, v1, ⟨by omega, by omega⟩, by go_num, rfl, HN⟩
            case measure => simp [intOf]; omega
        · have HN := Lib.hid (HCn.out (fun h => by have := (HQ.out.1 h).1; cases this))
          clear HHit HCn HQ
          go_wp2_with (first | (go_at_call 59; ((with_reducible refine (KA2.out _).mono ?_); rintro e _ ⟨rfl, v1, rfl⟩)) | (go_at_call 60; ((with_reducible refine (K1.out _).mono ?_); rintro e _ ⟨rfl, v1, rfl⟩)) | (go_at_call 94; ((with_reducible refine (KT1.out _).mono ?_); rintro e _ ⟨rfl, v1, rfl⟩)))
          go_roundw
          case rel => exact ⟨k+1, v1, ⟨by omega, by omega⟩, by go_num, rfl, HN⟩
          case measure => simp [intOf]; omega

end Go.Proofs.Ytcljgnmlpfddiaa
