/-
  rotaref.Joined, rotaref.Over.
-/
import Derived.Test.YtcljgnmlpfddiaaGameHang
namespace Go.Proofs.Ytcljgnmlpfddiaa
open Go.RowKit
set_option linter.unusedVariables false

set_option maxRecDepth 100000 in
set_option maxHeartbeats 4000000 in
theorem c_joined {B : Nat} {W : World} (u : Later B W) (n s t x : Nat) (es : List (Int × Int)) (a : Option Addr) (cap : Nat) (h : EdgesAt B W a es) (hG : isGraph (n : Int) es) (hs : s < 8) (ht : t < 8) (hx : x < 256) :
    Calls Try.prog 92 #[.agg #[.int .i64 n, .slice a es.length cap], .int .i64 x, .int .i64 s, .int .i64 t] u.val (Ret B W (.bool (led n es s t x))) := by
  have hn7 : n ≤ 7 := by have := hG.2.1; omega
  have he8 : es.length ≤ 8 := hG.2.2.1
  have hbs := bit_cast s
  have hb0 := bit_lt s hs
  have T0 : Hid (Two (u.val.alloc (.cells #[.int .i64 n, .slice a es.length cap] 27)) u.val.heap.size 27 (.int .i64 n) (.slice a es.length cap)) := Lib.hid (Two.new _ _ _ _)
  have hr : u.val.heap.size < (u.val.alloc (.cells #[.int .i64 n, .slice a es.length cap] 27)).heap.size := by simp
  have HV : Hid (∀ v : Later (u.val.alloc (.cells #[.int .i64 n, .slice a es.length cap] 27)).heap.size (u.val.alloc (.cells #[.int .i64 n, .slice a es.length cap] 27)), ∃ w : Later B W, w.val = v.val) := Lib.hid (fun v => ⟨(u.alloc _).up v, rfl⟩)
  have HE : Hid (EdgesAt (u.val.alloc (.cells #[.int .i64 n, .slice a es.length cap] 27)).heap.size (u.val.alloc (.cells #[.int .i64 n, .slice a es.length cap] 27)) a es) := Lib.hid (h.to (u.alloc _))
  have HRL := Lib.hid (fun k => reachT_lt (n := (n : Int)) (es := es) (by omega) hG.2.2.2 (x := x) hs k)
  have HRE : Hid (∀ p k, p < 256 → k ≤ es.length → reachE es x p k < 256) := Lib.hid (fun p k hp hk => reachE_lt (n := (n : Int)) (by omega) hG.2.2.2 hp hk)
  have HG := Lib.hid hG
  clear h hG
  go_enter Try.func92, Try.ntmps92
  go_wp2
  generalize hr2 : u.val.heap.size = r at *
  generalize u.val.alloc (.cells #[.int .i64 n, .slice a es.length cap] 27) = W1 at *
  clear hr2 u
  go_loopw [9, 10] (fun o i wr => ∃ (k : Nat) (v : Later W1.heap.size W1), k ≤ n ∧ i = .int .i64 k ∧ o = .int .i64 (reachT es x s k) ∧ wr = v.val) (fun _ i _ => n - (intOf i).toNat)
  case atStart => exact ⟨0, Later.self _, by omega, rfl, rfl, rfl⟩
  case round =>
    obtain ⟨k, v, hk, rfl, rfl, rfl⟩ := hrel
    have hp := HRL.out k
    have q0 := (T0.out.keep_at v.below hr).c0
    by_cases hlt : k < n
    · have HK1 : Hid (reachT es x s (k+1) = reachE es x (reachT es x s k) es.length) := Lib.hid rfl
      generalize reachT es x s k = p at *
      go_wp2
      clear q0
      go_loopw [9, 11] (fun o i wr => ∃ (q : Nat) (v : Later W1.heap.size W1), q ≤ es.length ∧ i = .int .i64 q ∧ o = .int .i64 (reachE es x p q) ∧ wr = v.val) (fun _ i _ => es.length - (intOf i).toNat)
      case atStart => exact ⟨0, v, by omega, rfl, rfl, rfl⟩
      case round =>
        clear v
        obtain ⟨q, v, hq, rfl, rfl, rfl⟩ := hrel
        have q1 := (T0.out.keep_at v.below hr).c1
        by_cases hlt2 : q < es.length
        · obtain ⟨be, offe, rfl, hbe, hce⟩ := HE.out.at hlt2
          have e0 := (hce v q hlt2).1
          have e1 := (hce v q hlt2).2
          have HX := HG.out.2.2.2 q hlt2
          obtain ⟨y, hy⟩ := Int.eq_ofNat_of_zero_le HX.1
          obtain ⟨z, hz⟩ := Int.eq_ofNat_of_zero_le HX.2.1
          have HSt : Hid (reachE es x p (q+1) = if x.testBit q = true ∧ ((reachE es x p q).testBit y = true ∨ (reachE es x p q).testBit z = true) then reachE es x p q ||| (bit y ||| bit z) else reachE es x p q) := Lib.hid (by show (if _ then _ else _) = _; rw [hy, hz]; rfl)
          rw [hy, hz] at HX
          have hy7 : y < 7 := by omega
          have hz7 : z < 7 := by omega
          rw [hy] at e0
          rw [hz] at e1
          have hp2 := HRE.out p q hp hq
          clear HX hy hz hce
          generalize reachE es x p q = c at *
          have b1 := bit_cast y
          have b2 := bit_cast z
          have b3 := bit_lt y (by omega)
          have b4 := bit_lt z (by omega)
          have w1 := IntWalk.i64_in (bit y : Int) (by omega)
          have w2 := IntWalk.i64_in (bit z : Int) (by omega)
          have o1 := i64_or (bit y) (bit z) (by omega) (by omega)
          have hbz := or_lt (bit y) (bit z) (by omega) (by omega)
          have o2 := i64_or c (bit y ||| bit z) (by omega) (by omega)
          have T1 : Hid (Two (v.val.alloc (.cells #[.int .i64 y, .int .i64 z] 63)) v.val.heap.size 63 (.int .i64 y) (.int .i64 z)) := Lib.hid (Two.new _ _ _ _)
          have c0 : ∀ w : Later (v.val.alloc (.cells #[.int .i64 y, .int .i64 z] 63)).heap.size (v.val.alloc (.cells #[.int .i64 y, .int .i64 z] 63)), w.val.cell? ⟨v.val.heap.size, 0, none⟩ = some (.int .i64 y) := fun w => (T1.out.keep w.below).c0
          have c1 : ∀ w : Later (v.val.alloc (.cells #[.int .i64 y, .int .i64 z] 63)).heap.size (v.val.alloc (.cells #[.int .i64 y, .int .i64 z] 63)), w.val.cell? ⟨v.val.heap.size, 1, none⟩ = some (.int .i64 z) := fun w => (T1.out.keep w.below).c1
          have K0 : Hid (Calls Try.prog 21 #[.int .i64 x, .int .i64 q] (v.val.alloc (.cells #[.int .i64 y, .int .i64 z] 63)) (Ret (v.val.alloc (.cells #[.int .i64 y, .int .i64 z] 63)).heap.size (v.val.alloc (.cells #[.int .i64 y, .int .i64 z] 63)) (.bool (x.testBit q)))) := Lib.hid (c_in (Later.self _) x q (by omega) (by omega))
          have K1 := Lib.hid (fun w : Later (v.val.alloc (.cells #[.int .i64 y, .int .i64 z] 63)).heap.size (v.val.alloc (.cells #[.int .i64 y, .int .i64 z] 63)) => c_in w c y (by omega) (by omega))
          have K2 := Lib.hid (fun w : Later (v.val.alloc (.cells #[.int .i64 y, .int .i64 z] 63)).heap.size (v.val.alloc (.cells #[.int .i64 y, .int .i64 z] 63)) => c_in w c z (by omega) (by omega))
          rcases btf (x.testBit q) with g0 | g0 <;> rcases btf (c.testBit y) with g1 | g1 <;> rcases btf (c.testBit z) with g2 | g2
          all_goals
            rw [g0] at K0
            rw [g1] at K1
            rw [g2] at K2
            rw [g0, g1, g2] at HSt
            clear g0 g1 g2
          case inl.inl.inl | inl.inl.inr | inl.inr.inl =>
            go_wp2_with (first | (go_at_call 21; ((with_reducible refine (K0.out).mono ?_); rintro e _ ⟨rfl, v2, rfl⟩)) | (go_at_call 21; ((with_reducible refine (K1.out _).mono ?_); rintro e _ ⟨rfl, v2, rfl⟩)) | (go_at_call 21; ((with_reducible refine (K2.out _).mono ?_); rintro e _ ⟨rfl, v2, rfl⟩)))
            refine wp_region_later_tail v2 9 (by kernel_rfl) (by kernel_rfl) (fun v3 => ?_)
            simp only [List.take_succ_cons, List.take_zero, List.drop_succ_cons, List.drop_zero]
            repeat still_step
            refine wpStill_nil ?_
            go_wp2
            go_roundw
            case rel => exact ⟨q+1, (v.alloc _).up v3, by omega, by go_num, vint (by rw [HSt.out]; rfl), rfl⟩
            case measure => simp [intOf]; omega
          all_goals
            go_wp2_with (first | (go_at_call 21; ((with_reducible refine (K0.out).mono ?_); rintro e _ ⟨rfl, v2, rfl⟩)) | (go_at_call 21; ((with_reducible refine (K1.out _).mono ?_); rintro e _ ⟨rfl, v2, rfl⟩)) | (go_at_call 21; ((with_reducible refine (K2.out _).mono ?_); rintro e _ ⟨rfl, v2, rfl⟩)))
            go_roundw
            case rel => exact ⟨q+1, (v.alloc (.cells #[.int .i64 y, .int .i64 z] 63)).up v2, by omega, by go_num, vint (by rw [HSt.out]; rfl), rfl⟩
            case measure => simp [intOf]; omega
        · have hqe : Hid (q = es.length) := Lib.hid (by omega)
          go_wp2
          go_roundw
          case rel => exact ⟨k+1, v, by omega, by go_num, vint (by rw [HK1.out, hqe.out]), rfl⟩
          case measure => simp [intOf]; omega
    · have hke : k = n := by omega
      subst hke
      have KT := Lib.hid (c_in v (reachT es x s k) t (by omega) (by omega))
      go_wp2_with (first | (go_at_call 21; refine (KT.out).mono ?_; rintro e _ ⟨rfl, v2, rfl⟩))
      go_ret
      exact Ret.of (HV.out v2) rfl

theorem nand_all {m : Nat} (hm : m ≤ 8) {c : Nat} (hc : c < bit m) : nand (bit m - 1) c = bit m - 1 - c := by
  have hb := bit_le m hm
  have : ∀ m : Fin 9, ∀ c : Fin 256, c.val < bit m.val → nand (bit m.val - 1) c.val = bit m.val - 1 - c.val := by decide +kernel
  exact this ⟨m, by omega⟩ ⟨c, by omega⟩ hc
/-- has one won? -/
def overV (H : Nat → Bool) (m j c : Nat) : Int := if H j = true then 1 else if H (nand (bit m - 1) c) = true then 0 else 2

set_option maxRecDepth 100000 in
set_option maxHeartbeats 4000000 in
theorem c_over {B : Nat} {W : World} (u : Later B W) (n s t j c : Nat) (es : List (Int × Int)) (a : Option Addr) (cap : Nat) (h : EdgesAt B W a es) (hG : isGraph (n : Int) es) (hs : s < 8) (ht : t < 8) (hj : j < bit es.length) (hc : c < bit es.length) :
    Calls Try.prog 20 #[.agg #[.int .i64 n, .slice a es.length cap], .int .i64 s, .int .i64 t, .int .i64 j, .int .i64 c] u.val (Ret B W (.int .i64 (overV (led n es s t) es.length j c))) := by
  have he8 : es.length ≤ 8 := hG.2.2.1
  have hbm := bit_le es.length he8
  have T0 : Hid (Two (u.val.alloc (.cells #[.int .i64 n, .slice a es.length cap] 27)) u.val.heap.size 27 (.int .i64 n) (.slice a es.length cap)) := Lib.hid (Two.new _ _ _ _)
  have hr : u.val.heap.size < (u.val.alloc (.cells #[.int .i64 n, .slice a es.length cap] 27)).heap.size := by simp
  have HV : Hid (∀ v : Later (u.val.alloc (.cells #[.int .i64 n, .slice a es.length cap] 27)).heap.size (u.val.alloc (.cells #[.int .i64 n, .slice a es.length cap] 27)), ∃ w : Later B W, w.val = v.val) := Lib.hid (fun v => ⟨(u.alloc _).up v, rfl⟩)
  have K0 : Hid (Calls Try.prog 92 #[.agg #[.int .i64 n, .slice a es.length cap], .int .i64 j, .int .i64 s, .int .i64 t] (u.val.alloc (.cells #[.int .i64 n, .slice a es.length cap] 27)) (Ret (u.val.alloc (.cells #[.int .i64 n, .slice a es.length cap] 27)).heap.size (u.val.alloc (.cells #[.int .i64 n, .slice a es.length cap] 27)) (.bool (led n es s t j)))) := Lib.hid (c_joined (Later.self _) n s t j es a cap (h.to (u.alloc _)) hG hs ht (by omega))
  have K1 : Hid (∀ w : Later (u.val.alloc (.cells #[.int .i64 n, .slice a es.length cap] 27)).heap.size (u.val.alloc (.cells #[.int .i64 n, .slice a es.length cap] 27)), Calls Try.prog 92 #[.agg #[.int .i64 n, .slice a es.length cap], .int .i64 ((bit es.length : Int) - 1 - (c : Int)), .int .i64 s, .int .i64 t] w.val (Ret (u.val.alloc (.cells #[.int .i64 n, .slice a es.length cap] 27)).heap.size (u.val.alloc (.cells #[.int .i64 n, .slice a es.length cap] 27)) (.bool (led n es s t (nand (bit es.length - 1) c))))) := Lib.hid (fun w => by
    have := c_joined w n s t (nand (bit es.length - 1) c) es a cap (h.to (u.alloc _)) hG hs ht (by rw [nand_all he8 hc]; omega)
    rwa [show ((nand (bit es.length - 1) c : Nat) : Int) = (bit es.length : Int) - 1 - (c : Int) by rw [nand_all he8 hc]; omega] at this)
  have K2 : Hid (∀ w : Later (u.val.alloc (.cells #[.int .i64 n, .slice a es.length cap] 27)).heap.size (u.val.alloc (.cells #[.int .i64 n, .slice a es.length cap] 27)), Calls Try.prog 59 #[.int .i64 (es.length : Int)] w.val (Ret (u.val.alloc (.cells #[.int .i64 n, .slice a es.length cap] 27)).heap.size (u.val.alloc (.cells #[.int .i64 n, .slice a es.length cap] 27)) (.int .i64 ((bit es.length : Int) - 1)))) := Lib.hid (fun w => by
    have := c_all w (es.length : Int) (by omega) (by omega)
    rwa [all_nat, show ((bit es.length - 1 : Nat) : Int) = (bit es.length : Int) - 1 by omega] at this)
  have HO : Hid (overV (led n es s t) es.length j c = if led n es s t j = true then 1 else if led n es s t (nand (bit es.length - 1) c) = true then 0 else 2) := Lib.hid rfl
  have w1 := IntWalk.i64_in ((bit es.length : Int) - 1 - (c : Int)) (by omega)
  have q0 : ∀ w : Later (u.val.alloc (.cells #[.int .i64 n, .slice a es.length cap] 27)).heap.size (u.val.alloc (.cells #[.int .i64 n, .slice a es.length cap] 27)), w.val.cell? ⟨u.val.heap.size, 0, none⟩ = some (.int .i64 n) := fun w => (T0.out.keep w.below).c0
  have q1 : ∀ w : Later (u.val.alloc (.cells #[.int .i64 n, .slice a es.length cap] 27)).heap.size (u.val.alloc (.cells #[.int .i64 n, .slice a es.length cap] 27)), w.val.cell? ⟨u.val.heap.size, 1, none⟩ = some (.slice a es.length cap) := fun w => (T0.out.keep w.below).c1
  generalize overV (led n es s t) es.length j c = ov at *
  clear h hG T0
  generalize led n es s t j = p at *
  generalize led n es s t (nand (bit es.length - 1) c) = q at *
  go_enter Try.func20, Try.ntmps20
  cases p
  · go_wp2_with (first | (go_at_call 92; ((with_reducible refine (K0.out).mono ?_); rintro e _ ⟨rfl, v2, rfl⟩)))
    refine wp_region_later v2 (by kernel_rfl) (by kernel_rfl) (fun _ => ?_)
    repeat (first | go_big_quiet_step ((first | (go_at_call 92; exact K1.out _) | (go_at_call 59; exact K2.out _))) | (refine wpQuiet_step (fun K hK => ?_); go_simp; refine ⟨_, fun _ => rfl, ?_⟩; refine hK _ ?_; clear hK K))
    refine wpQuiet_nil ?_
    intro v2
    cases q
    all_goals
      go_wp2
      go_ret
      exact Ret.of (HV.out v2) (vint (by rw [HO.out]; rfl))
  · go_wp2_with (first | (go_at_call 92; ((with_reducible refine (K0.out).mono ?_); rintro e _ ⟨rfl, v2, rfl⟩)))
    go_ret
    exact Ret.of (HV.out v2) (vint (by rw [HO.out]; rfl))

end Go.Proofs.Ytcljgnmlpfddiaa
