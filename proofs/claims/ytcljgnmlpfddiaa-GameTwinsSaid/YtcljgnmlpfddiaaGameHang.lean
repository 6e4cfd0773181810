/-
  What some edges lead to: game.hangs and rotaref.Joined; rotaref.Over.
-/
import Derived.Test.YtcljgnmlpfddiaaGamePlain
import Derived.Test.YtcljgnmlpfddiaaTold
namespace Go.Proofs.Ytcljgnmlpfddiaa
open Go.RowKit
set_option linter.unusedVariables false

set_option maxRecDepth 100000 in
set_option maxHeartbeats 4000000 in
theorem c_hangs {B : Nat} {W : World} (u : Later B W) (n s t x : Nat) (es : List (Int × Int)) (a : Option Addr) (cap : Nat) (h : EdgesAt B W a es) (hG : isGraph (n : Int) es) (hs : s < 8) (ht : t < 8) (hx : x < 256) :
    Calls Try.prog 90 #[.agg #[.int .i64 n, .slice a es.length cap], .int .i64 s, .int .i64 t, .int .i64 x] u.val (Ret B W (.bool (led n es s t x))) := by
  have hn7 : n ≤ 7 := by have := hG.2.1; omega
  have he8 : es.length ≤ 8 := hG.2.2.1
  have hbs := bit_cast s
  have hb0 := bit_lt s hs
  have T0 : Hid (Two (u.val.alloc (.cells #[.int .i64 n, .slice a es.length cap] 27)) u.val.heap.size 27 (.int .i64 n) (.slice a es.length cap)) := Lib.hid (Two.new _ _ _ _)
  have hr : u.val.heap.size < (u.val.alloc (.cells #[.int .i64 n, .slice a es.length cap] 27)).heap.size := by simp
  have HV : Hid (∀ v : Later (u.val.alloc (.cells #[.int .i64 n, .slice a es.length cap] 27)).heap.size (u.val.alloc (.cells #[.int .i64 n, .slice a es.length cap] 27)), ∃ w : Later B W, w.val = v.val) := Lib.hid (fun v => ⟨(u.alloc _).up v, rfl⟩)
  have HE : Hid (EdgesAt (u.val.alloc (.cells #[.int .i64 n, .slice a es.length cap] 27)).heap.size (u.val.alloc (.cells #[.int .i64 n, .slice a es.length cap] 27)) a es) := Lib.hid (h.to (u.alloc _))
  have HRL := Lib.hid (fun k => reachT_lt (n := (n : Int)) (es := es) (by omega) hG.2.2.2 (x := x) hs k)
  have HRE : Hid (∀ p k, p < 256 → k ≤ es.length → reachE es x p k < 256) := Lib.hid (fun p k hp hk => reachE_lt (n := (n : Int)) (by omega) hG.2.2.2 hp hk)
  have HG := Lib.hid hG
  clear h hG
  go_enter Try.func90, Try.ntmps90
  go_wp2
  generalize hr2 : u.val.heap.size = r at *
  generalize u.val.alloc (.cells #[.int .i64 n, .slice a es.length cap] 27) = W1 at *
  clear hr2 u
  go_loopw [9, 16] (fun o i wr => ∃ (k : Nat) (v : Later W1.heap.size W1), k ≤ n ∧ i = .int .i64 k ∧ o = .int .i64 (reachT es x s k) ∧ wr = v.val) (fun _ i _ => n - (intOf i).toNat)
  case atStart => exact ⟨0, Later.self _, by omega, rfl, rfl, rfl⟩
  case round =>
    obtain ⟨k, v, hk, rfl, rfl, rfl⟩ := hrel
    have hp := HRL.out k
    by_cases hlt : k < n
    · have q1 := (T0.out.keep_at v.below hr).c1
      have HK1 : Hid (reachT es x s (k+1) = reachE es x (reachT es x s k) es.length) := Lib.hid rfl
      generalize reachT es x s k = p at *
      go_wp2
      clear q1
      go_loopw [9, 21] (fun o i wr => ∃ (q : Nat) (v : Later W1.heap.size W1), q ≤ es.length ∧ i = .int .i64 q ∧ o = .int .i64 (reachE es x p q) ∧ wr = v.val) (fun _ i _ => es.length - (intOf i).toNat)
      case atStart => exact ⟨0, v, by omega, rfl, rfl, rfl⟩
      case round =>
        clear v
        obtain ⟨q, v, hq, rfl, rfl, rfl⟩ := hrel
        by_cases hlt2 : q < es.length
        · obtain ⟨be, offe, rfl, hbe, hce⟩ := HE.out.at hlt2
          have e0 := (hce v q hlt2).1
          have e1 := (hce v q hlt2).2
          have HX := HG.out.2.2.2 q hlt2
          obtain ⟨y, hy⟩ := Int.eq_ofNat_of_zero_le HX.1
          obtain ⟨z, hz⟩ := Int.eq_ofNat_of_zero_le HX.2.1
          have HSt : Hid (reachE es x p (q+1) = if x.testBit q = true ∧ ((reachE es x p q).testBit y = true ∨ (reachE es x p q).testBit z = true) then reachE es x p q ||| (bit y ||| bit z) else reachE es x p q) := Lib.hid (by show (if _ then _ else _) = _; rw [hy, hz]; rfl)
          rw [hy, hz] at HX
          have hy7 : y < 7 := by omega
          have hz7 : z < 7 := by omega
          rw [hy] at e0
          rw [hz] at e1
          have hp2 := HRE.out p q hp hq
          clear HX hy hz hce
          generalize reachE es x p q = c at *
          have b1 := bit_cast y
          have b2 := bit_cast z
          have b3 := bit_lt y (by omega)
          have b4 := bit_lt z (by omega)
          have i0 := i64_bit x q hx (by omega)
          have i1 := i64_bit c y hp2 (by omega)
          have i2 := i64_bit c z hp2 (by omega)
          have bq := bit_cast q
          have o1 := i64_or (bit y) (bit z) (by omega) (by omega)
          have hbz := or_lt (bit y) (bit z) (by omega) (by omega)
          have o2 := i64_or c (bit y ||| bit z) (by omega) (by omega)
          have T1 : Hid (Two (v.val.alloc (.cells #[.int .i64 y, .int .i64 z] 63)) v.val.heap.size 63 (.int .i64 y) (.int .i64 z)) := Lib.hid (Two.new _ _ _ _)
          have c0 : ∀ w : Later (v.val.alloc (.cells #[.int .i64 y, .int .i64 z] 63)).heap.size (v.val.alloc (.cells #[.int .i64 y, .int .i64 z] 63)), w.val.cell? ⟨v.val.heap.size, 0, none⟩ = some (.int .i64 y) := fun w => (T1.out.keep w.below).c0
          have c1 : ∀ w : Later (v.val.alloc (.cells #[.int .i64 y, .int .i64 z] 63)).heap.size (v.val.alloc (.cells #[.int .i64 y, .int .i64 z] 63)), w.val.cell? ⟨v.val.heap.size, 1, none⟩ = some (.int .i64 z) := fun w => (T1.out.keep w.below).c1
          rcases btf (x.testBit q) with g0 | g0 <;> rcases btf (c.testBit y) with g1 | g1 <;> rcases btf (c.testBit z) with g2 | g2
          all_goals
            rw [g0] at i0
            rw [g1] at i1
            rw [g2] at i2
            rw [g0, g1, g2] at HSt
            clear g0 g1 g2
          case inl.inl.inl | inl.inl.inr | inl.inr.inl =>
            have w1 := IntWalk.i64_in (bit y : Int) (by omega)
            have w2 := IntWalk.i64_in (bit z : Int) (by omega)
            go_wp2
            refine wp_region_later_tail (Later.self (v.val.alloc (.cells #[.int .i64 y, .int .i64 z] 63))) 9 (by kernel_rfl) (by kernel_rfl) (fun v2 => ?_)
            simp only [List.take_succ_cons, List.take_zero, List.drop_succ_cons, List.drop_zero]
            repeat still_step
            refine wpStill_nil ?_
            go_wp2
            go_roundw
            case rel => exact ⟨q+1, (v.alloc _).up v2, by omega, by go_num, vint (by rw [HSt.out]; rfl), rfl⟩
            case measure => simp [intOf]; omega
          all_goals
            go_wp2
            go_roundw
            case rel => exact ⟨q+1, v.alloc (.cells #[.int .i64 y, .int .i64 z] 63), by omega, by go_num, vint (by rw [HSt.out]; rfl), rfl⟩
            case measure => simp [intOf]; omega
        · have hqe : Hid (q = es.length) := Lib.hid (by omega)
          go_wp2
          go_roundw
          case rel => exact ⟨k+1, v, by omega, by go_num, vint (by rw [HK1.out, hqe.out]), rfl⟩
          case measure => simp [intOf]; omega
    · have hke : k = n := by omega
      subst hke
      have it := i64_bit (reachT es x s k) t hp ht
      have bt := bit_cast t
      have HL : Hid (led k es s t x = (reachT es x s k).testBit t) := Lib.hid rfl
      rcases btf ((reachT es x s k).testBit t) with g | g
      all_goals
        rw [g] at it HL
        clear g
        go_wp2
        go_ret
        exact Ret.of (HV.out v) (vbool (by rw [HL.out]))

end Go.Proofs.Ytcljgnmlpfddiaa
