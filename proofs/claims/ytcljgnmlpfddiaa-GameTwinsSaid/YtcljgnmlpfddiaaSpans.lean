/-
  game.spans.
-/
import Derived.Deep.CutRange
import Derived.Deep.CutBlock
import Derived.Test.YtcljgnmlpfddiaaLbl
import Derived.Test.YtcljgnmlpfddiaaGameHang
namespace Go.Proofs.Ytcljgnmlpfddiaa
open Go.RowKit
set_option linter.unusedVariables false

theorem meets2 {y z c : Nat} : (((bit y ||| bit z) &&& c : Nat) != 0) = (c.testBit y || c.testBit z) := by
  rw [Bool.eq_iff_iff, bne_iff_ne, Bool.or_eq_true]
  constructor
  · intro h
    apply Classical.byContradiction
    intro g
    apply h
    apply Nat.eq_of_testBit_eq
    intro i
    rw [Nat.testBit_and, Nat.testBit_or, testBit_bit, testBit_bit, Nat.zero_testBit]
    have g1 : c.testBit y = false := by cases k : c.testBit y; rfl; exact absurd (.inl k) g
    have g2 : c.testBit z = false := by cases k : c.testBit z; rfl; exact absurd (.inr k) g
    by_cases e1 : y = i
    · subst e1; simp [g1]
    · by_cases e2 : z = i
      · subst e2; simp [g2]
      · simp [e1, e2]
  · intro h e
    rcases h with h | h
    · have := congrArg (fun k => k.testBit y) e
      simp only [Nat.testBit_and, Nat.testBit_or, testBit_bit, Nat.zero_testBit, h] at this
      simp at this
    · have := congrArg (fun k => k.testBit z) e
      simp only [Nat.testBit_and, Nat.testBit_or, testBit_bit, Nat.zero_testBit, h] at this
      simp at this

set_option maxRecDepth 100000 in
set_option maxHeartbeats 8000000 in
theorem c_spans {B : Nat} {W : World} (u : Later B W) (n x s d : Nat) (r : Bool) (es : List (Int × Int)) (a : Option Addr) (cap : Nat) (h : EdgesAt B W a es) (hG : isGraph (n : Int) es) (hx : x < 256) (hs : s < 256) (hd8 : d < 8) (hlow : low s = bit d) (hr : r = true ↔ Sp n es x s d) :
    Calls Try.prog 93 #[.agg #[.int .i64 n, .slice a es.length cap], .int .i64 x, .int .i64 s] u.val (Ret B W (.bool r)) := by
  have hn7 : n ≤ 7 := by have := hG.2.1; omega
  have he8 : es.length ≤ 8 := hG.2.2.1
  have T0 : Hid (Two (u.val.alloc (.cells #[.int .i64 n, .slice a es.length cap] 27)) u.val.heap.size 27 (.int .i64 n) (.slice a es.length cap)) := Lib.hid (Two.new _ _ _ _)
  have hrr : u.val.heap.size < (u.val.alloc (.cells #[.int .i64 n, .slice a es.length cap] 27)).heap.size := by simp
  have HV : Hid (∀ v : Later (u.val.alloc (.cells #[.int .i64 n, .slice a es.length cap] 27)).heap.size (u.val.alloc (.cells #[.int .i64 n, .slice a es.length cap] 27)), ∃ w : Later B W, w.val = v.val) := Lib.hid (fun v => ⟨(u.alloc _).up v, rfl⟩)
  have HE : Hid (EdgesAt (u.val.alloc (.cells #[.int .i64 n, .slice a es.length cap] 27)).heap.size (u.val.alloc (.cells #[.int .i64 n, .slice a es.length cap] 27)) a es) := Lib.hid (h.to (u.alloc _))
  have HRL := Lib.hid (fun k => reachT_lt (n := (n : Int)) (es := es) (by omega) hG.2.2.2 (x := x) hd8 k)
  have HRE : Hid (∀ p k, p < 256 → k ≤ es.length → reachE es x p k < 256) := Lib.hid (fun p k hp hk => reachE_lt (n := (n : Int)) (by omega) hG.2.2.2 hp hk)
  have HG := Lib.hid hG
  have HR : Hid (r = true ↔ sz x + 1 = sz s ∧ reachT es x d n = s) := Lib.hid hr
  have KO1 := Lib.hid (fun v : Later (u.val.alloc (.cells #[.int .i64 n, .slice a es.length cap] 27)).heap.size (u.val.alloc (.cells #[.int .i64 n, .slice a es.length cap] 27)) => c_ones v s hs)
  have KO2 := Lib.hid (fun v : Later (u.val.alloc (.cells #[.int .i64 n, .slice a es.length cap] 27)).heap.size (u.val.alloc (.cells #[.int .i64 n, .slice a es.length cap] 27)) => c_ones v x hx)
  have KO1' : Hid (Calls Try.prog 140 #[.int .u64 s] (u.val.alloc (.cells #[.int .i64 n, .slice a es.length cap] 27)) (Ret (u.val.alloc (.cells #[.int .i64 n, .slice a es.length cap] 27)).heap.size (u.val.alloc (.cells #[.int .i64 n, .slice a es.length cap] 27)) (.int .i64 (sz s)))) := Lib.hid (KO1.out (Later.self _))
  have hz1 := sz_le s
  have hz2 := sz_le x
  have w0 := IntWalk.i64_in ((sz s : Int) - 1) (by omega)
  have hlw := i64_low s hs
  rw [hlow] at hlw
  have hbs := bit_cast d
  have hb0 := bit_lt d hd8
  clear h hG hr KO1
  by_cases hz : sz x + 1 = sz s
  case neg =>
    have dz : ((sz x : Int) != (sz s : Int) - 1) = true := by rw [bne_iff_ne]; omega
    have hrf : r = false := by
      cases c : r
      · rfl
      · exact absurd (HR.out.1 c).1 hz
    subst hrf
    clear hz HRL HRE HR
    generalize sz s = zs at *
    generalize sz x = zx at *
    go_enter Try.func93, Try.ntmps93
    go_wp2_with (first | (go_at_call 140; ((with_reducible refine (KO1'.out).mono ?_); rintro e _ ⟨rfl, v2, rfl⟩)) | (go_at_call 140; ((with_reducible refine (KO2.out _).mono ?_); rintro e _ ⟨rfl, v2, rfl⟩)))
    go_ret
    exact Ret.of (HV.out v2) rfl
  have dz : ((sz x : Int) != (sz s : Int) - 1) = false := by rw [bne_eq_false_iff_eq]; omega
  have HR2 : Hid (r = true ↔ reachT es x d n = s) := Lib.hid ⟨fun h => (HR.out.1 h).2, fun h => HR.out.2 ⟨hz, h⟩⟩
  clear hz HR
  generalize sz s = zs at *
  generalize sz x = zx at *
  go_enter Try.func93, Try.ntmps93
  go_upto_region 5 with (first | (go_at_call 140; ((with_reducible refine (KO1'.out).mono ?_); rintro e _ ⟨rfl, v2, rfl⟩)) | (go_at_call 140; ((with_reducible refine (KO2.out _).mono ?_); rintro e _ ⟨rfl, v3, rfl⟩)))
  clear KO1' KO2 dz w0 hlw
  generalize hr2 : u.val.heap.size = r0 at *
  generalize u.val.alloc (.cells #[.int .i64 n, .slice a es.length cap] 27) = W1 at *
  clear hr2 u
  have q0' := (T0.out.keep_at v3.below hrr).c0
  go_wp2
  go_loopw [8, 27] (fun o i wr => ∃ (k : Nat) (v : Later W1.heap.size W1), k ≤ n ∧ i = .int .i64 k ∧ o = .int .i64 (reachT es x d k) ∧ wr = v.val) (fun _ i _ => n - (intOf i).toNat)
  case atStart => exact ⟨0, v3, by omega, rfl, rfl, rfl⟩
  case round =>
    clear q0'
    obtain ⟨k, v, hk, rfl, rfl, rfl⟩ := hrel
    have hp := HRL.out k
    by_cases hlt : k < n
    · have q1 := (T0.out.keep_at v.below hrr).c1
      have HK1 : Hid (reachT es x d (k+1) = reachE es x (reachT es x d k) es.length) := Lib.hid rfl
      generalize reachT es x d k = p at *
      go_wp2
      clear q1
      go_loopw [8, 32] (fun o i wr => ∃ (q : Nat) (v : Later W1.heap.size W1), q ≤ es.length ∧ i = .int .i64 q ∧ o = .int .i64 (reachE es x p q) ∧ wr = v.val) (fun _ i _ => es.length - (intOf i).toNat)
      case atStart => exact ⟨0, v, by omega, rfl, rfl, rfl⟩
      case round =>
        obtain ⟨q, v, hq, rfl, rfl, rfl⟩ := hrel
        by_cases hlt2 : q < es.length
        · obtain ⟨be, offe, rfl, hbe, hce⟩ := HE.out.at hlt2
          have e0 := (hce v q hlt2).1
          have e1 := (hce v q hlt2).2
          have HX := HG.out.2.2.2 q hlt2
          obtain ⟨y, hy⟩ := Int.eq_ofNat_of_zero_le HX.1
          obtain ⟨z, hz⟩ := Int.eq_ofNat_of_zero_le HX.2.1
          have HSt : Hid (reachE es x p (q+1) = if x.testBit q = true ∧ ((reachE es x p q).testBit y = true ∨ (reachE es x p q).testBit z = true) then reachE es x p q ||| (bit y ||| bit z) else reachE es x p q) := Lib.hid (by show (if _ then _ else _) = _; rw [hy, hz]; rfl)
          rw [hy, hz] at HX
          have hy7 : y < 7 := by omega
          have hz7 : z < 7 := by omega
          rw [hy] at e0
          rw [hz] at e1
          have hp2 := HRE.out p q hp hq
          clear HX hy hz hce
          generalize reachE es x p q = c at *
          have b1 := bit_cast y
          have b2 := bit_cast z
          have b3 := bit_lt y (by omega)
          have b4 := bit_lt z (by omega)
          have i0 := i64_bit x q hx (by omega)
          have bq := bit_cast q
          have o1 := i64_or (bit y) (bit z) (by omega) (by omega)
          have hbz := or_lt (bit y) (bit z) (by omega) (by omega)
          have o3 := i64_and (bit y ||| bit z) c (by omega) (by omega)
          have o2 := i64_or c (bit y ||| bit z) (by omega) (by omega)
          have w1 := IntWalk.i64_in (bit y : Int) (by omega)
          have w2 := IntWalk.i64_in (bit z : Int) (by omega)
          have hm : (((((bit y ||| bit z) &&& c : Nat)) : Int) != 0) = (c.testBit y || c.testBit z) := by
            rw [← meets2, Bool.eq_iff_iff, bne_iff_ne, bne_iff_ne]; omega
          have T1 : Hid (Two (v.val.alloc (.cells #[.int .i64 y, .int .i64 z] 63)) v.val.heap.size 63 (.int .i64 y) (.int .i64 z)) := Lib.hid (Two.new _ _ _ _)
          have c0 : ∀ w : Later (v.val.alloc (.cells #[.int .i64 y, .int .i64 z] 63)).heap.size (v.val.alloc (.cells #[.int .i64 y, .int .i64 z] 63)), w.val.cell? ⟨v.val.heap.size, 0, none⟩ = some (.int .i64 y) := fun w => (T1.out.keep w.below).c0
          have c1 : ∀ w : Later (v.val.alloc (.cells #[.int .i64 y, .int .i64 z] 63)).heap.size (v.val.alloc (.cells #[.int .i64 y, .int .i64 z] 63)), w.val.cell? ⟨v.val.heap.size, 1, none⟩ = some (.int .i64 z) := fun w => (T1.out.keep w.below).c1
          rcases btf (x.testBit q) with g0 | g0 <;> rcases btf (c.testBit y) with g1 | g1 <;> rcases btf (c.testBit z) with g2 | g2
          all_goals
            rw [g0] at i0
            rw [g1, g2] at hm
            simp only [Bool.or_true, Bool.true_or, Bool.or_false] at hm
            rw [g0, g1, g2] at HSt
            clear g0 g1 g2
            generalize (bit y ||| bit z) &&& c = mm at *
            go_wp2
            obtain ⟨vq, hvq⟩ : ∃ vq : Later (v.val.alloc (.cells #[.int .i64 y, .int .i64 z] 63)).heap.size (v.val.alloc (.cells #[.int .i64 y, .int .i64 z] 63)), vq.val = v.val.alloc (.cells #[.int .i64 y, .int .i64 z] 63) := ⟨Later.self _, rfl⟩
            rw [← hvq]
            clear hvq
            refine wp_region_later vq (by kernel_rfl) (by kernel_rfl) (fun _ => ?_)
            repeat (first | go_big_quiet_step ((fail)) | (refine wpQuiet_step (fun K hK => ?_); go_simp; refine ⟨_, fun _ => rfl, ?_⟩; refine hK _ ?_; clear hK K))
            refine wpQuiet_nil ?_
            intro vq
            go_wp2
            go_roundw
            case rel => exact ⟨q+1, (v.alloc (.cells #[.int .i64 y, .int .i64 z] 63)).up vq, by omega, by go_num, vint (by rw [HSt.out]; rfl), rfl⟩
            case measure => simp [intOf]; omega
        · have hqe : Hid (q = es.length) := Lib.hid (by omega)
          go_wp2
          go_roundw
          case rel => exact ⟨k+1, v, by omega, by go_num, vint (by rw [HK1.out, hqe.out]), rfl⟩
          case measure => simp [intOf]; omega
    · have hke : k = n := by omega
      subst hke
      generalize reachT es x d k = p at *
      rcases ieq (p : Int) (s : Int) with ⟨g, d1, d2⟩ | ⟨g, d1, d2⟩
      · have hrt : r = true := HR2.out.2 (by omega)
        subst hrt
        go_wp2
        go_ret
        exact Ret.of (HV.out v) (vbool (by trivial))
      · have hrt : r = false := by
          cases c : r
          · rfl
          · exact absurd (HR2.out.1 c) (by omega)
        subst hrt
        go_wp2
        go_ret
        exact Ret.of (HV.out v) (vbool (by trivial))

end Go.Proofs.Ytcljgnmlpfddiaa
