
/-
  convex.joined.
-/
import Derived.Test.YtdhkobeagfmcnaaDoorCvB
namespace Go.Proofs.YtdhkobeagfmcnaaDoor
open Go.RowKit
set_option linter.unusedVariables false

theorem pair_in {y z v : Nat} : ((bit y ||| bit z) &&& v = bit y ||| bit z) ↔ (v.testBit y = true ∧ v.testBit z = true) := by
  constructor
  · intro h
    have hy := congrArg (fun t => t.testBit y) h
    have hz := congrArg (fun t => t.testBit z) h
    simp only [Nat.testBit_and, Nat.testBit_or, testBit_bit, decide_true, Bool.true_or, Bool.or_true, Bool.true_and] at hy hz
    exact ⟨hy, hz⟩
  · rintro ⟨h1, h2⟩
    apply Nat.eq_of_testBit_eq
    intro j
    simp only [Nat.testBit_and, Nat.testBit_or, testBit_bit]
    by_cases c1 : y = j
    · subst c1; simp [h1]
    · by_cases c2 : z = j
      · subst c2; simp [h2]
      · simp [c1, c2]
theorem pair_off {y z v : Nat} : ((bit y ||| bit z) &&& v = 0) ↔ (v.testBit y = false ∧ v.testBit z = false) := by
  constructor
  · intro h
    have hy := congrArg (fun t => t.testBit y) h
    have hz := congrArg (fun t => t.testBit z) h
    simp only [Nat.testBit_and, Nat.testBit_or, testBit_bit, decide_true, Bool.true_or, Bool.or_true, Bool.true_and, Nat.zero_testBit] at hy hz
    exact ⟨hy, hz⟩
  · rintro ⟨h1, h2⟩
    apply Nat.eq_of_testBit_eq
    intro j
    simp only [Nat.testBit_and, Nat.testBit_or, testBit_bit, Nat.zero_testBit]
    by_cases c1 : y = j
    · subst c1; simp [h1]
    · by_cases c2 : z = j
      · subst c2; simp [h2]
      · simp [c1, c2]

set_option maxRecDepth 100000 in
set_option maxHeartbeats 4000000 in
theorem c_joined0 {B : Nat} {W : World} (u : Later B W) (x0 : Int) (a : Option Addr) (q cap : Nat) :
    Calls Tryd.prog 27 #[.agg #[.int .i64 x0, .slice a q cap], .int .i64 0] u.val (Ret B W (.bool true)) := by
  have HV : Hid (∀ o, ∃ w : Later B W, w.val = u.val.alloc o) := Lib.hid (fun o => ⟨u.alloc o, rfl⟩)
  go_enter Tryd.func27, Tryd.ntmps27
  go_wp2
  go_ret
  exact Ret.of (HV.out _) rfl

set_option maxRecDepth 100000 in
set_option maxHeartbeats 20000000 in
theorem c_joined {B : Nat} {W : World} (u : Later B W) (n s d : Nat) (es : List (Int × Int)) (a : Option Addr) (cap : Nat) (h : EdgesAt B W a es) (hG : isGraph (n : Int) es) (hs : s < 256) (hs0 : s ≠ 0) (hd8 : d < 8) (hd : low s = bit d) :
    Calls Tryd.prog 27 #[.agg #[.int .i64 n, .slice a es.length cap], .int .i64 s] u.val (Ret B W (.bool (decide (reachT es (insT es s es.length) d n = s)))) := by
  have hn7 : n ≤ 7 := by have := hG.2.1; omega
  have he8 : es.length ≤ 8 := hG.2.2.1
  have T0 : Hid (Two (u.val.alloc (.cells #[.int .i64 n, .slice a es.length cap] 24)) u.val.heap.size 24 (.int .i64 n) (.slice a es.length cap)) := Lib.hid (Two.new _ _ _ _)
  have hr : u.val.heap.size < (u.val.alloc (.cells #[.int .i64 n, .slice a es.length cap] 24)).heap.size := by simp
  have HV : Hid (∀ v : Later (u.val.alloc (.cells #[.int .i64 n, .slice a es.length cap] 24)).heap.size (u.val.alloc (.cells #[.int .i64 n, .slice a es.length cap] 24)), ∃ w : Later B W, w.val = v.val) := Lib.hid (fun v => ⟨(u.alloc _).up v, rfl⟩)
  have HE : Hid (EdgesAt (u.val.alloc (.cells #[.int .i64 n, .slice a es.length cap] 24)).heap.size (u.val.alloc (.cells #[.int .i64 n, .slice a es.length cap] 24)) a es) := Lib.hid (h.to (u.alloc _))
  have HX0 : Hid (∀ q, q < es.length → (insT es s es.length).testBit q = inV es s q) := Lib.hid (fun q hq => by rw [insT_testBit, decide_eq_true hq, Bool.true_and])
  obtain ⟨x, hx⟩ : ∃ x, x = insT es s es.length := ⟨_, rfl⟩
  rw [← hx] at HX0 ⊢
  clear hx
  have HRL := Lib.hid (fun k => reachT_lt (n := (n : Int)) (es := es) (by omega) hG.2.2.2 (x := x) hd8 k)
  have HRE : Hid (∀ p k, p < 256 → k ≤ es.length → reachE es x p k < 256) := Lib.hid (fun p k hp hk => reachE_lt (n := (n : Int)) (by omega) hG.2.2.2 hp hk)
  have HG := Lib.hid hG
  have HR0 : Hid (reachT es x d 0 = low s) := Lib.hid (by rw [hd]; rfl)
  have il := i64_low s hs
  have wn : IntKind.i64.wrap (-(s : Int)) = -(s : Int) := IntWalk.i64_in _ (by omega)
  have d0 : ((s : Int) == 0) = false := by rw [beq_eq_false_iff_ne]; omega
  clear h hG hd
  generalize low s = lw at *
  go_enter Tryd.func27, Tryd.ntmps27
  go_wp2
  generalize hr2 : u.val.heap.size = r at *
  generalize u.val.alloc (.cells #[.int .i64 n, .slice a es.length cap] 24) = W1 at *
  clear hr2 u
  go_loopw [5, 17] (fun o i wr => ∃ (k : Nat) (v : Later W1.heap.size W1), k ≤ n ∧ i = .int .i64 k ∧ o = .int .i64 (reachT es x d k) ∧ wr = v.val) (fun _ i _ => n - (intOf i).toNat)
  case atStart => exact ⟨0, Later.self _, by omega, rfl, by rw [HR0.out], rfl⟩
  case round =>
    obtain ⟨k, v, hk, rfl, rfl, rfl⟩ := hrel
    have hp := HRL.out k
    by_cases hlt : k < n
    · have q1 := (T0.out.keep_at v.below hr).c1
      have HK1 : Hid (reachT es x d (k+1) = reachE es x (reachT es x d k) es.length) := Lib.hid rfl
      generalize reachT es x d k = p at *
      go_wp2
      clear q1
      go_loopw [5, 22] (fun o i wr => ∃ (q : Nat) (v : Later W1.heap.size W1), q ≤ es.length ∧ i = .int .i64 q ∧ o = .int .i64 (reachE es x p q) ∧ wr = v.val) (fun _ i _ => es.length - (intOf i).toNat)
      case atStart => exact ⟨0, v, by omega, rfl, rfl, rfl⟩
      case round =>
        clear v
        obtain ⟨q, v, hq, rfl, rfl, rfl⟩ := hrel
        by_cases hlt2 : q < es.length
        · obtain ⟨be, offe, rfl, hbe, hce⟩ := HE.out.at hlt2
          have e0 := (hce v q hlt2).1
          have e1 := (hce v q hlt2).2
          have HX := HG.out.2.2.2 q hlt2
          obtain ⟨y, hy⟩ := Int.eq_ofNat_of_zero_le HX.1
          obtain ⟨z, hz⟩ := Int.eq_ofNat_of_zero_le HX.2.1
          have HSt : Hid (reachE es x p (q+1) = if x.testBit q = true ∧ ((reachE es x p q).testBit y = true ∨ (reachE es x p q).testBit z = true) then reachE es x p q ||| (bit y ||| bit z) else reachE es x p q) := Lib.hid (by show (if _ then _ else _) = _; rw [hy, hz]; rfl)
          have HIn : Hid (x.testBit q = (s.testBit y && s.testBit z)) := Lib.hid (by
            rw [HX0.out q hlt2]
            unfold inV vA vB
            rw [hy, hz, Int.toNat_natCast, Int.toNat_natCast])
          rw [hy, hz] at HX
          have hy7 : y < 7 := by omega
          have hz7 : z < 7 := by omega
          rw [hy] at e0
          rw [hz] at e1
          have hp2 := HRE.out p q hp hq
          clear HX hy hz hce
          generalize reachE es x p q = c at *
          have b1 := bit_cast y
          have b2 := bit_cast z
          have b3 := bit_lt y (by omega)
          have b4 := bit_lt z (by omega)
          have o1 := i64_or (bit y) (bit z) (by omega) (by omega)
          have hbz := or_lt (bit y) (bit z) (by omega) (by omega)
          have o2 := i64_or c (bit y ||| bit z) (by omega) (by omega)
          have i1 := i64_and (bit y ||| bit z) s (by omega) (by omega)
          have i2 := i64_and (bit y ||| bit z) c (by omega) (by omega)
          have w1 : IntKind.i64.wrap (bit y : Int) = (bit y : Int) := IntWalk.i64_in (bit y : Int) (by omega)
          have w2 : IntKind.i64.wrap (bit z : Int) = (bit z : Int) := IntWalk.i64_in (bit z : Int) (by omega)
          have HA : Hid ((bit y ||| bit z) &&& s = bit y ||| bit z ↔ x.testBit q = true) := Lib.hid (by rw [pair_in, HIn.out, Bool.and_eq_true])
          have HB : Hid ((bit y ||| bit z) &&& c = 0 ↔ ¬ (c.testBit y = true ∨ c.testBit z = true)) := Lib.hid (by
            rw [pair_off]
            cases c.testBit y <;> cases c.testBit z <;> simp)
          have HT2 : Hid (Two (v.val.alloc (.cells #[.int .i64 y, .int .i64 z] 28)) v.val.heap.size 28 (.int .i64 y) (.int .i64 z)) := Lib.hid (Two.new _ _ _ _)
          obtain ⟨Z, hZ⟩ : ∃ Z, Z = v.val.alloc (.cells #[.int .i64 y, .int .i64 z] 28) := ⟨_, rfl⟩
          have HVU : Hid (∀ w : Later Z.heap.size Z, ∃ w' : Later W1.heap.size W1, w'.val = w.val) := Lib.hid (by rw [hZ]; exact fun w => ⟨(v.alloc _).up w, rfl⟩)
          go_upto_region 9 with fail
          rw [← hZ] at HT2 ⊢
          generalize v.val.heap.size = ge at *
          have c0 : ∀ w : Later Z.heap.size Z, w.val.cell? ⟨ge, 0, none⟩ = some (.int .i64 y) := fun w => (HT2.out.keep w.below).c0
          have c1 : ∀ w : Later Z.heap.size Z, w.val.cell? ⟨ge, 1, none⟩ = some (.int .i64 z) := fun w => (HT2.out.keep w.below).c1
          obtain ⟨z0, hz0⟩ : ∃ z0 : Later Z.heap.size Z, z0.val = Z := ⟨Later.self Z, rfl⟩
          have c0' : ∀ w : Later z0.val.heap.size z0.val, w.val.cell? ⟨ge, 0, none⟩ = some (.int .i64 y) := fun w => c0 (z0.up w)
          have c1' : ∀ w : Later z0.val.heap.size z0.val, w.val.cell? ⟨ge, 1, none⟩ = some (.int .i64 z) := fun w => c1 (z0.up w)
          rw [← hz0]
          clear hZ e0 e1 HT2 hz0 v HIn
          refine wp_region_later z0 (by kernel_rfl) (by kernel_rfl) (fun _ => ?_)
          repeat (first | go_big_quiet_step ((fail)) | (refine wpQuiet_step (fun K hK => ?_); go_simp; refine ⟨_, fun _ => rfl, ?_⟩; refine hK _ ?_; clear hK K))
          refine wpQuiet_nil ?_
          intro z0
          clear c0 c1 c0' c1'
          generalize bit y ||| bit z = P at *
          generalize P &&& s = m1 at *
          generalize P &&& c = m2 at *
          obtain ⟨w', hw'⟩ := HVU.out z0
          rcases ieq (m1 : Int) (P : Int) with ⟨g1, d1, d1'⟩ | ⟨g1, d1, d1'⟩ <;> rcases ieq (m2 : Int) 0 with ⟨g2, d2, d2'⟩ | ⟨g2, d2, d2'⟩
          case inl.inr =>
            have HN : Hid (reachE es x p (q + 1) = c ||| P) := Lib.hid (by
              rw [HSt.out, if_pos ⟨HA.out.1 (by omega), Classical.byContradiction fun h => by have := HB.out.2 h; omega⟩])
            clear HSt HA HB g1 g2
            go_wp2
            go_roundw
            case rel => exact ⟨q+1, w', by omega, by go_num, vint (by rw [HN.out]), hw'.symm⟩
            case measure => simp [intOf]; omega
          all_goals
            have HN : Hid (reachE es x p (q + 1) = c) := Lib.hid (by
              rw [HSt.out, if_neg]
              rintro ⟨h1, h2⟩
              have h3 := HA.out.2 h1
              have h4 : m2 ≠ 0 := fun e => HB.out.1 e h2
              omega)
            clear HSt HA HB g1 g2
            go_wp2
            go_roundw
            case rel => exact ⟨q+1, w', by omega, by go_num, vint (by rw [HN.out]), hw'.symm⟩
            case measure => simp [intOf]; omega
        · have hqe : Hid (q = es.length) := Lib.hid (by omega)
          go_wp2
          go_roundw
          case rel => exact ⟨k+1, v, by omega, by go_num, vint (by rw [HK1.out, hqe.out]), rfl⟩
          case measure => simp [intOf]; omega
    · have hke : k = n := by omega
      subst hke
      have HN : Hid (((reachT es x d k : Int) == (s : Int)) = decide (reachT es x d k = s)) := Lib.hid (by
        rw [Bool.eq_iff_iff, beq_iff_eq, decide_eq_true_eq]; omega)
      generalize reachT es x d k = z at *
      go_wp2
      go_ret
      exact Ret.of (HV.out v) (vbool HN.out)

end Go.Proofs.YtdhkobeagfmcnaaDoor
