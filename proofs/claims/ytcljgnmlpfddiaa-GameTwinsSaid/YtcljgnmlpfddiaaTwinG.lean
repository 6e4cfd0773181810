/-
  game.Twins.
-/
import Derived.Deep.CutRange
import Derived.Deep.CutBlock
import Derived.Test.YtcljgnmlpfddiaaTwinR
import Derived.Test.YtcljgnmlpfddiaaGameCheck
namespace Go.Proofs.Ytcljgnmlpfddiaa
open Go.RowKit
set_option linter.unusedVariables false

theorem c_spansP {B : Nat} {W : World} (u : Later B W) (n x s : Nat) (r : Bool) (es : List (Int × Int)) (a : Option Addr) (cap : Nat) (h : EdgesAt B W a es) (hG : isGraph (n : Int) es) (hx : x < 256) (hs : s < 256) (h0 : s ≠ 0) (hr : r = true ↔ SpP n es x s) :
    Calls Try.prog 93 #[.agg #[.int .i64 n, .slice a es.length cap], .int .i64 x, .int .i64 s] u.val (Ret B W (.bool r)) := by
  obtain ⟨d, hd, h1, _⟩ := low_facts s hs h0
  refine c_spans u n x s d r es a cap h hG hx hs hd h1 ?_
  rw [hr]
  constructor
  · rintro ⟨d', hd', h2, h3⟩
    have : d' = d := by
      have h4 := congrArg (fun x => x.testBit d) (show bit d' = bit d by rw [← h1, h2])
      simp only [testBit_bit] at h4
      simpa using h4
    rw [← this]; exact h3
  · intro h; exact ⟨d, hd, h1, h⟩
theorem and_sub {need v : Nat} : v &&& need = need ↔ sub need v := by
  constructor
  · intro h i hi
    have : (v &&& need).testBit i = true := by rw [h]; exact hi
    rw [Nat.testBit_and] at this
    simp at this; exact this.1
  · intro h
    apply Nat.eq_of_testBit_eq
    intro i
    rw [Nat.testBit_and]
    cases c : need.testBit i
    · simp
    · rw [h i c]; rfl

set_option maxRecDepth 100000 in
set_option maxHeartbeats 4000000 in
theorem c_twins_no {B : Nat} {W : World} (u : Later B W) (n s t : Int) (es : List (Int × Int)) (a : Option Addr) (cap : Nat) (h : EdgesAt B W a es) (hlen : es.length ≤ 4611686018427387904) (hp : ¬ isPos n es s t 0 0) :
    Calls Try.prog 22 #[.agg #[.int .i64 n, .slice a es.length cap], .int .i64 s, .int .i64 t] u.val (Ret B W (.tuple #[.int .i64 0, .int .i64 0, .int .i64 1])) := by
  have T0 : Hid (Two (u.val.alloc (.cells #[.int .i64 n, .slice a es.length cap] 27)) u.val.heap.size 27 (.int .i64 n) (.slice a es.length cap)) := Lib.hid (Two.new _ _ _ _)
  have KC : Hid (Calls Try.prog 18 #[.agg #[.int .i64 n, .slice a es.length cap], .int .i64 s, .int .i64 t, .int .i64 0, .int .i64 0] (u.val.alloc (.cells #[.int .i64 n, .slice a es.length cap] 27)) (Ret B W (.int .i64 1))) := Lib.hid (by
    have := c_gameCheck (u.alloc (.cells #[.int .i64 n, .slice a es.length cap] 27)) n s t 0 0 es a cap h hlen (by decide) (by decide)
    rwa [← errno_bad hp] at this)
  have q0 := T0.out.c0
  have q1 := T0.out.c1
  clear h hp
  go_enter Try.func22, Try.ntmps22
  go_wp2_with (first | (go_at_call 18; refine (KC.out).mono ?_; rintro e _ ⟨rfl, v1, rfl⟩))
  go_ret3
  exact Ret.mk v1 rfl

set_option maxRecDepth 100000 in
set_option maxHeartbeats 8000000 in
theorem c_twins {B : Nat} {W : World} (u : Later B W) (n s t : Nat) (x y e : Int) (es : List (Int × Int)) (a : Option Addr) (cap : Nat) (h : EdgesAt B W a es) (hP : isPos (n : Int) es s t 0 0) (hT : TwIs es.length (TwG n es (bit s ||| bit t)) x y e) :
    Calls Try.prog 22 #[.agg #[.int .i64 n, .slice a es.length cap], .int .i64 s, .int .i64 t] u.val (Ret B W (.tuple #[.int .i64 x, .int .i64 y, .int .i64 e])) := by
  have hG := hP.1
  have hn7 : n ≤ 7 := by have := hG.2.1; omega
  have hsn : s < n := by have := hP.2.1; omega
  have htn : t < n := by have := hP.2.1; omega
  have hs : s < 8 := by omega
  have ht : t < 8 := by omega
  have he8 : es.length ≤ 8 := hG.2.2.1
  have hbe := bit_le _ he8
  have hbec := bit_cast es.length
  have hbn := bit_le n (by omega)
  have bs := bit_cast s
  have bt := bit_cast t
  have bs1 := bit_lt s hs
  have bt1 := bit_lt t ht
  have o1 := i64_or (bit s) (bit t) (by omega) (by omega)
  have hnd := or_lt (bit s) (bit t) (by omega) (by omega)
  have hndn : bit s ||| bit t < bit n := or_lt_bit (bit_lt_bit hsn) (bit_lt_bit htn)
  have hnd0 : bit s ||| bit t ≠ 0 := fun e => by have := Nat.left_le_or (n := bit s) (m := bit t); omega
  have w1 := IntWalk.i64_in (bit s : Int) (by omega)
  have w2 := IntWalk.i64_in (bit t : Int) (by omega)
  have T0 : Hid (Two (u.val.alloc (.cells #[.int .i64 n, .slice a es.length cap] 27)) u.val.heap.size 27 (.int .i64 n) (.slice a es.length cap)) := Lib.hid (Two.new _ _ _ _)
  have hE : EdgesAt (u.val.alloc (.cells #[.int .i64 n, .slice a es.length cap] 27)).heap.size (u.val.alloc (.cells #[.int .i64 n, .slice a es.length cap] 27)) a es := h.to (u.alloc _)
  have HV : Hid (∀ v : Later (u.val.alloc (.cells #[.int .i64 n, .slice a es.length cap] 27)).heap.size (u.val.alloc (.cells #[.int .i64 n, .slice a es.length cap] 27)), ∃ w : Later B W, w.val = v.val) := Lib.hid (fun v => ⟨(u.alloc _).up v, rfl⟩)
  have q0 : ∀ w : Later (u.val.alloc (.cells #[.int .i64 n, .slice a es.length cap] 27)).heap.size (u.val.alloc (.cells #[.int .i64 n, .slice a es.length cap] 27)), w.val.cell? ⟨u.val.heap.size, 0, none⟩ = some (.int .i64 n) := fun w => (T0.out.keep w.below).c0
  have q1 : ∀ w : Later (u.val.alloc (.cells #[.int .i64 n, .slice a es.length cap] 27)).heap.size (u.val.alloc (.cells #[.int .i64 n, .slice a es.length cap] 27)), w.val.cell? ⟨u.val.heap.size, 1, none⟩ = some (.slice a es.length cap) := fun w => (T0.out.keep w.below).c1
  have KC : Hid (Calls Try.prog 18 #[.agg #[.int .i64 n, .slice a es.length cap], .int .i64 s, .int .i64 t, .int .i64 0, .int .i64 0] (u.val.alloc (.cells #[.int .i64 n, .slice a es.length cap] 27)) (Ret (u.val.alloc (.cells #[.int .i64 n, .slice a es.length cap] 27)).heap.size (u.val.alloc (.cells #[.int .i64 n, .slice a es.length cap] 27)) (.int .i64 0))) := Lib.hid (by
    have := c_gameCheck (Later.self (u.val.alloc (.cells #[.int .i64 n, .slice a es.length cap] 27))) n s t 0 0 es a cap hE (by omega) (by decide) (by decide)
    rwa [← errno_ok hP] at this)
  have HG := Lib.hid hG
  have HE := Lib.hid hE
  have HT := Lib.hid hT
  have HL7 : Hid (∀ a k, k ≤ es.length → vOf es (bit s ||| bit t) a k < bit n) := Lib.hid (fun a k hk => vOf_lt (Grf.of hG) hk hndn)
  have p0 := q0 (Later.self _)
  have p0' : (u.val.alloc (.cells #[.int .i64 n, .slice a es.length cap] 27)).cell? ⟨u.val.heap.size, 0, none⟩ = some (.int .i64 n) := p0
  have p1 := q1 (Later.self _)
  have p1' : (u.val.alloc (.cells #[.int .i64 n, .slice a es.length cap] 27)).cell? ⟨u.val.heap.size, 1, none⟩ = some (.slice a es.length cap) := p1
  clear h T0 hG hE hT hP p0 p1
  go_enter Try.func22, Try.ntmps22
  go_upto_region 4 with (first | (go_at_call 18; ((with_reducible refine (KC.out).mono ?_); rintro e _ ⟨rfl, y0, rfl⟩)))
  clear KC p0' p1'
  generalize u.val.alloc (.cells #[.int .i64 n, .slice a es.length cap] 27) = W1 at *
  generalize u.val.heap.size = gu at *
  have KSp := Lib.hid (fun (v : Later W1.heap.size W1) (x s : Nat) (d : Bool) (hx : x < 256) (hs : s < 256) (h0 : s ≠ 0) (hd : d = true ↔ SpP n es x s) => c_spansP v n x s d es a cap HE.out HG.out hx hs h0 hd)
  refine wp_region_later y0 (by kernel_rfl) (by kernel_rfl) (fun _ => ?_)
  repeat (first | go_big_quiet_step ((fail)) | (refine wpQuiet_step (fun K hK => ?_); go_simp; refine ⟨_, fun _ => rfl, ?_⟩; refine hK _ ?_; clear hK K))
  refine wpQuiet_nil ?_
  intro y0
  generalize hnd1 : bit s ||| bit t = need at *
  clear hnd1 bs bt bs1 bt1 o1 w1 w2 hsn htn hs ht
  go_wp2
  go_loopw [32] (fun i wr => ∃ (p : Nat) (v : Later W1.heap.size W1), p ≤ bit es.length ∧ i = .int .i64 p ∧ wr = v.val ∧ Hid (∀ a', a' < p → ∀ b', b' < bit es.length → ¬ TwG n es need a' b')) (fun i _ => bit es.length - (intOf i).toNat)
  case atStart => exact ⟨0, y0, by omega, rfl, rfl, Lib.hid (fun a' ha => by omega)⟩
  case round =>
    obtain ⟨p, v, hp, rfl, rfl, HA⟩ := hrel
    rcases nlt p (bit es.length) with ⟨hlt, d0⟩ | ⟨hlt, d0⟩
    case inr =>
      obtain ⟨rfl, rfl, rfl⟩ := HT.out.miss (fun a' ha b' hb => HA.out a' (by omega) b' hb)
      clear HT HA
      have d0' : decide ((p : Int) < (bit es.length : Int)) = false := decide_eq_false (by omega)
      go_wp2
      go_ret3
      exact Ret.of (HV.out v) rfl
    have d0' : decide ((p : Int) < (bit es.length : Int)) = true := decide_eq_true (by omega)
    have HAn : Hid ((∀ b', b' < bit es.length → ¬ TwG n es need p b') → ∀ a', a' < p + 1 → ∀ b', b' < bit es.length → ¬ TwG n es need a' b') := Lib.hid (fun hn a' ha b' hb => by
      by_cases c : a' = p
      · subst c; exact hn b' hb
      · exact HA.out a' (by omega) b' hb)
    have HHit : Hid (∀ q, q < bit es.length → TwG n es need p q → (∀ b', b' < q → ¬ TwG n es need p b') → x = p ∧ y = q ∧ e = 0) := Lib.hid (fun q hq h hB => HT.out.hit hlt hq h HA.out hB)
    have hv00 : vOf es need p 0 = if p = 0 then need else 0 := rfl
    have HV0 := Lib.hid hv00
    have HVs := Lib.hid (vOf_step es need p)
    have HVl : Hid (∀ k, k ≤ es.length → vOf es need p k < bit n) := Lib.hid (fun k hk => HL7.out p k hk)
    have HTw : Hid (∀ q, TwG n es need p q ↔ sub need (vOf es need p es.length) ∧ SpP n es p (vOf es need p es.length) ∧ p &&& q = 0 ∧ SpP n es q (vOf es need p es.length)) := Lib.hid (fun q => Iff.rfl)
    clear HT HA hv00
    have HDisj : Hid ((p = 0 ∧ vOf es need p 0 = need ∧ ((p : Int) != 0) = false) ∨ (p ≠ 0 ∧ vOf es need p 0 = 0 ∧ ((p : Int) != 0) = true)) := Lib.hid (by
      by_cases c : p = 0
      · exact .inl ⟨c, by rw [HV0.out, if_pos c], by rw [c]; rfl⟩
      · exact .inr ⟨c, by rw [HV0.out, if_neg c], by rw [bne_iff_ne]; omega⟩)
    generalize hvf : vOf es need p = vf at *
    clear hvf HV0
    rcases HDisj.out with ⟨hp0, hv0, dp⟩ | ⟨hp0, hv0, dp⟩
    all_goals
      have Hp0 := Lib.hid hp0
      clear hp0 HDisj
      go_wp2
      clear d0 d0'
      go_loopw [12, 41] (fun o i wr => ∃ (k : Nat) (v : Later W1.heap.size W1), k ≤ es.length ∧ i = .int .i64 k ∧ o = .int .i64 (vf k) ∧ wr = v.val) (fun _ i _ => es.length - (intOf i).toNat)
      case atStart => exact ⟨0, v, by omega, rfl, (congrArg (fun x : Nat => Value.int .i64 (x : Int)) hv0.symm), rfl⟩
      case round =>
        obtain ⟨k, v, hk, rfl, rfl, rfl⟩ := hrel
        have hvk := HVl.out k hk
        have hStep := HVs.out k
        have HStep := Lib.hid hStep
        clear hStep
        rcases nlt k es.length with ⟨hlt2, d0⟩ | ⟨hlt2, d0⟩
        · have d0' : decide ((k : Int) < (es.length : Int)) = true := decide_eq_true (by omega)
          obtain ⟨be, offe, rfl, hbe2, hce⟩ := HE.out.at hlt2
          have HX := HG.out.2.2.2 k hlt2
          obtain ⟨yy, hyy⟩ := Int.eq_ofNat_of_zero_le HX.1
          obtain ⟨zz, hzz⟩ := Int.eq_ofNat_of_zero_le HX.2.1
          have hvy : vA es k = yy := by unfold vA; rw [hyy]; rfl
          have hvz : vB es k = zz := by unfold vB; rw [hzz]; rfl
          rw [hyy, hzz] at HX
          rw [hvy, hvz] at HStep
          have e0 := (hce v k hlt2).1
          have e1 := (hce v k hlt2).2
          rw [hyy] at e0
          rw [hzz] at e1
          have hy7 : yy < 7 := by omega
          have hz7 : zz < 7 := by omega
          clear HX hyy hzz hce hvy hvz
          generalize hvkk : vf k = c at *
          have b1 := bit_cast yy
          have b2 := bit_cast zz
          have b3 := bit_lt yy (by omega)
          have b4 := bit_lt zz (by omega)
          have i0 := i64_bit p k (by omega) (by omega)
          have bq := bit_cast k
          have o1 := i64_or (bit yy) (bit zz) (by omega) (by omega)
          have hbz := or_lt (bit yy) (bit zz) (by omega) (by omega)
          have o2 := i64_or c (bit yy ||| bit zz) (by omega) (by omega)
          have w1 := IntWalk.i64_in (bit yy : Int) (by omega)
          have w2 := IntWalk.i64_in (bit zz : Int) (by omega)
          have T1 : Hid (Two (v.val.alloc (.cells #[.int .i64 yy, .int .i64 zz] 63)) v.val.heap.size 63 (.int .i64 yy) (.int .i64 zz)) := Lib.hid (Two.new _ _ _ _)
          have c0 : ∀ w : Later (v.val.alloc (.cells #[.int .i64 yy, .int .i64 zz] 63)).heap.size (v.val.alloc (.cells #[.int .i64 yy, .int .i64 zz] 63)), w.val.cell? ⟨v.val.heap.size, 0, none⟩ = some (.int .i64 yy) := fun w => (T1.out.keep w.below).c0
          have c1 : ∀ w : Later (v.val.alloc (.cells #[.int .i64 yy, .int .i64 zz] 63)).heap.size (v.val.alloc (.cells #[.int .i64 yy, .int .i64 zz] 63)), w.val.cell? ⟨v.val.heap.size, 1, none⟩ = some (.int .i64 zz) := fun w => (T1.out.keep w.below).c1
          rcases btf (p.testBit k) with g0 | g0
          · rw [g0] at i0
            rw [if_pos g0] at HStep
            clear g0
            go_wp2
            obtain ⟨vq, hvq⟩ : ∃ vq : Later (v.val.alloc (.cells #[.int .i64 yy, .int .i64 zz] 63)).heap.size (v.val.alloc (.cells #[.int .i64 yy, .int .i64 zz] 63)), vq.val = v.val.alloc (.cells #[.int .i64 yy, .int .i64 zz] 63) := ⟨Later.self _, rfl⟩
            rw [← hvq]
            clear hvq
            refine wp_region_later vq (by kernel_rfl) (by kernel_rfl) (fun _ => ?_)
            repeat (first | go_big_quiet_step ((fail)) | (refine wpQuiet_step (fun K hK => ?_); go_simp; refine ⟨_, fun _ => rfl, ?_⟩; refine hK _ ?_; clear hK K))
            refine wpQuiet_nil ?_
            intro vq
            go_wp2
            go_roundw
            case rel => exact ⟨k+1, (v.alloc (.cells #[.int .i64 yy, .int .i64 zz] 63)).up vq, by omega, by go_num, vint (by rw [HStep.out]), rfl⟩
            case measure => simp [intOf]; omega
          · rw [g0] at i0
            rw [if_neg (by rw [g0]; decide)] at HStep
            clear g0
            go_wp2
            go_roundw
            case rel => exact ⟨k+1, v.alloc (.cells #[.int .i64 yy, .int .i64 zz] 63), by omega, by go_num, vint (by rw [HStep.out]), rfl⟩
            case measure => simp [intOf]; omega
        · have hke : k = es.length := by omega
          subst hke
          clear HStep HVs HVl hk hlt2
          have d0' : decide ((es.length : Int) < (es.length : Int)) = false := decide_eq_false (by omega)
          generalize vf es.length = c at *
          have hand := i64_and c need (by omega) (by omega)
          by_cases h1 : c &&& need = need
          case neg =>
            have d1 : (((c &&& need : Nat) : Int) != (need : Int)) = true := by rw [bne_iff_ne]; omega
            have HN := Lib.hid (HAn.out (fun b' hb h => h1 (and_sub.2 ((HTw.out b').1 h).1)))
            clear h1 HAn HHit HTw
            generalize c &&& need = cn at *
            go_wp2
            go_roundw
            case rel => exact ⟨p+1, v, by omega, by go_num, rfl, HN⟩
            case measure => simp [intOf]; omega
          rw [h1] at hand
          have HSub := Lib.hid (and_sub.1 h1)
          have hc0 : c ≠ 0 := fun e => by subst e; simp at h1; omega
          have d1 : ((need : Int) != (need : Int)) = false := by simp
          clear h1
          obtain ⟨f1, hf1⟩ := dec_ex (SpP n es p c)
          have KS1 := Lib.hid (fun v : Later W1.heap.size W1 => KSp.out v p c f1 (by omega) (by omega) hc0 hf1)
          rcases btf f1 with rfl | rfl
          case inr =>
            have HN := Lib.hid (HAn.out (fun b' hb h => by have := hf1.2 ((HTw.out b').1 h).2.1; cases this))
            clear hf1 HAn HHit HTw
            go_wp2_with (first | (go_at_call 93; ((with_reducible refine (KS1.out _).mono ?_); rintro e _ ⟨rfl, v1, rfl⟩)))
            go_roundw
            case rel => exact ⟨p+1, v1, by omega, by go_num, rfl, HN⟩
            case measure => simp [intOf]; omega
          have HT2 : Hid (∀ q, TwG n es need p q ↔ p &&& q = 0 ∧ SpP n es q c) := Lib.hid (fun q => by
            rw [HTw.out q]
            exact ⟨fun h => h.2.2, fun h => ⟨HSub.out, hf1.1 rfl, h⟩⟩)
          clear hf1 HTw HSub
          go_wp2_with (first | (go_at_call 93; ((with_reducible refine (KS1.out _).mono ?_); rintro e _ ⟨rfl, v1, rfl⟩)))
          clear hand KS1 d0 d0' d1
          go_loopw [77] (fun i wr => ∃ (q : Nat) (v : Later W1.heap.size W1), q ≤ bit es.length ∧ i = .int .i64 q ∧ wr = v.val ∧ Hid (∀ b', b' < q → ¬ TwG n es need p b')) (fun i _ => bit es.length - (intOf i).toNat)
          case atStart => exact ⟨0, v1, by omega, rfl, rfl, Lib.hid (fun a' ha => by omega)⟩
          case round =>
            obtain ⟨q, v, hq, rfl, rfl, HB⟩ := hrel
            rcases nlt q (bit es.length) with ⟨hlt2, d0⟩ | ⟨hlt2, d0⟩
            case inr =>
              have d0' : decide ((q : Int) < (bit es.length : Int)) = false := decide_eq_false (by omega)
              have HN := Lib.hid (HAn.out (fun b' hb => HB.out b' (by omega)))
              clear HAn HHit HB
              go_wp2
              go_roundw
              case rel => exact ⟨p+1, v, by omega, by go_num, rfl, HN⟩
              case measure => simp [intOf]; omega
            have d0' : decide ((q : Int) < (bit es.length : Int)) = true := decide_eq_true (by omega)
            have HBn : Hid (¬ TwG n es need p q → ∀ b', b' < q + 1 → ¬ TwG n es need p b') := Lib.hid (fun hn b' hb => by
              by_cases c : b' = q
              · subst c; exact hn
              · exact HB.out b' (by omega))
            have hand := i64_and p q (by omega) (by omega)
            by_cases h1 : p &&& q = 0
            case neg =>
              have d1 : (((p &&& q : Nat) : Int) == 0) = false := by rw [beq_eq_false_iff_ne]; omega
              have HN := Lib.hid (HBn.out (fun h => h1 ((HT2.out q).1 h).1))
              clear h1 HBn HB HAn
              generalize p &&& q = pq at *
              go_wp2
              go_roundw
              case rel => exact ⟨q+1, v, by omega, by go_num, rfl, HN⟩
              case measure => simp [intOf]; omega
            rw [h1] at hand
            obtain ⟨f2, hf2⟩ := dec_ex (SpP n es q c)
            have KS2 := Lib.hid (fun v : Later W1.heap.size W1 => KSp.out v q c f2 (by omega) (by omega) hc0 hf2)
            rcases btf f2 with rfl | rfl
            · obtain ⟨rfl, rfl, rfl⟩ := HHit.out q hlt2 ((HT2.out q).2 ⟨h1, hf2.1 rfl⟩) HB.out
              clear HHit h1 hf2 HBn HB HAn HT2
              go_wp2_with (first | (go_at_call 93; ((with_reducible refine (KS2.out _).mono ?_); rintro e _ ⟨rfl, v1, rfl⟩)))
              go_ret3
              exact Ret.of (HV.out v1) rfl
            · have HN := Lib.hid (HBn.out (fun h => by have := hf2.2 ((HT2.out q).1 h).2; cases this))
              clear HHit h1 hf2 HBn HB HAn
              go_wp2_with (first | (go_at_call 93; ((with_reducible refine (KS2.out _).mono ?_); rintro e _ ⟨rfl, v1, rfl⟩)))
              go_roundw
              case rel => exact ⟨q+1, v1, by omega, by go_num, rfl, HN⟩
              case measure => simp [intOf]; omega

end Go.Proofs.Ytcljgnmlpfddiaa
