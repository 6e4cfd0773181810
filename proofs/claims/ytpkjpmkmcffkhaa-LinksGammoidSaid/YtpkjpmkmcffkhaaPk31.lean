
/-
  links.Sets.
  rotaref.IsGraph.
-/
import Derived.Test.YtpkjpmkmcffkhaaPk30
import Derived.Test.YtpkjpmkmcffkhaaPk14
namespace Go.Proofs.Ytpkjpmkmcffkhaa
open Go.RowKit
set_option linter.unusedVariables false

/-- a vertex and where its first k edges lead -/
def setT (es : List (Int × Int)) (v : Nat) : Nat → Nat
  | 0 => bit v
  | k + 1 => if vA es k = v then setT es v k ||| bit (vB es k) else setT es v k
/-- of the first k vertices those that are not in a set -/
def lsT (es : List (Int × Int)) (tw : Nat) : Nat → List Nat
  | 0 => []
  | k + 1 => if tw.testBit k = true then lsT es tw k else lsT es tw k ++ [setT es k es.length]
theorem lsT_len (es : List (Int × Int)) (tw k : Nat) : (lsT es tw k).length ≤ k := by
  induction k with
  | zero => exact Nat.le_refl _
  | succ k ih =>
    simp only [lsT]
    split
    · omega
    · rw [List.length_append, List.length_cons, List.length_nil]; omega
theorem setT_lt {n : Nat} {es : List (Int × Int)} (hG : Grf n es) {v : Nat} (hv : v < n) : ∀ k, k ≤ es.length → setT es v k < 256 := by
  have hn := hG.n7
  intro k
  induction k with
  | zero => intro _; exact bit_lt256 v (by omega)
  | succ k ih =>
    intro hk
    simp only [setT]
    have h1 := ih (by omega)
    have h2 := bit_lt256 (vB es k) (by have := (hG.lt k (by omega)).2; omega)
    split
    · exact or_lt _ _ h1 h2
    · exact h1

set_option maxRecDepth 100000 in
set_option maxHeartbeats 16000000 in
theorem c_linksSets {B : Nat} {W : World} (u : Later B W) (n t : Int) (es : List (Int × Int)) (a : Option Addr) (cap : Nat) (e : Int) (xs' : List Int) (h : EdgesAt B W a es) (hlen : es.length ≤ 4611686018427387904) (he : e = errno (decide (lkOk n es [t])) 1)
    (hz : e ≠ 0 → xs' = []) (hy : ∀ m s : Nat, n = (m : Int) → t = (s : Int) → isGraph (m : Int) es → s < bit m → xs' = ints (lsT es s m)) :
    Calls Try.prog 11 #[.agg #[.int .i64 n, .slice a es.length cap], .int .i64 t] u.val (RetP B W (ListE xs' e)) := by
  have hB := u.size
  have HX1 : Hid (Two (u.val.alloc (.cells #[.int .i64 n, .slice a es.length cap] 24)) u.val.heap.size 24 (.int .i64 n) (.slice a es.length cap)) := Lib.hid (Two.new u.val _ _ _)
  have HVY : Hid (∀ v : Later (u.val.alloc (.cells #[.int .i64 n, .slice a es.length cap] 24)).heap.size (u.val.alloc (.cells #[.int .i64 n, .slice a es.length cap] 24)), ∃ w : Later B W, w.val = v.val) := Lib.hid (fun v => ⟨(u.alloc _).up v, rfl⟩)
  have HI : Hid (EdgesAt (u.val.alloc (.cells #[.int .i64 n, .slice a es.length cap] 24)).heap.size (u.val.alloc (.cells #[.int .i64 n, .slice a es.length cap] 24)) a es) := Lib.hid (h.to (u.alloc _))
  have HE := Lib.hid he
  have HY2 := Lib.hid hy
  have HNo := Lib.hid hz
  clear h he hy hz
  go_enter Try.func11, Try.ntmps11
  go_upto_region 1 with fail
  generalize (u.val.alloc (.cells #[.int .i64 n, .slice a es.length cap] 24)) = Y at *
  generalize u.val.heap.size = gu at *
  have q1 : ∀ v : Later Y.heap.size Y, v.val.cell? ⟨gu, 0, none⟩ = some (.int .i64 n) := fun v => (HX1.out.keep v.below).c0
  have q2 : ∀ v : Later Y.heap.size Y, v.val.cell? ⟨gu, 1, none⟩ = some (.slice a es.length cap) := fun v => (HX1.out.keep v.below).c1
  obtain ⟨z, hzz⟩ : ∃ z : Later Y.heap.size Y, z.val = Y := ⟨Later.self _, rfl⟩
  have KF : Hid (Calls Try.prog 25 #[.agg #[.int .i64 n, .slice a es.length cap], .slice (some ⟨z.val.heap.size, 0, none⟩) 1 1] (z.val.alloc (.cells #[.int .i64 t] 3)) (Ret (z.val.alloc (.cells #[.int .i64 t] 3)).heap.size (z.val.alloc (.cells #[.int .i64 t] 3)) (.int .i64 e))) := Lib.hid (by
    rw [HE.out]
    exact c_linksRight (Later.self (z.val.alloc (.cells #[.int .i64 t] 3))) n es [t] a _ cap 1 (HI.out.to (z.alloc _)) hlen (lit_one z t) (by simp))
  rw [← hzz]
  clear hzz
  have q1z := q1 z
  have q2z := q2 z
  by_cases hok : lkOk n es [t]
  case neg =>
    have e1 := Lib.hid (show e = 1 by rw [HE.out, decide_eq_false hok]; rfl)
    have hno := Lib.hid (HNo.out (by have := e1.out; omega))
    rw [e1.out] at KF
    clear hok
    go_upto_region 2 with (first | (go_at_call 25; (with_reducible refine (KF.out).mono ?_); rintro e _ ⟨rfl, v0', rfl⟩))
    obtain ⟨v0, hv0⟩ : ∃ v0 : Later Y.heap.size Y, v0.val = v0'.val := ⟨(z.alloc _).up v0', rfl⟩
    rw [← hv0]
    clear hv0
    go_wp2
    go_ret2
    rw [hno.out, e1.out]
    exact RetP.of (HVY.out v0) ListE.no
  have e1 := Lib.hid (show e = 0 by rw [HE.out, decide_eq_true hok]; rfl)
  obtain ⟨hG, ht0, ht1⟩ := lk_one.1 hok
  obtain ⟨m, rfl⟩ := Int.eq_ofNat_of_zero_le (show 0 ≤ n by have := hG.1; omega)
  obtain ⟨s0, rfl⟩ := Int.eq_ofNat_of_zero_le ht0
  have htw : s0 < bit m := by rw [show ((m : Int)).toNat = m by omega] at ht1; omega
  have hm7 : m ≤ 7 := by have := hG.2.1; omega
  have hb := bit_le m (by omega)
  have HXS := Lib.hid (HY2.out m s0 rfl rfl hG htw)
  rw [e1.out] at KF
  have HG := Lib.hid (Grf.of hG)
  have HGi := Lib.hid hG
  clear HY2 hok ht0 ht1 hG HE HNo
  go_upto_region 4 with (first | (go_at_call 25; (with_reducible refine (KF.out).mono ?_); rintro e _ ⟨rfl, v0', rfl⟩))
  obtain ⟨v0, hv0⟩ : ∃ v0 : Later Y.heap.size Y, v0.val = v0'.val := ⟨(z.alloc _).up v0', rfl⟩
  rw [← hv0]
  clear hv0 q1z q2z KF
  have q1v := q1 v0
  go_wp2
  clear q1v
  go_loopw [7, 21] (fun o iv wr => ∃ (k : Nat) (ad : Option Addr) (cp : Nat) (v : Later Y.heap.size Y), k ≤ m ∧ iv = .int .i64 k ∧ o = .slice ad (ints (lsT es s0 k)).length cp ∧ wr = v.val ∧ Hid (Own Y.heap.size v.val ad cp (ints (lsT es s0 k)))) (fun _ i _ => m - (intOf i).toNat)
  case atStart => exact ⟨0, none, 0, v0, by omega, rfl, rfl, rfl, Lib.hid (Own.nil _ _)⟩
  case round =>
    clear v0
    obtain ⟨k, ad, cp, v, hk, rfl, rfl, rfl, HO⟩ := hrel
    have q2v := q2 v
    have HL : Hid ((ints (lsT es s0 k)).length ≤ 8) := Lib.hid (by rw [ints_len]; have := lsT_len es s0 k; omega)
    have HSt : Hid (lsT es s0 (k + 1) = if s0.testBit k = true then lsT es s0 k else lsT es s0 k ++ [setT es k es.length]) := Lib.hid rfl
    by_cases hlt : k < m
    · have bk := bit_cast k
      have bk1 := bit_lt k (by omega)
      have s1 := shr_andC s0 k (by omega)
      rw [bk] at s1
      rcases btf (s0.testBit k) with g1 | g1
      · rw [g1] at s1 HSt
        have HN : Hid (lsT es s0 (k + 1) = lsT es s0 k) := Lib.hid (by rw [HSt.out, if_pos rfl])
        clear HSt g1
        go_wp2
        go_roundw
        case rel => exact ⟨k+1, ad, cp, v, by omega, by go_num, by rw [HN.out], rfl, by rw [HN.out]; exact HO⟩
        case measure => simp [intOf]; omega
      · rw [g1] at s1 HSt
        have HN : Hid (ints (lsT es s0 (k + 1)) = ints (lsT es s0 k) ++ [((setT es k es.length : Nat) : Int)]) := Lib.hid (by rw [HSt.out, if_neg (by decide), ints_snoc])
        clear HSt g1
        generalize hX : ints (lsT es s0 k) = X at *
        go_wp2
        clear q2v
        go_loopw [9, 34] (fun o iv wr => ∃ (q : Nat) (v : Later Y.heap.size Y), q ≤ es.length ∧ iv = .int .i64 q ∧ o = .int .i64 (setT es k q) ∧ wr = v.val ∧ Hid (Own Y.heap.size v.val ad cp X)) (fun _ i _ => es.length - (intOf i).toNat)
        case atStart => exact ⟨0, v, by omega, rfl, rfl, rfl, HO⟩
        case round =>
          clear v HO
          obtain ⟨q, v, hq, rfl, rfl, rfl, HO⟩ := hrel
          have hst := setT_lt HG.out hlt q hq
          by_cases hltq : q < es.length
          · obtain ⟨be, offe, rfl, hbe, hce⟩ := HI.out.at hltq
            have e0 := (hce v q hltq).1
            have e2 := (hce v q hltq).2
            have HXe := HGi.out.2.2.2 q hltq
            have HSq : Hid (setT es k (q + 1) = if vA es q = k then setT es k q ||| bit (vB es q) else setT es k q) := Lib.hid rfl
            obtain ⟨y, hy⟩ := Int.eq_ofNat_of_zero_le HXe.1
            obtain ⟨x, hx⟩ := Int.eq_ofNat_of_zero_le HXe.2.1
            have hvy : vA es q = y := by unfold vA; rw [hy]; rfl
            have hvx : vB es q = x := by unfold vB; rw [hx]; rfl
            rw [hy, hx] at HXe
            have hyn : y < m := by omega
            have hxn : x < m := by omega
            rw [hy] at e0
            rw [hx] at e2
            rw [hvy, hvx] at HSq
            clear HXe hy hx hce hvy hvx
            have HO2 : Hid (Own Y.heap.size (v.val.alloc (.cells #[.int .i64 y, .int .i64 x] 34)) ad cp X) := Lib.hid (HO.out.alloc _)
            have b2 := bit_cast x
            have b3 := bit_lt x (by omega)
            have o1 := i64_or (setT es k q) (bit x) (by omega) (by omega)
            rcases ieq (y : Int) (k : Int) with ⟨g2, d2, _⟩ | ⟨g2, d2, _⟩
            · have f2 : (y == k) = true := by rw [beq_iff_eq]; omega
              have HNq : Hid (setT es k (q + 1) = setT es k q ||| bit x) := Lib.hid (by rw [HSq.out, if_pos (by omega)])
              generalize setT es k q = tk at *
              clear HSq g2
              go_wp2
              go_roundw
              case rel => exact ⟨q+1, v.alloc (.cells #[.int .i64 y, .int .i64 x] 34), by omega, by go_num, by rw [HNq.out], rfl, HO2⟩
              case measure => simp [intOf]; omega
            · have f2 : (y == k) = false := by rw [beq_eq_false_iff_ne]; omega
              have HNq : Hid (setT es k (q + 1) = setT es k q) := Lib.hid (by rw [HSq.out, if_neg (by omega)])
              generalize setT es k q = tk at *
              clear HSq g2
              go_wp2
              go_roundw
              case rel => exact ⟨q+1, v.alloc (.cells #[.int .i64 y, .int .i64 x] 34), by omega, by go_num, by rw [HNq.out], rfl, HO2⟩
              case measure => simp [intOf]; omega
          · have hqe : q = es.length := by omega
            subst hqe
            generalize setT es k es.length = tk at *
            have HOv := HO
            go_wp2_with (first | (at_builtin; refine wpList_push (B := Y.heap.size) (W := Y) (w := v.val) v.below v.size rfl _ _ rfl X ad cp (tk : Int) rfl HOv.out rfl (by have := HL.out; omega) ?_; intro u2 ad2 cp2 hown) | fail)
            go_roundw
            case rel =>
              refine ⟨k+1, ad2, cp2, u2, by omega, by go_num, ?_, rfl, ?_⟩
              · rw [HN.out]; simp
              · rw [HN.out]; exact Lib.hid hown
            case measure => simp [intOf]; omega
    · have hke : k = m := by omega
      subst hke
      go_wp2
      go_ret2
      have hr := Reads.of_own HO.out
      rw [← HXS.out] at hr ⊢
      rw [e1.out]
      exact RetP.of (HVY.out v) (ListE.mk hr)

end Go.Proofs.Ytpkjpmkmcffkhaa

namespace Go.Proofs.Ytpkjpmkmcffkhaa
open Go.RowKit
set_option linter.unusedVariables false

set_option maxRecDepth 100000 in
set_option maxHeartbeats 2000000 in
theorem c_isGraph {B : Nat} {W : World} (u : Later B W) (n : Int) (es : List (Int × Int)) (a : Option Addr) (cap : Nat) (h : EdgesAt B W a es) (hlen : es.length ≤ 4611686018427387904) :
    Calls Try.prog 6 #[.agg #[.int .i64 n, .slice a es.length cap]] u.val (Ret B W (.bool (decide (isGraph n es)))) := by
  have HI : Hid (EdgesAt (u.val.alloc (.cells #[.int .i64 n, .slice a es.length cap] 24)).heap.size (u.val.alloc (.cells #[.int .i64 n, .slice a es.length cap] 24)) a es) := Lib.hid (h.to (u.alloc _))
  clear h
  have T0 : Hid (Two (u.val.alloc (.cells #[.int .i64 n, .slice a es.length cap] 24)) u.val.heap.size 24 (.int .i64 n) (.slice a es.length cap)) := Lib.hid (Two.new _ _ _ _)
  have hr : u.val.heap.size < (u.val.alloc (.cells #[.int .i64 n, .slice a es.length cap] 24)).heap.size := by simp
  have HV : Hid (∀ v : Later (u.val.alloc (.cells #[.int .i64 n, .slice a es.length cap] 24)).heap.size (u.val.alloc (.cells #[.int .i64 n, .slice a es.length cap] 24)), ∃ w : Later B W, w.val = v.val) := Lib.hid (fun v => ⟨(u.alloc _).up v, rfl⟩)
  by_cases hgood : 1 ≤ n ∧ n ≤ 7 ∧ (es.length : Int) ≤ 8
  case neg =>
    have hno : Hid (¬ isGraph n es) := Lib.hid (fun h => hgood ⟨h.1, h.2.1, by have := h.2.2.1; omega⟩)
    have HU : Hid (∃ w : Later B W, w.val = u.val.alloc (.cells #[.int .i64 n, .slice a es.length cap] 24)) := Lib.hid ⟨u.alloc _, rfl⟩
    go_enter Try.func6, Try.ntmps6
    rcases ile 1 n with ⟨h0, e0⟩ | ⟨h0, e0⟩ <;> rcases ile n 7 with ⟨h7, e7⟩ | ⟨h7, e7⟩ <;> rcases ile (es.length : Int) 8 with ⟨h8, e8⟩ | ⟨h8, e8⟩
    · exact absurd ⟨h0, h7, h8⟩ hgood
    all_goals first | (exfalso; omega) | skip
    all_goals
      clear hgood
      go_wp2
      go_loopw [3, 4] (fun o i wr => o = .bool false ∧ i = .int .i64 0 ∧ ∃ w : Later B W, w.val = wr) (fun _ _ _ => 0)
      case atStart => exact ⟨rfl, rfl, HU.out⟩
      case round =>
        obtain ⟨rfl, rfl, w, rfl⟩ := hrel
        go_wp2
        go_ret
        exact Ret.mk w (vbool (dec_false hno.out))
  obtain ⟨h0, h7, h8⟩ := hgood
  have e0 : decide (1 ≤ n) = true := decide_eq_true h0
  have e7 : decide (n ≤ 7) = true := decide_eq_true h7
  have e8 : decide ((es.length : Int) ≤ 8) = true := decide_eq_true h8
  go_enter Try.func6, Try.ntmps6
  go_wp2
  generalize hr2 : u.val.heap.size = r at *
  generalize u.val.alloc (.cells #[.int .i64 n, .slice a es.length cap] 24) = W1 at *
  clear hr2 u
  go_loopw [3, 4] (fun o i wr => ∃ (ok : Bool) (k : Nat) (v : Later W1.heap.size W1), k ≤ es.length ∧ i = .int .i64 k ∧ o = .bool ok ∧ wr = v.val ∧ Hid (ok = true → edgesTo n es k) ∧ Hid (ok = false → ¬ edgesTo n es es.length)) (fun _ i _ => es.length - (intOf i).toNat)
  case atStart => exact ⟨true, 0, Later.self _, by omega, rfl, rfl, rfl, Lib.hid (fun _ i hi => absurd hi (by omega)), Lib.hid (fun h => by cases h)⟩
  case round =>
    obtain ⟨ok, k, v, hk, rfl, rfl, rfl, hf, hf2⟩ := hrel
    have T1 := T0.out.keep_at v.below hr
    have q0 := T1.c1
    cases ok
    · go_wp2
      go_ret
      exact Ret.of (HV.out v) (vbool (dec_false (fun h => hf2.out (by trivial) h.2.2.2)))
    by_cases hlt : k < es.length
    · obtain ⟨b, off, rfl, hbB, hcell⟩ := HI.out.at hlt
      have c0 := (hcell v k hlt).1
      have c1 := (hcell v k hlt).2
      have HS := Lib.hid (@edgesTo_step n es k (hf.out rfl))
      have HN : Hid (edgesTo n es es.length → _) := Lib.hid (fun h => h k hlt)
      have T2 := Lib.hid (T1.keep_at ((Below.refl W1.heap.size v.val).alloc v.size (.cells #[.int .i64 (es.getD k (0,0)).1, .int .i64 (es.getD k (0,0)).2] 34)) hr)
      have q1 := T2.out.c0
      clear T1 hcell hf hf2
      generalize (es.getD k (0,0)).1 = x at *
      generalize (es.getD k (0,0)).2 = y at *
      rcases ile 0 x with ⟨g1, d1⟩ | ⟨g1, d1⟩ <;> rcases ile 0 y with ⟨g3, d3⟩ | ⟨g3, d3⟩ <;> rcases ilt x n with ⟨g2, d2⟩ | ⟨g2, d2⟩ <;> rcases ilt y n with ⟨g4, d4⟩ | ⟨g4, d4⟩ <;> rcases ilt x y with ⟨g5, d5⟩ | ⟨g5, d5⟩ <;> rcases ilt y x with ⟨g6, d6⟩ | ⟨g6, d6⟩
      all_goals first | (exfalso; omega) | skip
      all_goals
        go_wp2
        go_roundw
        case rel =>
          first
          | exact ⟨true, k+1, v.alloc (.cells #[.int .i64 x, .int .i64 y] 34), by omega, by go_num, rfl, rfl, Lib.hid (fun _ => HS.out (by omega) (by omega) (by omega) (by omega)), Lib.hid (fun h => by cases h)⟩
          | exact ⟨false, k+1, v.alloc (.cells #[.int .i64 x, .int .i64 y] 34), by omega, by go_num, rfl, rfl, Lib.hid (fun h => by cases h), Lib.hid (fun _ h => by have := HN.out h; omega)⟩
        case measure => simp [intOf]; omega
    · have hke : Hid (k = es.length) := Lib.hid (by omega)
      go_wp2
      go_ret
      exact Ret.of (HV.out v) (vbool (dec_true ⟨by omega, by omega, by omega, by have := hf.out (by trivial); rwa [hke.out] at this⟩))

end Go.Proofs.Ytpkjpmkmcffkhaa
