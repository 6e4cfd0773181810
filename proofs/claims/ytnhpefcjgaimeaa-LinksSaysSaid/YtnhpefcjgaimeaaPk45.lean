
/-
  links.Most, links.Cut.
  links.Ways.
-/
import Derived.Test.YtnhpefcjgaimeaaPk44
import Derived.Deep.RegionLaw
namespace Go.Proofs.Ytnhpefcjgaimeaa
open Go.RowKit
set_option linter.unusedVariables false

theorem lk_two {n f t : Int} {es : List (Int × Int)} : lkOk n es [f, t] ↔ isGraph n es ∧ (0 ≤ f ∧ f < bit n.toNat) ∧ (0 ≤ t ∧ t < bit n.toNat) := by
  constructor
  · rintro ⟨h1, h2⟩
    exact ⟨h1, h2 0 (by simp), h2 1 (by simp)⟩
  · rintro ⟨h1, h2, h3⟩
    refine ⟨h1, fun i hi => ?_⟩
    simp at hi
    rcases (show i = 0 ∨ i = 1 by omega) with rfl | rfl
    · exact h2
    · exact h3
/-- the argument list of two sets -/
theorem lit_two {B : Nat} {W : World} (v : Later B W) (f t : Int) : IntsAt (v.val.alloc (.cells #[.int .i64 f, .int .i64 t] 3)).heap.size (v.val.alloc (.cells #[.int .i64 f, .int .i64 t] 3)) (some ⟨v.val.heap.size, 0, none⟩) [f, t] := fun _ => by
  have h : RowL (v.val.alloc (.cells #[.int .i64 f, .int .i64 t] 3)) v.val.heap.size 3 [.int .i64 f, .int .i64 t] := RowL.new _ _ _
  refine ⟨v.val.heap.size, 0, rfl, by simp, fun i hi => ?_⟩
  simp at hi
  rcases (show i = 0 ∨ i = 1 by omega) with rfl | rfl
  · exact h.cell rfl
  · exact h.cell rfl

/-- links.Cut's loop -/
def CutI (n : Nat) (ok : Nat → Bool) (s bb mm : Nat) : Prop := bb = (bst ok s).toNat ∧ mm = (if bst ok s < 0 then n + 1 else sz (bst ok s).toNat)
theorem CutI.start (n : Nat) (ok : Nat → Bool) : CutI n ok 0 0 (n + 1) := ⟨rfl, by rw [if_pos (by simp only [bst]; omega)]⟩
theorem CutI.yes {n : Nat} {ok : Nat → Bool} {s bb mm : Nat} (h : CutI n ok s bb mm) (hs : sz s ≤ n) (h1 : sz s < mm) (h2 : ok s = true) : CutI n ok (s + 1) s (sz s) := by
  have e : bst ok (s + 1) = s := by
    simp only [bst]
    rw [if_pos ((bst_cut ok hs).2 ⟨by rw [← h.2]; exact h1, h2⟩)]
  unfold CutI
  rw [e]
  exact ⟨by omega, by rw [if_neg (by omega)]; rfl⟩
theorem CutI.no {n : Nat} {ok : Nat → Bool} {s bb mm : Nat} (h : CutI n ok s bb mm) (hs : sz s ≤ n) (h1 : ¬ (sz s < mm ∧ ok s = true)) : CutI n ok (s + 1) bb mm := by
  have e : bst ok (s + 1) = bst ok s := by
    simp only [bst]
    rw [if_neg (fun c => h1 (by rw [h.2]; exact (bst_cut ok hs).1 c))]
  unfold CutI
  rw [e]
  exact h
theorem CutI.last {n : Nat} {es : List (Int × Int)} {fr tw bb mm : Nat} (hG : Grf n es) (hfr : fr < bit n) (h : CutI n (barO es fr tw) (bit n) bb mm) : bb = barr n es fr tw := by
  have := (barr_spec (tw := tw) hG hfr).1
  rw [h.1, this]; omega

set_option maxRecDepth 100000 in
set_option maxHeartbeats 8000000 in
theorem c_linksMost {B : Nat} {W : World} (u : Later B W) (n f t : Int) (es : List (Int × Int)) (a : Option Addr) (cap : Nat) (e r : Int) (h : EdgesAt B W a es) (hlen : es.length ≤ 4611686018427387904) (he : e = errno (decide (lkOk n es [f, t])) 1)
    (hz : e ≠ 0 → r = 0) (hy : ∀ m s0 s1 : Nat, n = (m : Int) → f = (s0 : Int) → t = (s1 : Int) → isGraph (m : Int) es → s0 < bit m → s1 < bit m → r = sz (barr m es s0 s1)) :
    Calls Try.prog 10 #[.agg #[.int .i64 n, .slice a es.length cap], .int .i64 f, .int .i64 t] u.val (Ret B W (.tuple #[.int .i64 r, .int .i64 e])) := by
  have hB := u.size
  have HX1 : Hid (Two (u.val.alloc (.cells #[.int .i64 n, .slice a es.length cap] 24)) u.val.heap.size 24 (.int .i64 n) (.slice a es.length cap)) := Lib.hid (Two.new u.val _ _ _)
  have HVY : Hid (∀ v : Later (u.val.alloc (.cells #[.int .i64 n, .slice a es.length cap] 24)).heap.size (u.val.alloc (.cells #[.int .i64 n, .slice a es.length cap] 24)), ∃ w : Later B W, w.val = v.val) := Lib.hid (fun v => ⟨(u.alloc _).up v, rfl⟩)
  have HI : Hid (EdgesAt (u.val.alloc (.cells #[.int .i64 n, .slice a es.length cap] 24)).heap.size (u.val.alloc (.cells #[.int .i64 n, .slice a es.length cap] 24)) a es) := Lib.hid (h.to (u.alloc _))
  have HE := Lib.hid he
  have HY2 := Lib.hid hy
  have HNo := Lib.hid hz
  clear h he hy hz
  go_enter Try.func10, Try.ntmps10
  go_upto_region 1 with fail
  generalize (u.val.alloc (.cells #[.int .i64 n, .slice a es.length cap] 24)) = Y at *
  generalize u.val.heap.size = gu at *
  have q1 : ∀ v : Later Y.heap.size Y, v.val.cell? ⟨gu, 0, none⟩ = some (.int .i64 n) := fun v => (HX1.out.keep v.below).c0
  have q2 : ∀ v : Later Y.heap.size Y, v.val.cell? ⟨gu, 1, none⟩ = some (.slice a es.length cap) := fun v => (HX1.out.keep v.below).c1
  obtain ⟨z, hzz⟩ : ∃ z : Later Y.heap.size Y, z.val = Y := ⟨Later.self _, rfl⟩
  have KF : Hid (Calls Try.prog 23 #[.agg #[.int .i64 n, .slice a es.length cap], .slice (some ⟨z.val.heap.size, 0, none⟩) 2 2] (z.val.alloc (.cells #[.int .i64 f, .int .i64 t] 3)) (Ret (z.val.alloc (.cells #[.int .i64 f, .int .i64 t] 3)).heap.size (z.val.alloc (.cells #[.int .i64 f, .int .i64 t] 3)) (.int .i64 e))) := Lib.hid (by
    rw [HE.out]
    exact c_linksRight (Later.self (z.val.alloc (.cells #[.int .i64 f, .int .i64 t] 3))) n es [f, t] a _ cap 2 (HI.out.to (z.alloc _)) hlen (lit_two z f t) (by simp))
  rw [← hzz]
  clear hzz
  have q1z := q1 z
  have q2z := q2 z
  by_cases hok : lkOk n es [f, t]
  case neg =>
    have e1 := Lib.hid (show e = 1 by rw [HE.out, decide_eq_false hok]; rfl)
    have hno := Lib.hid (HNo.out (by have := e1.out; omega))
    rw [e1.out] at KF
    clear hok
    go_upto_region 2 with (first | (go_at_call 23; (with_reducible refine (KF.out).mono ?_); rintro e _ ⟨rfl, v0', rfl⟩))
    obtain ⟨v0, hv0⟩ : ∃ v0 : Later Y.heap.size Y, v0.val = v0'.val := ⟨(z.alloc _).up v0', rfl⟩
    rw [← hv0]
    clear hv0
    go_wp2
    go_ret2
    rw [hno.out, e1.out]
    obtain ⟨w, hw⟩ := HVY.out v0
    exact Ret.of ⟨w, hw⟩ rfl
  have e1 := Lib.hid (show e = 0 by rw [HE.out, decide_eq_true hok]; rfl)
  obtain ⟨hG, ⟨hf0, hf1⟩, ht0, ht1⟩ := lk_two.1 hok
  obtain ⟨m, rfl⟩ := Int.eq_ofNat_of_zero_le (show 0 ≤ n by have := hG.1; omega)
  obtain ⟨s0, rfl⟩ := Int.eq_ofNat_of_zero_le hf0
  obtain ⟨s1, rfl⟩ := Int.eq_ofNat_of_zero_le ht0
  rw [show ((m : Int)).toNat = m by omega] at hf1 ht1
  have hfr : s0 < bit m := by omega
  have htw : s1 < bit m := by omega
  have hr := Lib.hid (HY2.out m s0 s1 rfl rfl rfl hG hfr htw)
  rw [e1.out] at KF
  have HG := Lib.hid hG
  clear HY2 hok ht0 ht1 hf0 hf1 hG HE HNo
  go_upto_region 4 with (first | (go_at_call 23; (with_reducible refine (KF.out).mono ?_); rintro e _ ⟨rfl, v0', rfl⟩))
  obtain ⟨v0, hv0⟩ : ∃ v0 : Later Y.heap.size Y, v0.val = v0'.val := ⟨(z.alloc _).up v0', rfl⟩
  rw [← hv0]
  clear hv0 q1z q2z KF
  have q1v := q1 v0
  have q2v := q2 v0
  have KM : Hid (Calls Try.prog 24 #[.agg #[.int .i64 m, .slice a es.length cap], .int .i64 s0, .int .i64 s1] v0.val (Ret Y.heap.size Y (.int .i64 (sz (barr m es s0 s1))))) := Lib.hid (c_ways v0 m s0 s1 es a cap HI.out HG.out hfr htw _ (fun k hk => ways_barr (Grf.of HG.out) hfr hk))
  rw [← hr.out] at KM
  go_wp2_with (first | (go_at_call 24; (with_reducible refine (KM.out).mono ?_); rintro e _ ⟨rfl, v1, rfl⟩) | fail)
  go_ret2
  rw [e1.out]
  obtain ⟨w, hw⟩ := HVY.out v1
  exact Ret.of ⟨w, hw⟩ rfl

set_option maxRecDepth 100000 in
set_option maxHeartbeats 8000000 in
theorem c_linksCut {B : Nat} {W : World} (u : Later B W) (n f t : Int) (es : List (Int × Int)) (a : Option Addr) (cap : Nat) (e r : Int) (h : EdgesAt B W a es) (hlen : es.length ≤ 4611686018427387904) (he : e = errno (decide (lkOk n es [f, t])) 1)
    (hz : e ≠ 0 → r = 0) (hy : ∀ m s0 s1 : Nat, n = (m : Int) → f = (s0 : Int) → t = (s1 : Int) → isGraph (m : Int) es → s0 < bit m → s1 < bit m → r = barr m es s0 s1) :
    Calls Try.prog 11 #[.agg #[.int .i64 n, .slice a es.length cap], .int .i64 f, .int .i64 t] u.val (Ret B W (.tuple #[.int .i64 r, .int .i64 e])) := by
  have hB := u.size
  have HX1 : Hid (Two (u.val.alloc (.cells #[.int .i64 n, .slice a es.length cap] 24)) u.val.heap.size 24 (.int .i64 n) (.slice a es.length cap)) := Lib.hid (Two.new u.val _ _ _)
  have HVY : Hid (∀ v : Later (u.val.alloc (.cells #[.int .i64 n, .slice a es.length cap] 24)).heap.size (u.val.alloc (.cells #[.int .i64 n, .slice a es.length cap] 24)), ∃ w : Later B W, w.val = v.val) := Lib.hid (fun v => ⟨(u.alloc _).up v, rfl⟩)
  have HI : Hid (EdgesAt (u.val.alloc (.cells #[.int .i64 n, .slice a es.length cap] 24)).heap.size (u.val.alloc (.cells #[.int .i64 n, .slice a es.length cap] 24)) a es) := Lib.hid (h.to (u.alloc _))
  have HE := Lib.hid he
  have HY2 := Lib.hid hy
  have HNo := Lib.hid hz
  clear h he hy hz
  go_enter Try.func11, Try.ntmps11
  go_upto_region 1 with fail
  generalize (u.val.alloc (.cells #[.int .i64 n, .slice a es.length cap] 24)) = Y at *
  generalize u.val.heap.size = gu at *
  have q1 : ∀ v : Later Y.heap.size Y, v.val.cell? ⟨gu, 0, none⟩ = some (.int .i64 n) := fun v => (HX1.out.keep v.below).c0
  have q2 : ∀ v : Later Y.heap.size Y, v.val.cell? ⟨gu, 1, none⟩ = some (.slice a es.length cap) := fun v => (HX1.out.keep v.below).c1
  obtain ⟨z, hzz⟩ : ∃ z : Later Y.heap.size Y, z.val = Y := ⟨Later.self _, rfl⟩
  have KF : Hid (Calls Try.prog 23 #[.agg #[.int .i64 n, .slice a es.length cap], .slice (some ⟨z.val.heap.size, 0, none⟩) 2 2] (z.val.alloc (.cells #[.int .i64 f, .int .i64 t] 3)) (Ret (z.val.alloc (.cells #[.int .i64 f, .int .i64 t] 3)).heap.size (z.val.alloc (.cells #[.int .i64 f, .int .i64 t] 3)) (.int .i64 e))) := Lib.hid (by
    rw [HE.out]
    exact c_linksRight (Later.self (z.val.alloc (.cells #[.int .i64 f, .int .i64 t] 3))) n es [f, t] a _ cap 2 (HI.out.to (z.alloc _)) hlen (lit_two z f t) (by simp))
  rw [← hzz]
  clear hzz
  have q1z := q1 z
  have q2z := q2 z
  by_cases hok : lkOk n es [f, t]
  case neg =>
    have e1 := Lib.hid (show e = 1 by rw [HE.out, decide_eq_false hok]; rfl)
    have hno := Lib.hid (HNo.out (by have := e1.out; omega))
    rw [e1.out] at KF
    clear hok
    go_upto_region 2 with (first | (go_at_call 23; (with_reducible refine (KF.out).mono ?_); rintro e _ ⟨rfl, v0', rfl⟩))
    obtain ⟨v0, hv0⟩ : ∃ v0 : Later Y.heap.size Y, v0.val = v0'.val := ⟨(z.alloc _).up v0', rfl⟩
    rw [← hv0]
    clear hv0
    go_wp2
    go_ret2
    rw [hno.out, e1.out]
    obtain ⟨w, hw⟩ := HVY.out v0
    exact Ret.of ⟨w, hw⟩ rfl
  have e1 := Lib.hid (show e = 0 by rw [HE.out, decide_eq_true hok]; rfl)
  obtain ⟨hG, ⟨hf0, hf1⟩, ht0, ht1⟩ := lk_two.1 hok
  obtain ⟨m, rfl⟩ := Int.eq_ofNat_of_zero_le (show 0 ≤ n by have := hG.1; omega)
  obtain ⟨s0, rfl⟩ := Int.eq_ofNat_of_zero_le hf0
  obtain ⟨s1, rfl⟩ := Int.eq_ofNat_of_zero_le ht0
  rw [show ((m : Int)).toNat = m by omega] at hf1 ht1
  have hfr : s0 < bit m := by omega
  have htw : s1 < bit m := by omega
  have hm7 : m ≤ 7 := by have := hG.2.1; omega
  have hb := bit_le m (by omega)
  have bc := bit_cast m
  have hr := Lib.hid (HY2.out m s0 s1 rfl rfl rfl hG hfr htw)
  rw [e1.out] at KF
  have HG := Lib.hid hG
  clear HY2 hok ht0 ht1 hf0 hf1 hG HE HNo
  go_upto_region 4 with (first | (go_at_call 23; (with_reducible refine (KF.out).mono ?_); rintro e _ ⟨rfl, v0', rfl⟩))
  obtain ⟨v0, hv0⟩ : ∃ v0 : Later Y.heap.size Y, v0.val = v0'.val := ⟨(z.alloc _).up v0', rfl⟩
  rw [← hv0]
  clear hv0 q1z q2z KF
  have q1v := q1 v0
  have q1v2 : v0.val.drew.cell? ⟨gu, 0, none⟩ = some (.int .i64 m) := q1 v0
  go_region_law fail
  go_wp2
  go_loopw [9, 10, 26] (fun b x i wr => ∃ (s bb mm : Nat) (v : Later Y.heap.size Y), s ≤ bit m ∧ i = .int .i64 s ∧ b = .int .i64 bb ∧ x = .int .i64 mm ∧ wr = v.val ∧ Hid (CutI m (barO es s0 s1) s bb mm)) (fun _ _ i _ => bit m - (intOf i).toNat)
  case atStart => exact ⟨0, 0, m + 1, v0.drew, by omega, rfl, rfl, by simp, rfl, Lib.hid (CutI.start _ _)⟩
  case round =>
    clear q1v q1v2 v0
    obtain ⟨s, bb, mm, v, hs, rfl, rfl, rfl, rfl, HC⟩ := hrel
    by_cases hlt : s < bit m
    · have KS : Hid (∀ w : Later Y.heap.size Y, Calls Try.prog 25 #[.int .i64 s] w.val (Ret Y.heap.size Y (.int .i64 (sz s)))) := Lib.hid (fun w => c_size_links w s (by omega))
      have KR := Lib.hid (fun w : Later Y.heap.size Y => c_reached w m s0 s es a cap HI.out HG.out hfr hlt)
      have HB : Hid (barO es s0 s1 s = decide (rchS es s0 s &&& s1 = 0)) := Lib.hid rfl
      have hsm := sz_le_m (n := m) (s := s) (by omega) hlt
      have hrl := rchS_lt es s0 s
      have o1 := i64_and (rchS es s0 s) s1 (by omega) (by omega)
      have hx2 : rchS es s0 s &&& s1 ≤ rchS es s0 s := Nat.and_le_left
      have HYes : Hid (sz s < mm → barO es s0 s1 s = true → CutI m (barO es s0 s1) (s + 1) s (sz s)) := Lib.hid (fun h1 h2 => HC.out.yes hsm h1 h2)
      have HNo : Hid (¬ (sz s < mm ∧ barO es s0 s1 s = true) → CutI m (barO es s0 s1) (s + 1) bb mm) := Lib.hid (fun h1 => HC.out.no hsm h1)
      have KS1 := Lib.hid (KS.out v)
      have q1w : ∀ w : Later Y.heap.size Y, w.val.cell? ⟨gu, 0, none⟩ = some (.int .i64 m) := q1
      clear HC
      generalize barO es s0 s1 s = ok at *
      generalize rchS es s0 s = X at *
      generalize sz s = zs at *
      rcases ilt (zs : Int) (mm : Int) with ⟨g1, d1⟩ | ⟨g1, d1⟩
      · have d1n : decide (zs < mm) = true := decide_eq_true (by omega)
        by_cases h0 : X &&& s1 = 0
        · have hok : ok = true := by rw [HB.out]; simpa using h0
          subst hok
          rw [h0] at o1
          have HN := Lib.hid (HYes.out (by omega) rfl)
          clear HYes HNo HB h0 g1 hx2
          go_wp2_with (first | (go_at_call 25; (with_reducible refine (KS1.out).mono ?_); rintro e _ ⟨rfl, v1, rfl⟩) | (go_at_call 26; (with_reducible refine (KR.out v1).mono ?_); rintro e _ ⟨rfl, v2, rfl⟩) | (go_at_call 25; (with_reducible refine (KS.out v2).mono ?_); rintro e _ ⟨rfl, v3, rfl⟩) | fail)
          go_roundw
          case rel => exact ⟨s+1, s, zs, v3, by omega, by go_num, rfl, rfl, rfl, HN⟩
          case measure => simp [intOf]; omega
        · have hok : ok = false := by rw [HB.out]; simpa using h0
          subst hok
          have HN := Lib.hid (HNo.out (by simp))
          generalize X &&& s1 = y at *
          have d2 : ((y : Int) == 0) = false := by rw [beq_eq_false_iff_ne]; omega
          clear HYes HNo HB h0 g1
          go_wp2_with (first | (go_at_call 25; (with_reducible refine (KS1.out).mono ?_); rintro e _ ⟨rfl, v1, rfl⟩) | (go_at_call 26; (with_reducible refine (KR.out v1).mono ?_); rintro e _ ⟨rfl, v2, rfl⟩) | fail)
          go_roundw
          case rel => exact ⟨s+1, bb, mm, v2, by omega, by go_num, rfl, rfl, rfl, HN⟩
          case measure => simp [intOf]; omega
      · have d1n : decide (zs < mm) = false := decide_eq_false (by omega)
        have HN := Lib.hid (HNo.out (by omega))
        clear HYes HNo HB g1
        go_wp2_with (first | (go_at_call 25; (with_reducible refine (KS1.out).mono ?_); rintro e _ ⟨rfl, v1, rfl⟩) | fail)
        go_roundw
        case rel => exact ⟨s+1, bb, mm, v1, by omega, by go_num, rfl, rfl, rfl, HN⟩
        case measure => simp [intOf]; omega
    · have hse : s = bit m := by omega
      subst hse
      have hbb : bb = barr m es s0 s1 := HC.out.last (Grf.of HG.out) hfr
      subst hbb
      go_wp2
      go_ret2
      rw [e1.out, hr.out]
      obtain ⟨w, hw⟩ := HVY.out v
      exact Ret.of ⟨w, hw⟩ rfl

end Go.Proofs.Ytnhpefcjgaimeaa

namespace Go.Proofs.Ytnhpefcjgaimeaa
open Go.RowKit
set_option linter.unusedVariables false

/-- lists of numbers that lie at blocks below B -/
def RowsR (B : Nat) (w : World) (ad : Option Addr) (rows : Rws) : Prop := ∀ i, i < rows.length → ∃ b off ad' cp', ad = some ⟨b, off, none⟩ ∧ b < B ∧ w.cell? ⟨b, off + i, none⟩ = some (.slice ad' (ints (rows.getD i [])).length cp') ∧ IntsAt B w ad' (ints (rows.getD i []))
theorem RowsR.keep {B : Nat} {w w' : World} {ad : Option Addr} {rows : Rws} (h : RowsR B w ad rows) (hb : Below B w w') : RowsR B w' ad rows := fun i hi => by
  obtain ⟨b, off, ad', cp', e, hl, hc, hI⟩ := h i hi
  refine ⟨b, off, ad', cp', e, hl, ?_, hI.later hb⟩
  rw [World.cell?_of_block (w := w) (hb.block b hl)]; exact hc
theorem OutW.rows {B b : Nat} {w : World} {ad : Option Addr} {cp : Nat} {rows : Rws} (h : OutW B b w ad cp rows) : RowsR w.heap.size w ad rows := fun i hi => by
  obtain ⟨h1, h2, h3, vs, h4, h5⟩ := h
  obtain ⟨ad', cp', e, hR⟩ := h5 i hi
  rcases h4.2 with ⟨e0, hz⟩ | ⟨g', c, cur, e0, hb', hh, hn, hc, hs, ht⟩
  · omega
  · simp only [Value.slice.injEq] at e0
    refine ⟨g', 0, ad', cp', e0.1, (Array.getElem?_eq_some_iff.1 hh).1, ?_, hR.ints⟩
    rw [cell_of_row w g' (0 + i) _ _ _ hh]
    have e1 : vs[i]? = cur[i]? := by
      rw [← ht, List.getElem?_take_of_lt (by omega)]
      simp
    rw [Nat.zero_add, ← e1]
    exact e

set_option maxRecDepth 100000 in
set_option maxHeartbeats 8000000 in
theorem c_linksWays {B : Nat} {W : World} (u : Later B W) (n f t : Int) (es : List (Int × Int)) (a : Option Addr) (cap : Nat) (e : Int) (rows : Rws) (h : EdgesAt B W a es) (hlen : es.length ≤ 4611686018427387904)
    (hz : ¬ lkOk n es [f, t] → e = 1 ∧ rows = []) (hy : ∀ m s0 s1 : Nat, n = (m : Int) → f = (s0 : Int) → t = (s1 : Int) → isGraph (m : Int) es → s0 < bit m → s1 < bit m → (∃ r, waysF m (edB es) s1 (elems s0) 0 = some r ∧ e = 0 ∧ rows = r) ∨ (waysF m (edB es) s1 (elems s0) 0 = none ∧ e = 5 ∧ rows = [])) :
    Calls Try.prog 12 #[.agg #[.int .i64 n, .slice a es.length cap], .int .i64 f, .int .i64 t] u.val (RetP B W (fun v w => ∃ ad cp, v = .tuple #[.slice ad rows.length cp, .int .i64 e] ∧ RowsR w.heap.size w ad rows)) := by
  have hB := u.size
  have k1 : (u.val.alloc (.cells #[.int .i64 n, .slice a es.length cap] 24)).heap.size = u.val.heap.size + 1 := by simp
  have k2 : ((u.val.alloc (.cells #[.int .i64 n, .slice a es.length cap] 24)).alloc (.cells #[.int .i64 f] 3)).heap.size = u.val.heap.size + 1 + 1 := by simp
  have HX1 : Hid (Two (((u.val.alloc (.cells #[.int .i64 n, .slice a es.length cap] 24)).alloc (.cells #[.int .i64 f] 3)).alloc (.cells #[.int .i64 t] 3)) u.val.heap.size 24 (.int .i64 n) (.slice a es.length cap)) := Lib.hid (((Two.new u.val _ _ _).keep ((Below.refl _ _).alloc (Nat.le_refl _) _)).keep ((Below.refl _ _).alloc (Nat.le_refl _) _))
  have HX2 : Hid (RowAt1 (((u.val.alloc (.cells #[.int .i64 n, .slice a es.length cap] 24)).alloc (.cells #[.int .i64 f] 3)).alloc (.cells #[.int .i64 t] 3)) (u.val.heap.size + 1) 3 (.int .i64 f)) := Lib.hid (by
    have h1 : RowAt1 ((u.val.alloc (.cells #[.int .i64 n, .slice a es.length cap] 24)).alloc (.cells #[.int .i64 f] 3)) (u.val.alloc (.cells #[.int .i64 n, .slice a es.length cap] 24)).heap.size 3 (.int .i64 f) := heap_alloc_new (u.val.alloc (.cells #[.int .i64 n, .slice a es.length cap] 24)) _
    rw [k1] at h1
    exact h1.keep ((Below.refl _ _).alloc (Nat.le_refl _) _))
  have HX3 : Hid (RowAt1 (((u.val.alloc (.cells #[.int .i64 n, .slice a es.length cap] 24)).alloc (.cells #[.int .i64 f] 3)).alloc (.cells #[.int .i64 t] 3)) (u.val.heap.size + 1 + 1) 3 (.int .i64 t)) := Lib.hid (by
    have h1 : RowAt1 (((u.val.alloc (.cells #[.int .i64 n, .slice a es.length cap] 24)).alloc (.cells #[.int .i64 f] 3)).alloc (.cells #[.int .i64 t] 3)) ((u.val.alloc (.cells #[.int .i64 n, .slice a es.length cap] 24)).alloc (.cells #[.int .i64 f] 3)).heap.size 3 (.int .i64 t) := heap_alloc_new ((u.val.alloc (.cells #[.int .i64 n, .slice a es.length cap] 24)).alloc (.cells #[.int .i64 f] 3)) _
    rwa [k2] at h1)
  have HYs : Hid ((((u.val.alloc (.cells #[.int .i64 n, .slice a es.length cap] 24)).alloc (.cells #[.int .i64 f] 3)).alloc (.cells #[.int .i64 t] 3)).heap.size = u.val.heap.size + 3) := Lib.hid (by simp)
  have HVY : Hid (∀ v : Later (((u.val.alloc (.cells #[.int .i64 n, .slice a es.length cap] 24)).alloc (.cells #[.int .i64 f] 3)).alloc (.cells #[.int .i64 t] 3)).heap.size (((u.val.alloc (.cells #[.int .i64 n, .slice a es.length cap] 24)).alloc (.cells #[.int .i64 f] 3)).alloc (.cells #[.int .i64 t] 3)), ∃ w : Later B W, w.val = v.val) := Lib.hid (fun v => ⟨(((u.alloc _).alloc _).alloc _).up v, rfl⟩)
  have HVB : Hid (∀ v : Later (((u.val.alloc (.cells #[.int .i64 n, .slice a es.length cap] 24)).alloc (.cells #[.int .i64 f] 3)).alloc (.cells #[.int .i64 t] 3)).heap.size (((u.val.alloc (.cells #[.int .i64 n, .slice a es.length cap] 24)).alloc (.cells #[.int .i64 f] 3)).alloc (.cells #[.int .i64 t] 3)), ∀ w : World, Below (((u.val.alloc (.cells #[.int .i64 n, .slice a es.length cap] 24)).alloc (.cells #[.int .i64 f] 3)).alloc (.cells #[.int .i64 t] 3)).heap.size v.val w → ∃ x : Later B W, x.val = w) := Lib.hid (fun v w hb => ⟨((((u.alloc _).alloc _).alloc _).up v).to w (hb.mono (by have := u.size; simp; omega)), rfl⟩)
  have HI : Hid (EdgesAt (((u.val.alloc (.cells #[.int .i64 n, .slice a es.length cap] 24)).alloc (.cells #[.int .i64 f] 3)).alloc (.cells #[.int .i64 t] 3)).heap.size (((u.val.alloc (.cells #[.int .i64 n, .slice a es.length cap] 24)).alloc (.cells #[.int .i64 f] 3)).alloc (.cells #[.int .i64 t] 3)) a es) := Lib.hid (h.to (((u.alloc _).alloc _).alloc _))
  have HY2 := Lib.hid hy
  have HNo := Lib.hid hz
  have hp2 : ∀ (args : Array Value) (w : World), (callFunc 30 args).run Try.prog w = .ok (.enter 30 args) w := fun _ _ => by kernel_rfl
  clear h hy hz k1 k2
  go_enter Try.func12, Try.ntmps12
  go_upto_region 1 with fail
  generalize (((u.val.alloc (.cells #[.int .i64 n, .slice a es.length cap] 24)).alloc (.cells #[.int .i64 f] 3)).alloc (.cells #[.int .i64 t] 3)) = Y at *
  generalize u.val.heap.size = gu at *
  have hgY : gu + 3 ≤ Y.heap.size := by have := HYs.out; omega
  have q1 : ∀ v : Later Y.heap.size Y, v.val.cell? ⟨gu, 0, none⟩ = some (.int .i64 n) := fun v => (HX1.out.keep v.below).c0
  have q2 : ∀ v : Later Y.heap.size Y, v.val.cell? ⟨gu, 1, none⟩ = some (.slice a es.length cap) := fun v => (HX1.out.keep v.below).c1
  have q3 : ∀ v : Later Y.heap.size Y, v.val.cell? ⟨gu + 1, 0, none⟩ = some (.int .i64 f) := fun v => (HX2.out.keep v.below).c0
  have q4 : ∀ v : Later Y.heap.size Y, v.val.cell? ⟨gu + 1 + 1, 0, none⟩ = some (.int .i64 t) := fun v => (HX3.out.keep v.below).c0
  obtain ⟨z, hzz⟩ : ∃ z : Later Y.heap.size Y, z.val = Y := ⟨Later.self _, rfl⟩
  obtain ⟨e0, he0⟩ : ∃ e0, e0 = errno (decide (lkOk n es [f, t])) 1 := ⟨_, rfl⟩
  have KF : Hid (Calls Try.prog 23 #[.agg #[.int .i64 n, .slice a es.length cap], .slice (some ⟨z.val.heap.size, 0, none⟩) 2 2] (z.val.alloc (.cells #[.int .i64 f, .int .i64 t] 3)) (Ret (z.val.alloc (.cells #[.int .i64 f, .int .i64 t] 3)).heap.size (z.val.alloc (.cells #[.int .i64 f, .int .i64 t] 3)) (.int .i64 e0))) := Lib.hid (by
    rw [he0]
    exact c_linksRight (Later.self (z.val.alloc (.cells #[.int .i64 f, .int .i64 t] 3))) n es [f, t] a _ cap 2 (HI.out.to (z.alloc _)) hlen (lit_two z f t) (by simp))
  rw [← hzz]
  clear hzz
  have q1z := q1 z
  have q2z := q2 z
  have q3z := q3 z
  have q4z := q4 z
  by_cases hok : lkOk n es [f, t]
  case neg =>
    have e1 : e0 = 1 := by rw [he0, decide_eq_false hok]; rfl
    have hno := Lib.hid (HNo.out hok)
    rw [e1] at KF
    clear hok he0 e1
    go_upto_region 2 with (first | (go_at_call 23; (with_reducible refine (KF.out).mono ?_); rintro e _ ⟨rfl, v0', rfl⟩))
    obtain ⟨v0, hv0⟩ : ∃ v0 : Later Y.heap.size Y, v0.val = v0'.val := ⟨(z.alloc _).up v0', rfl⟩
    rw [← hv0]
    clear hv0
    go_wp2
    go_ret2
    rw [hno.out.1, hno.out.2]
    exact RetP.of (HVY.out v0) ⟨none, 0, rfl, fun i hi => by simp at hi⟩
  have e1 : e0 = 0 := by rw [he0, decide_eq_true hok]; rfl
  obtain ⟨hG, ⟨hf0, hf1⟩, ht0, ht1⟩ := lk_two.1 hok
  obtain ⟨m, rfl⟩ := Int.eq_ofNat_of_zero_le (show 0 ≤ n by have := hG.1; omega)
  obtain ⟨s0, rfl⟩ := Int.eq_ofNat_of_zero_le hf0
  obtain ⟨s1, rfl⟩ := Int.eq_ofNat_of_zero_le ht0
  rw [show ((m : Int)).toNat = m by omega] at hf1 ht1
  have hfr : s0 < bit m := by omega
  have htw : s1 < bit m := by omega
  have hr := Lib.hid (HY2.out m s0 s1 rfl rfl rfl hG hfr htw)
  rw [e1] at KF
  have HG := Lib.hid hG
  clear HY2 hok ht0 ht1 hf0 hf1 hG HNo he0 e1
  go_upto_region 4 with (first | (go_at_call 23; (with_reducible refine (KF.out).mono ?_); rintro e _ ⟨rfl, v0', rfl⟩))
  obtain ⟨v0, hv0⟩ : ∃ v0 : Later Y.heap.size Y, v0.val = v0'.val := ⟨(z.alloc _).up v0', rfl⟩
  rw [← hv0]
  clear hv0 q1z q2z q3z q4z KF
  have hsf := fun (a : Addr) (c : Array Value) (w : World) => run_store Try.prog w a (.func (.func 27) #[] c) .plain rfl
  have hsf2 := fun (a : Addr) (c : Array Value) (w : World) => run_store Try.prog w a (.func (.func 30) #[] c) .plain rfl
  have hvs := v0.size
  have hm7 : m ≤ 7 := by have := HG.out.2.1; omega
  have hbm := bit_le m (by omega)
  have j1 : (v0.val.alloc (.cells #[.slice none 0 0] 29)).heap.size = v0.val.heap.size + 1 := by simp
  have j2 : ((v0.val.alloc (.cells #[.slice none 0 0] 29)).alloc (.cells #[.func (.func 30) #[] #[.pointer (some ⟨gu, 0, none⟩), .pointer (some ⟨gu + 1, 0, none⟩), .pointer (some ⟨v0.val.heap.size + 1 + 1, 0, none⟩)]] 28)).heap.size = v0.val.heap.size + 1 + 1 := by simp
  have HZs : Hid ((((v0.val.alloc (.cells #[.slice none 0 0] 29)).alloc (.cells #[.func (.func 30) #[] #[.pointer (some ⟨gu, 0, none⟩), .pointer (some ⟨gu + 1, 0, none⟩), .pointer (some ⟨v0.val.heap.size + 1 + 1, 0, none⟩)]] 28)).alloc (.cells #[.func (.func 27) #[] #[.pointer (some ⟨gu + 1 + 1, 0, none⟩), .pointer (some ⟨v0.val.heap.size, 0, none⟩), .pointer (some ⟨v0.val.heap.size + 1, 0, none⟩), .pointer (some ⟨gu, 0, none⟩), .pointer (some ⟨v0.val.heap.size + 1 + 1, 0, none⟩)]] 49)).heap.size = v0.val.heap.size + 3) := Lib.hid (by simp)
  have HZ1 : Hid (RowAt1 (((v0.val.alloc (.cells #[.slice none 0 0] 29)).alloc (.cells #[.func (.func 30) #[] #[.pointer (some ⟨gu, 0, none⟩), .pointer (some ⟨gu + 1, 0, none⟩), .pointer (some ⟨v0.val.heap.size + 1 + 1, 0, none⟩)]] 28)).alloc (.cells #[.func (.func 27) #[] #[.pointer (some ⟨gu + 1 + 1, 0, none⟩), .pointer (some ⟨v0.val.heap.size, 0, none⟩), .pointer (some ⟨v0.val.heap.size + 1, 0, none⟩), .pointer (some ⟨gu, 0, none⟩), .pointer (some ⟨v0.val.heap.size + 1 + 1, 0, none⟩)]] 49)) v0.val.heap.size 29 (.slice none 0 0)) := Lib.hid (by
    have h1 : RowAt1 (v0.val.alloc (.cells #[.slice none 0 0] 29)) v0.val.heap.size 29 (.slice none 0 0) := heap_alloc_new _ _
    exact (h1.keep ((Below.refl _ _).alloc (Nat.le_refl _) _)).keep ((Below.refl _ _).alloc (Nat.le_refl _) _))
  have HZ2 : Hid (RowAt1 (((v0.val.alloc (.cells #[.slice none 0 0] 29)).alloc (.cells #[.func (.func 30) #[] #[.pointer (some ⟨gu, 0, none⟩), .pointer (some ⟨gu + 1, 0, none⟩), .pointer (some ⟨v0.val.heap.size + 1 + 1, 0, none⟩)]] 28)).alloc (.cells #[.func (.func 27) #[] #[.pointer (some ⟨gu + 1 + 1, 0, none⟩), .pointer (some ⟨v0.val.heap.size, 0, none⟩), .pointer (some ⟨v0.val.heap.size + 1, 0, none⟩), .pointer (some ⟨gu, 0, none⟩), .pointer (some ⟨v0.val.heap.size + 1 + 1, 0, none⟩)]] 49)) (v0.val.heap.size + 1) 28 (.func (.func 30) #[] #[.pointer (some ⟨gu, 0, none⟩), .pointer (some ⟨gu + 1, 0, none⟩), .pointer (some ⟨v0.val.heap.size + 1 + 1, 0, none⟩)])) := Lib.hid (by
    have h1 : RowAt1 ((v0.val.alloc (.cells #[.slice none 0 0] 29)).alloc (.cells #[.func (.func 30) #[] #[.pointer (some ⟨gu, 0, none⟩), .pointer (some ⟨gu + 1, 0, none⟩), .pointer (some ⟨v0.val.heap.size + 1 + 1, 0, none⟩)]] 28)) (v0.val.alloc (.cells #[.slice none 0 0] 29)).heap.size 28 (.func (.func 30) #[] #[.pointer (some ⟨gu, 0, none⟩), .pointer (some ⟨gu + 1, 0, none⟩), .pointer (some ⟨v0.val.heap.size + 1 + 1, 0, none⟩)]) := heap_alloc_new _ _
    rw [j1] at h1
    exact h1.keep ((Below.refl _ _).alloc (Nat.le_refl _) _))
  have HZ3 : Hid (RowAt1 (((v0.val.alloc (.cells #[.slice none 0 0] 29)).alloc (.cells #[.func (.func 30) #[] #[.pointer (some ⟨gu, 0, none⟩), .pointer (some ⟨gu + 1, 0, none⟩), .pointer (some ⟨v0.val.heap.size + 1 + 1, 0, none⟩)]] 28)).alloc (.cells #[.func (.func 27) #[] #[.pointer (some ⟨gu + 1 + 1, 0, none⟩), .pointer (some ⟨v0.val.heap.size, 0, none⟩), .pointer (some ⟨v0.val.heap.size + 1, 0, none⟩), .pointer (some ⟨gu, 0, none⟩), .pointer (some ⟨v0.val.heap.size + 1 + 1, 0, none⟩)]] 49)) (v0.val.heap.size + 1 + 1) 49 (.func (.func 27) #[] #[.pointer (some ⟨gu + 1 + 1, 0, none⟩), .pointer (some ⟨v0.val.heap.size, 0, none⟩), .pointer (some ⟨v0.val.heap.size + 1, 0, none⟩), .pointer (some ⟨gu, 0, none⟩), .pointer (some ⟨v0.val.heap.size + 1 + 1, 0, none⟩)])) := Lib.hid (by
    have h1 : RowAt1 (((v0.val.alloc (.cells #[.slice none 0 0] 29)).alloc (.cells #[.func (.func 30) #[] #[.pointer (some ⟨gu, 0, none⟩), .pointer (some ⟨gu + 1, 0, none⟩), .pointer (some ⟨v0.val.heap.size + 1 + 1, 0, none⟩)]] 28)).alloc (.cells #[.func (.func 27) #[] #[.pointer (some ⟨gu + 1 + 1, 0, none⟩), .pointer (some ⟨v0.val.heap.size, 0, none⟩), .pointer (some ⟨v0.val.heap.size + 1, 0, none⟩), .pointer (some ⟨gu, 0, none⟩), .pointer (some ⟨v0.val.heap.size + 1 + 1, 0, none⟩)]] 49)) ((v0.val.alloc (.cells #[.slice none 0 0] 29)).alloc (.cells #[.func (.func 30) #[] #[.pointer (some ⟨gu, 0, none⟩), .pointer (some ⟨gu + 1, 0, none⟩), .pointer (some ⟨v0.val.heap.size + 1 + 1, 0, none⟩)]] 28)).heap.size 49 (.func (.func 27) #[] #[.pointer (some ⟨gu + 1 + 1, 0, none⟩), .pointer (some ⟨v0.val.heap.size, 0, none⟩), .pointer (some ⟨v0.val.heap.size + 1, 0, none⟩), .pointer (some ⟨gu, 0, none⟩), .pointer (some ⟨v0.val.heap.size + 1 + 1, 0, none⟩)]) := heap_alloc_new _ _
    rwa [j2] at h1)
  go_upto_region 9 with fail
  obtain ⟨z1, hz1⟩ : ∃ z : Later Y.heap.size Y, z.val = (((v0.val.alloc (.cells #[.slice none 0 0] 29)).alloc (.cells #[.func (.func 30) #[] #[.pointer (some ⟨gu, 0, none⟩), .pointer (some ⟨gu + 1, 0, none⟩), .pointer (some ⟨v0.val.heap.size + 1 + 1, 0, none⟩)]] 28)).alloc (.cells #[.func (.func 27) #[] #[.pointer (some ⟨gu + 1 + 1, 0, none⟩), .pointer (some ⟨v0.val.heap.size, 0, none⟩), .pointer (some ⟨v0.val.heap.size + 1, 0, none⟩), .pointer (some ⟨gu, 0, none⟩), .pointer (some ⟨v0.val.heap.size + 1 + 1, 0, none⟩)]] 49)) := ⟨((v0.alloc _).alloc _).alloc _, rfl⟩
  rw [← hz1] at HZ1 HZ2 HZ3 HZs ⊢
  generalize v0.val.heap.size = g at *
  clear hz1 j1 j2 v0
  have H : WyOk z1.val.heap.size g z1.val m es a cap s0 s1 gu (gu + 1) (gu + 1 + 1) (g + 1) (g + 1 + 1) := {
    hBW := Nat.le_refl _
    lt := by have := HZs.out; omega
    ne := by omega
    graph := HG.out
    hfr := hfr
    htw := htw
    edges := (HI.out.later z1.below).mono hvs
    cg0 := q1 z1
    cg1 := q2 z1
    cf := q3 z1
    ct := q4 z1
    cn := HZ2.out.c0
    con := HZ3.out.c0 }
  have hsz := sz_le_m (n := m) (s := s0) (by omega) hfr
  have KN := c_nextW z1.val.heap.size g z1.val m es a cap s0 s1 gu (gu + 1) (gu + 1 + 1) (g + 1) (g + 1 + 1) H (elems s0) (by show sz s0 ≤ 7; omega) ⟨z1.val, rfl, rfl, rfl, Nat.le_refl _, Nat.le_refl _, fun _ _ _ => rfl⟩ 0 0 [] none 0 (OutW.start (by have := HZs.out; omega) HZ1.out) (Nat.zero_le _) (elemsGe_zero s0) (by omega) (by show 0 + sz s0 ≤ 7; omega)
  have cnx : z1.val.cell? ⟨g + 1, 0, none⟩ = some (.func (.func 30) #[] #[.pointer (some ⟨gu, 0, none⟩), .pointer (some ⟨gu + 1, 0, none⟩), .pointer (some ⟨g + 1 + 1, 0, none⟩)]) := HZ2.out.c0
  have HVz : Hid (∀ w : World, Kept g none z1.val w → ∃ x : Later B W, x.val = w) := Lib.hid (fun w hk => HVB.out z1 w (hk.below z1.size hvs (fun g e => by cases e)))
  have KN2 : Hid (Calls Try.prog 30 #[.int .i64 0, .int .i64 0, .pointer (some ⟨gu, 0, none⟩), .pointer (some ⟨gu + 1, 0, none⟩), .pointer (some ⟨g + 1 + 1, 0, none⟩)] z1.val (fun ee w' => (∃ x : Later B W, x.val = w') ∧ ((ee = .returned (.bool true) ∧ e = 0 ∧ ∃ ad cp, w'.cell? ⟨g, 0, none⟩ = some (.slice ad rows.length cp) ∧ RowsR w'.heap.size w' ad rows) ∨ (ee = .returned (.bool false) ∧ e = 5 ∧ rows = [])))) := Lib.hid (KN.mono (by
    rintro ee _ ⟨v', ad', cp', rfl, hk, hn, hh⟩
    refine ⟨HVz.out _ hk, ?_⟩
    rcases hr.out with ⟨r, h1, h2, rfl⟩ | ⟨h1, h2, h3⟩ <;> rw [h1] at hh
    · rcases hh with ⟨r', e1, e2, e3⟩ | ⟨e1, _⟩
      · cases e1
        rw [List.nil_append] at e3
        exact .inl ⟨e2, h2, ad', cp', e3.2.2.1.c0, e3.rows⟩
      · cases e1
    · rcases hh with ⟨r', e1, _⟩ | ⟨_, e2, _⟩
      · cases e1
      · exact .inr ⟨e2, h2, h3⟩))
  clear KN H HZ1 HZ2 HZ3 hr HG HI q1 q2 q3 q4
  have KN3 : Hid (Calls Try.prog 30 #[.int .i64 0, .int .i64 0, .pointer (some ⟨gu, 0, none⟩), .pointer (some ⟨gu + 1, 0, none⟩), .pointer (some ⟨g + 1 + 1, 0, none⟩)] z1.val (fun ee w' => ∃ (bb : Bool) (x : Later B W), ee = .returned (.bool bb) ∧ w' = x.val ∧ ((bb = true ∧ e = 0 ∧ ∃ ad cp, x.val.cell? ⟨g, 0, none⟩ = some (.slice ad rows.length cp) ∧ RowsR x.val.heap.size x.val ad rows) ∨ (bb = false ∧ e = 5 ∧ rows = [])))) := Lib.hid (KN2.out.mono (by
    rintro ee _ ⟨⟨x, rfl⟩, ⟨e1, h⟩ | ⟨e1, h⟩⟩
    · exact ⟨true, x, e1, rfl, .inl ⟨rfl, h⟩⟩
    · exact ⟨false, x, e1, rfl, .inr ⟨rfl, h⟩⟩))
  clear KN2
  go_upto_if 24 with (first | (go_at_call 30; (with_reducible refine (KN3.out).mono ?_); rintro ee _ ⟨bb, x, rfl, rfl, hh⟩))
  clear cnx
  rcases hh with ⟨rfl, h2, ad, cp, hc, hR⟩ | ⟨rfl, h2, h3⟩
  · go_wp2
    go_ret2
    rw [h2]
    exact RetP.of ⟨x, rfl⟩ ⟨ad, cp, rfl, hR⟩
  · go_wp2
    go_ret2
    rw [h2, h3]
    exact RetP.of ⟨x, rfl⟩ ⟨none, 0, rfl, fun i hi => by simp at hi⟩

end Go.Proofs.Ytnhpefcjgaimeaa
