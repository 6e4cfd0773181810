
/-
  rotaref.Barrier, rotaref.Gammoid; links.right.
  links.Gammoid, links.Sets.
-/
import Derived.Test.YtpkjpmkmcffkhaaPk20
import Derived.Test.YtpkjpmkmcffkhaaPk29
namespace Go.Proofs.Ytpkjpmkmcffkhaa
open Go.RowKit
set_option linter.unusedVariables false

set_option maxRecDepth 100000 in
set_option maxHeartbeats 8000000 in
theorem c_barrier {B : Nat} {W : World} (u : Later B W) (n fr tw : Nat) (es : List (Int × Int)) (a : Option Addr) (cap : Nat) (h : EdgesAt B W a es) (hG : isGraph (n : Int) es) (hfr : fr < bit n) (htw : tw < bit n) :
    Calls Try.prog 14 #[.agg #[.int .i64 n, .slice a es.length cap], .int .i64 fr, .int .i64 tw] u.val (Ret B W (.int .i64 (barr n es fr tw))) := by
  have hn7 : n ≤ 7 := by have := hG.2.1; omega
  have hbn := bit_le n (by omega)
  have T0 : Hid (Two (u.val.alloc (.cells #[.int .i64 n, .slice a es.length cap] 24)) u.val.heap.size 24 (.int .i64 n) (.slice a es.length cap)) := Lib.hid (Two.new _ _ _ _)
  have hrr : u.val.heap.size < (u.val.alloc (.cells #[.int .i64 n, .slice a es.length cap] 24)).heap.size := by simp
  have HV : Hid (∀ v : Later (u.val.alloc (.cells #[.int .i64 n, .slice a es.length cap] 24)).heap.size (u.val.alloc (.cells #[.int .i64 n, .slice a es.length cap] 24)), ∃ w : Later B W, w.val = v.val) := Lib.hid (fun v => ⟨(u.alloc _).up v, rfl⟩)
  have HE : Hid (EdgesAt (u.val.alloc (.cells #[.int .i64 n, .slice a es.length cap] 24)).heap.size (u.val.alloc (.cells #[.int .i64 n, .slice a es.length cap] 24)) a es) := Lib.hid (h.to (u.alloc _))
  have HI := Lib.hid hG
  have HBe := Lib.hid (barr_spec (tw := tw) (Grf.of hG) hfr).1
  clear h hG
  go_enter Try.func14, Try.ntmps14
  go_upto_region 1 with fail
  generalize hr2 : u.val.heap.size = g0 at *
  generalize u.val.alloc (.cells #[.int .i64 n, .slice a es.length cap] 24) = W1 at *
  clear hr2 u
  obtain ⟨v0, hv0⟩ : ∃ v0 : Later W1.heap.size W1, v0.val = W1 := ⟨Later.self _, rfl⟩
  have q0 : ∀ v : Later W1.heap.size W1, v.val.cell? ⟨g0, 0, none⟩ = some (.int .i64 n) := fun v => (T0.out.keep_at v.below hrr).c0
  have q1 : ∀ v : Later W1.heap.size W1, v.val.cell? ⟨g0, 1, none⟩ = some (.slice a es.length cap) := fun v => (T0.out.keep_at v.below hrr).c1
  have KA : Hid (∀ v : Later W1.heap.size W1, Calls Try.prog 22 #[.int .i64 n] v.val (Ret W1.heap.size W1 (.int .i64 ((bit n : Int) - 1)))) := Lib.hid (fun v => by
    have := c_all v (n : Int) (by omega) (by omega)
    rwa [all_nat, show ((bit n - 1 : Nat) : Int) = (bit n : Int) - 1 by omega] at this)
  rw [← hv0]
  clear hv0
  go_wp2
  go_loopw [7, 8] (fun b i wr => ∃ (s : Nat) (v : Later W1.heap.size W1), s ≤ bit n ∧ i = .int .i64 s ∧ b = .int .i64 (bst (barO es fr tw) s) ∧ wr = v.val) (fun _ i _ => bit n - (intOf i).toNat)
  case atStart => exact ⟨0, v0, by omega, rfl, rfl, rfl⟩
  case round =>
    clear v0
    obtain ⟨s, v, hs, rfl, rfl, rfl⟩ := hrel
    have KA1 := Lib.hid (KA.out v)
    have q0v := q0 v
    rcases ile (s : Int) ((bit n : Int) - 1) with ⟨hlt, d0⟩ | ⟨hlt, d0⟩
    · have hsb : s < bit n := by omega
      have KP := Lib.hid (fun w : Later W1.heap.size W1 => c_paths w n fr s es a cap HE.out HI.out hfr hsb)
      have HSt : Hid (bst (barO es fr tw) (s + 1) = if barO es fr tw s = true ∧ (bst (barO es fr tw) s < 0 ∨ sz s < sz (bst (barO es fr tw) s).toNat) then (s : Int) else bst (barO es fr tw) s) := Lib.hid rfl
      have hlo := bst_lo (barO es fr tw) s
      have HO : Hid (barO es fr tw s = decide (rchS es fr s &&& tw = 0)) := Lib.hid rfl
      have hrl := rchS_lt es fr s
      have o1 := i64_and (rchS es fr s) tw (by omega) (by omega)
      have KZ := Lib.hid (fun (x : Nat) (hx : x < 256) (w : Later W1.heap.size W1) => c_size w x hx)
      have KZs := Lib.hid (KZ.out s (by omega))
      generalize barO es fr tw s = ok at *
      generalize rchS es fr s = X at *
      by_cases h0 : X &&& tw = 0
      · have hok : ok = true := by rw [HO.out]; simpa using h0
        subst hok
        rw [h0] at o1
        clear HO h0
        rcases ilt (bst (barO es fr tw) s) 0 with ⟨g1, d1⟩ | ⟨g1, d1⟩
        · have HN : Hid (bst (barO es fr tw) (s + 1) = s) := Lib.hid (by rw [HSt.out, if_pos ⟨rfl, .inl g1⟩])
          generalize bst (barO es fr tw) s = b at *
          clear HSt g1
          go_wp2_with (first | (go_at_call 22; refine (KA1.out).mono ?_; rintro e _ ⟨rfl, v1, rfl⟩) | (go_at_call 30; refine ((KP.out v1)).mono ?_; rintro e _ ⟨rfl, v2, rfl⟩))
          go_roundw
          case rel => exact ⟨s+1, v2, by omega, by go_num, by rw [HN.out], rfl⟩
          case measure => simp [intOf]; omega
        · obtain ⟨b, hb⟩ := Int.eq_ofNat_of_zero_le g1
          rw [hb] at HSt hlo d1 ⊢
          have KZb := Lib.hid (KZ.out b (by omega))
          have hb2 : ((b : Nat) : Int).toNat = b := by omega
          rw [hb2] at HSt
          have z1 := sz_le s
          have z2 := sz_le b
          rcases nlt (sz s) (sz b) with ⟨g2, d2⟩ | ⟨g2, d2⟩
          · have HN : Hid (bst (barO es fr tw) (s + 1) = s) := Lib.hid (by rw [HSt.out, if_pos ⟨rfl, .inr g2⟩])
            clear HSt hb
            generalize sz s = zs at *
            generalize sz b = zb at *
            go_wp2_with (first | (go_at_call 22; refine (KA1.out).mono ?_; rintro e _ ⟨rfl, v1, rfl⟩) | (go_at_call 30; refine ((KP.out v1)).mono ?_; rintro e _ ⟨rfl, v2, rfl⟩) | (go_at_call 15; refine ((KZs.out v2)).mono ?_; rintro e _ ⟨rfl, v3, rfl⟩) | (go_at_call 15; refine ((KZb.out v3)).mono ?_; rintro e _ ⟨rfl, v4, rfl⟩))
            go_roundw
            case rel => exact ⟨s+1, v4, by omega, by go_num, by rw [HN.out], rfl⟩
            case measure => simp [intOf]; omega
          · have HN : Hid (bst (barO es fr tw) (s + 1) = b) := Lib.hid (by rw [HSt.out, if_neg (by rintro ⟨_, c | c⟩ <;> omega)])
            clear HSt hb
            generalize sz s = zs at *
            generalize sz b = zb at *
            go_wp2_with (first | (go_at_call 22; refine (KA1.out).mono ?_; rintro e _ ⟨rfl, v1, rfl⟩) | (go_at_call 30; refine ((KP.out v1)).mono ?_; rintro e _ ⟨rfl, v2, rfl⟩) | (go_at_call 15; refine ((KZs.out v2)).mono ?_; rintro e _ ⟨rfl, v3, rfl⟩) | (go_at_call 15; refine ((KZb.out v3)).mono ?_; rintro e _ ⟨rfl, v4, rfl⟩))
            go_roundw
            case rel => exact ⟨s+1, v4, by omega, by go_num, by rw [HN.out], rfl⟩
            case measure => simp [intOf]; omega
      · have hok : ok = false := by rw [HO.out]; simpa using h0
        subst hok
        have HN : Hid (bst (barO es fr tw) (s + 1) = bst (barO es fr tw) s) := Lib.hid (by rw [HSt.out, if_neg (by rintro ⟨c, _⟩; cases c)])
        generalize bst (barO es fr tw) s = b at *
        have hx2 : X &&& tw ≤ X := Nat.and_le_left
        generalize X &&& tw = y at *
        have d1 : ((y : Int) == 0) = false := by rw [beq_eq_false_iff_ne]; omega
        clear HSt HO h0
        go_wp2_with (first | (go_at_call 22; refine (KA1.out).mono ?_; rintro e _ ⟨rfl, v1, rfl⟩) | (go_at_call 30; refine ((KP.out v1)).mono ?_; rintro e _ ⟨rfl, v2, rfl⟩))
        go_roundw
        case rel => exact ⟨s+1, v2, by omega, by go_num, by rw [HN.out], rfl⟩
        case measure => simp [intOf]; omega
    · have hse : s = bit n := by omega
      subst hse
      rw [HBe.out]
      go_wp2_with (first | (go_at_call 22; refine (KA1.out).mono ?_; rintro e _ ⟨rfl, v1, rfl⟩))
      go_ret
      obtain ⟨w, hw⟩ := HV.out v1
      rw [← hw]; exact Ret.mk w rfl

set_option maxRecDepth 100000 in
set_option maxHeartbeats 8000000 in
theorem c_gamTell {B : Nat} {W : World} (u : Later B W) (n s tw : Nat) (es : List (Int × Int)) (a : Option Addr) (cap gg gw : Nat) (h : EdgesAt B W a es) (hG : isGraph (n : Int) es) (hs : s < bit n) (htw : tw < bit n) (hgg : gg < B) (hgw : gw < B) (h0 : W.cell? ⟨gg, 0, none⟩ = some (.int .i64 n)) (h1 : W.cell? ⟨gg, 1, none⟩ = some (.slice a es.length cap)) (h2 : W.cell? ⟨gw, 0, none⟩ = some (.int .i64 tw)) :
    Calls Try.prog 24 #[.int .i64 s, .pointer (some ⟨gw, 0, none⟩), .pointer (some ⟨gg, 0, none⟩)] u.val (Ret B W (.bool (gamB n es tw s))) := by
  have hn7 : n ≤ 7 := by have := hG.2.1; omega
  have hbn := bit_le n (by omega)
  have q0 : ∀ v : Later B W, v.val.cell? ⟨gg, 0, none⟩ = some (.int .i64 n) := fun v => by rw [v.cell hgg, h0]
  have q1 : ∀ v : Later B W, v.val.cell? ⟨gg, 1, none⟩ = some (.slice a es.length cap) := fun v => by rw [v.cell hgg, h1]
  have q2 : ∀ v : Later B W, v.val.cell? ⟨gw, 0, none⟩ = some (.int .i64 tw) := fun v => by rw [v.cell hgw, h2]
  have hbl := (barr_spec (tw := tw) (Grf.of hG) hs).2.1
  have KB := Lib.hid (fun v : Later B W => c_barrier v n s tw es a cap h hG hs htw)
  have KZ := Lib.hid (fun (x : Nat) (hx : x < 256) (w : Later B W) => c_size w x hx)
  have HR : Hid (gamB n es tw s = decide (sz s = sz tw ∧ sz (barr n es s tw) = sz s)) := Lib.hid rfl
  have z1 := sz_le s
  have z2 := sz_le tw
  have z3 := sz_le (barr n es s tw)
  have l1 : s < 256 := by omega
  have l2 : tw < 256 := by omega
  have l3 : barr n es s tw < 256 := by omega
  clear h hG h0 h1 h2
  generalize gamB n es tw s = res at *
  generalize barr n es s tw = b at *
  rcases ieq (sz s : Int) (sz tw : Int) with ⟨e1, d1, _⟩ | ⟨e1, d1, _⟩
  · rcases ieq (sz b : Int) (sz s : Int) with ⟨e2, d2, _⟩ | ⟨e2, d2, _⟩
    · have hr : res = true := by rw [HR.out, decide_eq_true_eq]; omega
      subst hr
      have e1' : sz s = sz tw := by omega
      have e2' : sz b = sz s := by omega
      have f1 : (sz s == sz tw) = true := by rw [beq_iff_eq]; exact e1'
      have f2 : (sz b == sz s) = true := by rw [beq_iff_eq]; exact e2'
      clear e1 e2 e1' e2' HR
      have KS1 := Lib.hid (KZ.out s l1)
      have KS2 := Lib.hid (KZ.out tw l2)
      have KS3 := Lib.hid (KZ.out b l3)
      go_enter Try.func24, Try.ntmps24
      go_wp2
      refine wp_region_later u (by kernel_rfl) (by kernel_rfl) (fun _ => ?_)
      repeat (first | go_big_quiet_step ((first | (go_at_call 15; exact (by first | exact KS1.out _ | exact KS2.out _ | exact KS3.out _)) | (go_at_call 14; exact KB.out _))) | (refine wpQuiet_step (fun K hK => ?_); go_simp; refine ⟨_, fun _ => rfl, ?_⟩; refine hK _ ?_; clear hK K))
      refine wpQuiet_nil ?_
      intro u
      go_wp2
      go_ret
      exact Ret.mk u rfl
    · have hr : res = false := by rw [HR.out, decide_eq_false_iff_not]; omega
      subst hr
      have f1 : (sz s == sz tw) = true := by rw [beq_iff_eq]; omega
      have f2 : (sz b == sz s) = false := by rw [beq_eq_false_iff_ne]; omega
      clear e1 e2 HR
      have KS1 := Lib.hid (KZ.out s l1)
      have KS2 := Lib.hid (KZ.out tw l2)
      have KS3 := Lib.hid (KZ.out b l3)
      go_enter Try.func24, Try.ntmps24
      go_wp2
      refine wp_region_later u (by kernel_rfl) (by kernel_rfl) (fun _ => ?_)
      repeat (first | go_big_quiet_step ((first | (go_at_call 15; exact (by first | exact KS1.out _ | exact KS2.out _ | exact KS3.out _)) | (go_at_call 14; exact KB.out _))) | (refine wpQuiet_step (fun K hK => ?_); go_simp; refine ⟨_, fun _ => rfl, ?_⟩; refine hK _ ?_; clear hK K))
      refine wpQuiet_nil ?_
      intro u
      go_wp2
      go_ret
      exact Ret.mk u rfl
  · have hr : res = false := by rw [HR.out, decide_eq_false_iff_not]; omega
    subst hr
    have f1 : (sz s == sz tw) = false := by rw [beq_eq_false_iff_ne]; omega
    clear e1 HR
    have KS1 := Lib.hid (KZ.out s l1)
    have KS2 := Lib.hid (KZ.out tw l2)
    go_enter Try.func24, Try.ntmps24
    go_wp2
    refine wp_region_later u (by kernel_rfl) (by kernel_rfl) (fun _ => ?_)
    repeat (first | go_big_quiet_step (((go_at_call 15; exact (by first | exact KS1.out _ | exact KS2.out _)))) | (refine wpQuiet_step (fun K hK => ?_); go_simp; refine ⟨_, fun _ => rfl, ?_⟩; refine hK _ ?_; clear hK K))
    refine wpQuiet_nil ?_
    intro u
    go_wp2
    go_ret
    exact Ret.mk u rfl

set_option maxRecDepth 100000 in
set_option maxHeartbeats 8000000 in
theorem c_refGammoid {B : Nat} {W : World} (u : Later B W) (n tw : Nat) (es : List (Int × Int)) (a : Option Addr) (cap : Nat) (h : EdgesAt B W a es) (hG : isGraph (n : Int) es) (htw : tw < bit n) :
    Calls Try.prog 8 #[.agg #[.int .i64 n, .slice a es.length cap], .int .i64 tw] u.val (RetP B W (MatO B n (ints (those n (gamB n es tw))))) := by
  have hn7 : n ≤ 7 := by have := hG.2.1; omega
  have hB := u.size
  have X0 : Hid (Two (((u.val.alloc (.cells #[.int .i64 n, .slice a es.length cap] 24)).alloc (.cells #[.int .i64 tw] 3)).alloc (.cells #[.int .i64 0, .slice none 0 0] 31)) u.val.heap.size 24 (.int .i64 n) (.slice a es.length cap)) := Lib.hid (by
    have h1 : Two (u.val.alloc (.cells #[.int .i64 n, .slice a es.length cap] 24)) u.val.heap.size 24 (.int .i64 n) (.slice a es.length cap) := Two.new _ _ _ _
    exact (h1.keep (((Below.refl _ _).alloc (Nat.le_refl _) _))).keep ((Below.refl _ _).alloc (Nat.le_refl _) _))
  have X1 : Hid (RowAt1 (((u.val.alloc (.cells #[.int .i64 n, .slice a es.length cap] 24)).alloc (.cells #[.int .i64 tw] 3)).alloc (.cells #[.int .i64 0, .slice none 0 0] 31)) (u.val.heap.size + 1) 3 (.int .i64 tw)) := Lib.hid (by
    have h1 : RowAt1 ((u.val.alloc (.cells #[.int .i64 n, .slice a es.length cap] 24)).alloc (.cells #[.int .i64 tw] 3)) (u.val.heap.size + 1) 3 (.int .i64 tw) := by
      have h2 : (u.val.alloc (.cells #[.int .i64 n, .slice a es.length cap] 24)).heap.size = u.val.heap.size + 1 := by simp
      have h3 : RowAt1 ((u.val.alloc (.cells #[.int .i64 n, .slice a es.length cap] 24)).alloc (.cells #[.int .i64 tw] 3)) (u.val.alloc (.cells #[.int .i64 n, .slice a es.length cap] 24)).heap.size 3 (.int .i64 tw) := heap_alloc_new _ _
      rwa [h2] at h3
    exact h1.keep ((Below.refl _ _).alloc (Nat.le_refl _) _))
  have X2 : Hid (RowL (((u.val.alloc (.cells #[.int .i64 n, .slice a es.length cap] 24)).alloc (.cells #[.int .i64 tw] 3)).alloc (.cells #[.int .i64 0, .slice none 0 0] 31)) (u.val.heap.size + 2) 31 [.int .i64 0, .slice none 0 0]) := Lib.hid (by
    have h2 : ((u.val.alloc (.cells #[.int .i64 n, .slice a es.length cap] 24)).alloc (.cells #[.int .i64 tw] 3)).heap.size = u.val.heap.size + 2 := by simp
    have h3 := RowL.new ((u.val.alloc (.cells #[.int .i64 n, .slice a es.length cap] 24)).alloc (.cells #[.int .i64 tw] 3)) 31 [.int .i64 0, .slice none 0 0]
    rwa [h2] at h3)
  have hY : (((u.val.alloc (.cells #[.int .i64 n, .slice a es.length cap] 24)).alloc (.cells #[.int .i64 tw] 3)).alloc (.cells #[.int .i64 0, .slice none 0 0] 31)).heap.size = u.val.heap.size + 3 := by simp
  have HZ : Hid (∃ w : Later B W, w.val = (((u.val.alloc (.cells #[.int .i64 n, .slice a es.length cap] 24)).alloc (.cells #[.int .i64 tw] 3)).alloc (.cells #[.int .i64 0, .slice none 0 0] 31))) := Lib.hid ⟨((u.alloc _).alloc _).alloc _, rfl⟩
  have HE : Hid (EdgesAt (((u.val.alloc (.cells #[.int .i64 n, .slice a es.length cap] 24)).alloc (.cells #[.int .i64 tw] 3)).alloc (.cells #[.int .i64 0, .slice none 0 0] 31)).heap.size (((u.val.alloc (.cells #[.int .i64 n, .slice a es.length cap] 24)).alloc (.cells #[.int .i64 tw] 3)).alloc (.cells #[.int .i64 0, .slice none 0 0] 31)) a es) := Lib.hid (h.to (((u.alloc _).alloc _).alloc _))
  have HY := Lib.hid hY
  have HI := Lib.hid hG
  clear hY h hG
  go_enter Try.func8, Try.ntmps8
  go_upto_region 1 with fail
  generalize (((u.val.alloc (.cells #[.int .i64 n, .slice a es.length cap] 24)).alloc (.cells #[.int .i64 tw] 3)).alloc (.cells #[.int .i64 0, .slice none 0 0] 31)) = Y at *
  generalize u.val.heap.size = g at *
  obtain ⟨y, rfl⟩ := HZ.out
  have HV : Hid (∀ v : Later y.val.heap.size y.val, ∃ w : Later B W, w.val = v.val) := Lib.hid (fun v => ⟨y.up v, rfl⟩)
  have hg2 : g + 2 < y.val.heap.size := by have := HY.out; omega
  have f0 : ∀ (w : Later y.val.heap.size y.val), w.val.cell? ⟨g + 2, 0, none⟩ = some (.int .i64 0) := fun w => (X2.out.keep_at w.below hg2).cell rfl
  have z0 : ∀ (w : Later y.val.heap.size y.val), w.val.frozen? ⟨g + 2, 0, none⟩ = false := fun w => (X2.out.keep_at w.below hg2).fz 0
  have f1 : ∀ (w : Later y.val.heap.size y.val) (x0 : Value), (w.val.setCell ⟨g + 2, 0, none⟩ x0).cell? ⟨g + 2, 1, none⟩ = some (.slice none 0 0) := fun w x0 => ((X2.out.keep_at w.below hg2).set 0 x0).cell rfl
  have z1 : ∀ (w : Later y.val.heap.size y.val) (x0 : Value), (w.val.setCell ⟨g + 2, 0, none⟩ x0).frozen? ⟨g + 2, 1, none⟩ = false := fun w x0 => ((X2.out.keep_at w.below hg2).set 0 x0).fz 1
  have s0 : y.val.drew.cell? ⟨g, 0, none⟩ = some (.int .i64 n) := (X0.out.keep (Later.self y.val).drew.below).c0
  have sa : ∀ w : Later y.val.heap.size y.val, w.val.cell? ⟨g, 0, none⟩ = some (.int .i64 n) := fun w => (X0.out.keep w.below).c0
  have KT : Hid (Calls Try.prog 23 #[.int .i64 n, .func (.func 24) #[] #[.pointer (some ⟨g + 1, 0, none⟩), .pointer (some ⟨g, 0, none⟩)]] y.val.drew (RetOwn y.val.heap.size y.val (ints (those n (gamB n es tw))))) := Lib.hid (by
    refine c_those_own (Later.self y.val).drew n (by omega) 24 _ (gamB n es tw) (fun args w => by kernel_rfl) (fun x v s hs => ?_)
    have hx := x.size
    exact c_gamTell v n s tw es a cap g (g + 1) (HE.out.to x) HI.out hs htw (by omega) (by omega) ((X0.out.keep x.below).c0) ((X0.out.keep x.below).c1) ((X1.out.keep x.below).c0))
  clear X0 HE
  generalize those n (gamB n es tw) = A at *
  have se : ∀ (w : Later y.val.heap.size y.val) (x z : Value), ((w.val.setCell ⟨g + 2, 0, none⟩ x).setCell ⟨g + 2, 1, none⟩ z).cell? ⟨g, 0, none⟩ = some (.int .i64 n) := fun w x z => by
    rw [World.cell?_setCell_far _ _ _ _ (show g + 2 ≠ g by omega), World.cell?_setCell_far _ _ _ _ (show g + 2 ≠ g by omega)]
    exact sa w
  go_region_held3 (fun w' => w'.cell? ⟨g, 0, none⟩ = some (.int .i64 n)) (first | exact s0 | exact sa y1 | exact se y1 _ _) (first | (go_at_call 23; (with_reducible refine (KT.out).mono ?_); rintro e _ ⟨_, rfl, ⟨ad, cp, rfl, hO⟩, y1, rfl⟩))
  go_wp2
  refine bodyPost_ret (results_cell_row rfl _ _ (g + 2) 31 #[.int .i64 n, .slice ad (ints A).length cp] (0, 0) _ rfl (((X2.out.keep y1.below).set 0 _).set 1 _) Try.underlying31 rfl (by kernel_rfl)) rfl ?_
  have hBg : B ≤ g + 2 := by omega
  obtain ⟨z1, hz1⟩ := later_set (HV.out y1) (g := g + 2) (i := 0) hBg (.int .i64 n)
  obtain ⟨z2, hz2⟩ := later_set ⟨z1, hz1⟩ (g := g + 2) (i := 1) hBg (.slice ad (ints A).length cp)
  refine RetP.of ⟨z2, hz2⟩ ?_
  exact ⟨_, _, rfl, ((hO.set hg2 _).set hg2 _).mono (by omega)⟩

/-- a graph, and sets of its vertices -/
def lkOk (n : Int) (es : List (Int × Int)) (xs : List Int) : Prop := isGraph n es ∧ ∀ i, i < xs.length → 0 ≤ xs.getD i 0 ∧ xs.getD i 0 < bit n.toNat
noncomputable instance (n : Int) (es : List (Int × Int)) (xs : List Int) : Decidable (lkOk n es xs) := Classical.propDecidable _

set_option maxRecDepth 100000 in
set_option maxHeartbeats 8000000 in
theorem c_linksRight {B : Nat} {W : World} (u : Later B W) (n : Int) (es : List (Int × Int)) (xs : List Int) (a b : Option Addr) (cap cb : Nat) (h : EdgesAt B W a es) (hlen : es.length ≤ 4611686018427387904) (hx : IntsAt B W b xs) (hxl : xs.length ≤ 100) :
    Calls Try.prog 25 #[.agg #[.int .i64 n, .slice a es.length cap], .slice b xs.length cb] u.val (Ret B W (.int .i64 (errno (decide (lkOk n es xs)) 1))) := by
  have T0 : Hid (Two (u.val.alloc (.cells #[.int .i64 n, .slice a es.length cap] 24)) u.val.heap.size 24 (.int .i64 n) (.slice a es.length cap)) := Lib.hid (Two.new _ _ _ _)
  have hrr : u.val.heap.size < (u.val.alloc (.cells #[.int .i64 n, .slice a es.length cap] 24)).heap.size := by simp
  have HV : Hid (∀ v : Later (u.val.alloc (.cells #[.int .i64 n, .slice a es.length cap] 24)).heap.size (u.val.alloc (.cells #[.int .i64 n, .slice a es.length cap] 24)), ∃ w : Later B W, w.val = v.val) := Lib.hid (fun v => ⟨(u.alloc _).up v, rfl⟩)
  have HE : Hid (EdgesAt (u.val.alloc (.cells #[.int .i64 n, .slice a es.length cap] 24)).heap.size (u.val.alloc (.cells #[.int .i64 n, .slice a es.length cap] 24)) a es) := Lib.hid (h.to (u.alloc _))
  have HX : Hid (IntsAt (u.val.alloc (.cells #[.int .i64 n, .slice a es.length cap] 24)).heap.size (u.val.alloc (.cells #[.int .i64 n, .slice a es.length cap] 24)) b xs) := Lib.hid (hx.to (u.alloc _))
  clear h hx
  go_enter Try.func25, Try.ntmps25
  go_upto_region 1 with fail
  generalize hr2 : u.val.heap.size = g0 at *
  generalize u.val.alloc (.cells #[.int .i64 n, .slice a es.length cap] 24) = W1 at *
  clear hr2 u
  have p0 : W1.cell? ⟨g0, 0, none⟩ = some (.int .i64 n) := T0.out.c0
  have p1 : W1.cell? ⟨g0, 1, none⟩ = some (.slice a es.length cap) := T0.out.c1
  have q0 : ∀ v : Later W1.heap.size W1, v.val.cell? ⟨g0, 0, none⟩ = some (.int .i64 n) := fun v => (T0.out.keep_at v.below hrr).c0
  have K0 := Lib.hid (show Calls Try.prog 41 #[.agg #[.int .i64 n, .slice a es.length cap]] W1 _ from c_checkGraph (Later.self W1) n es a cap HE.out hlen)
  by_cases hG : isGraph n es
  · have e0 : errno (decide (isGraph n es)) 1 = 0 := by rw [decide_eq_true hG]; rfl
    rw [e0] at K0
    obtain ⟨m, rfl⟩ := Int.eq_ofNat_of_zero_le (show 0 ≤ n by have := hG.1; omega)
    have hm7 : m ≤ 7 := by have := hG.2.1; omega
    have bm := bit_cast m
    have hbm := bit_le m (by omega)
    have HP : Hid (∀ k, k = xs.length → (∀ i, i < k → 0 ≤ xs.getD i 0 ∧ xs.getD i 0 < bit m) → errno (decide (lkOk m es xs)) 1 = 0) := Lib.hid (fun k hk hf => by rw [decide_eq_true (p := lkOk m es xs) ⟨hG, by rw [← hk]; exact hf⟩]; rfl)
    have HN : Hid (∀ k, k < xs.length → ¬ (0 ≤ xs.getD k 0 ∧ xs.getD k 0 < bit m) → errno (decide (lkOk m es xs)) 1 = 1) := Lib.hid (fun k hk hf => by rw [decide_eq_false (p := lkOk m es xs) (fun c => hf (c.2 k hk))]; rfl)
    clear e0 hG
    generalize errno (decide (lkOk m es xs)) 1 = res at *
    go_wp2_with (first | (go_at_call 41; refine (K0.out).mono ?_; rintro e _ ⟨rfl, v0, rfl⟩))
    clear K0 p0 p1
    go_loopw [15] (fun i wr => ∃ (k : Nat) (v : Later W1.heap.size W1), k ≤ xs.length ∧ i = .int .i64 k ∧ wr = v.val ∧ Hid (∀ i, i < k → 0 ≤ xs.getD i 0 ∧ xs.getD i 0 < bit m)) (fun i _ => xs.length - (intOf i).toNat)
    case atStart => exact ⟨0, v0, by omega, rfl, rfl, Lib.hid (fun i hi => by omega)⟩
    case round =>
      clear v0
      obtain ⟨k, v, hk, rfl, rfl, hf⟩ := hrel
      have q0v := q0 v
      by_cases hlt : k < xs.length
      · obtain ⟨bb, off, rfl, hbB, hcell⟩ := HX.out.at hlt
        have c0 := hcell v k hlt
        have HY : Hid (0 ≤ xs.getD k 0 ∧ xs.getD k 0 < bit m → ∀ i, i < k + 1 → 0 ≤ xs.getD i 0 ∧ xs.getD i 0 < bit m) := Lib.hid (fun h i hi => by
          by_cases c : i = k
          · subst c; exact h
          · exact hf.out i (by omega))
        have HB := Lib.hid (HN.out k hlt)
        clear hcell hf
        generalize xs.getD k 0 = z at *
        rcases ilt z 0 with ⟨g1, p1⟩ | ⟨g1, p1⟩
        · have HR := Lib.hid (HB.out (by omega))
          clear HB HY g1
          go_wp2
          go_ret
          obtain ⟨w, hw⟩ := HV.out v
          rw [← hw]; exact Ret.mk w (vint HR.out.symm)
        · rcases ile (bit m : Int) z with ⟨g2, p2⟩ | ⟨g2, p2⟩
          · have HR := Lib.hid (HB.out (by omega))
            clear HB HY
            go_wp2
            go_ret
            obtain ⟨w, hw⟩ := HV.out v
            rw [← hw]; exact Ret.mk w (vint HR.out.symm)
          · have HF2 := Lib.hid (HY.out ⟨g1, g2⟩)
            clear HB HY
            go_wp2
            go_roundw
            case rel => exact ⟨k+1, v, by omega, by go_num, rfl, HF2⟩
            case measure => simp [intOf]; omega
      · have hke : k = xs.length := by omega
        have HR := Lib.hid (HP.out k hke hf.out)
        clear HP HN hf
        subst hke
        go_wp2
        go_ret
        obtain ⟨w, hw⟩ := HV.out v
        rw [← hw]; exact Ret.mk w (vint HR.out.symm)
  · have e0 : errno (decide (isGraph n es)) 1 = 1 := by rw [decide_eq_false hG]; rfl
    rw [e0] at K0
    have HR : Hid (errno (decide (lkOk n es xs)) 1 = 1) := Lib.hid (by rw [decide_eq_false (p := lkOk n es xs) (fun c => hG c.1)]; rfl)
    clear e0 hG
    go_wp2_with (first | (go_at_call 41; refine (K0.out).mono ?_; rintro e _ ⟨rfl, v0, rfl⟩))
    go_ret
    obtain ⟨w, hw⟩ := HV.out v0
    rw [← hw]; exact Ret.mk w (vint HR.out.symm)

end Go.Proofs.Ytpkjpmkmcffkhaa

namespace Go.Proofs.Ytpkjpmkmcffkhaa
open Go.RowKit
set_option linter.unusedVariables false

/-- a matroid, whose list the call owns, and an error -/
def MatTG (B : Nat) (n : Int) (xs : List Int) (er : Int) (v : Value) (w : World) : Prop := ∃ ad cp, v = .tuple #[.agg #[.int .i64 n, .slice ad xs.length cp], .int .i64 er] ∧ Own B w ad cp xs
theorem lk_one {n t : Int} {es : List (Int × Int)} : lkOk n es [t] ↔ isGraph n es ∧ 0 ≤ t ∧ t < bit n.toNat := by
  constructor
  · rintro ⟨h1, h2⟩
    exact ⟨h1, h2 0 (by simp)⟩
  · rintro ⟨h1, h2⟩
    refine ⟨h1, fun i hi => ?_⟩
    simp at hi
    subst hi
    exact h2
/-- the argument list of one set -/
theorem lit_one {B : Nat} {W : World} (v : Later B W) (t : Int) : IntsAt (v.val.alloc (.cells #[.int .i64 t] 3)).heap.size (v.val.alloc (.cells #[.int .i64 t] 3)) (some ⟨v.val.heap.size, 0, none⟩) [t] :=
  (Own.lit (B := v.val.heap.size) (Nat.le_refl _) t).reads

set_option maxRecDepth 100000 in
set_option maxHeartbeats 16000000 in
theorem c_linksGam {B : Nat} {W : World} (u : Later B W) (n t : Int) (es : List (Int × Int)) (a : Option Addr) (cap : Nat) (e n' : Int) (xs' : List Int) (h : EdgesAt B W a es) (hlen : es.length ≤ 4611686018427387904) (he : e = errno (decide (lkOk n es [t])) 1)
    (hz : e ≠ 0 → n' = 0 ∧ xs' = []) (hy : ∀ m s : Nat, n = (m : Int) → t = (s : Int) → isGraph (m : Int) es → s < bit m → n' = m ∧ xs' = ints (those m (gamB m es s))) :
    Calls Try.prog 10 #[.agg #[.int .i64 n, .slice a es.length cap], .int .i64 t] u.val (RetP B W (MatTG B n' xs' e)) := by
  have hB := u.size
  have k1 : (u.val.alloc (.cells #[.int .i64 n, .slice a es.length cap] 24)).heap.size = u.val.heap.size + 1 := by simp
  have X1 : Two ((u.val.alloc (.cells #[.int .i64 n, .slice a es.length cap] 24)).alloc (.cells #[.int .i64 0, .slice none 0 0] 31)) u.val.heap.size 24 (.int .i64 n) (.slice a es.length cap) := (Two.new u.val _ _ _).keep ((Below.refl _ _).alloc (Nat.le_refl _) _)
  have X2 : RowL ((u.val.alloc (.cells #[.int .i64 n, .slice a es.length cap] 24)).alloc (.cells #[.int .i64 0, .slice none 0 0] 31)) (u.val.heap.size + 1) 31 [.int .i64 0, .slice none 0 0] := by
    have h := RowL.new (u.val.alloc (.cells #[.int .i64 n, .slice a es.length cap] 24)) 31 [.int .i64 0, .slice none 0 0]
    rwa [k1] at h
  have hYs : ((u.val.alloc (.cells #[.int .i64 n, .slice a es.length cap] 24)).alloc (.cells #[.int .i64 0, .slice none 0 0] 31)).heap.size = u.val.heap.size + 2 := by simp
  have HVY : Hid (∀ v : Later ((u.val.alloc (.cells #[.int .i64 n, .slice a es.length cap] 24)).alloc (.cells #[.int .i64 0, .slice none 0 0] 31)).heap.size ((u.val.alloc (.cells #[.int .i64 n, .slice a es.length cap] 24)).alloc (.cells #[.int .i64 0, .slice none 0 0] 31)), ∃ w : Later B W, w.val = v.val) := Lib.hid (fun v => ⟨((u.alloc _).alloc _).up v, rfl⟩)
  have HI : Hid (EdgesAt ((u.val.alloc (.cells #[.int .i64 n, .slice a es.length cap] 24)).alloc (.cells #[.int .i64 0, .slice none 0 0] 31)).heap.size ((u.val.alloc (.cells #[.int .i64 n, .slice a es.length cap] 24)).alloc (.cells #[.int .i64 0, .slice none 0 0] 31)) a es) := Lib.hid (h.to ((u.alloc _).alloc _))
  have HX := Lib.hid X2
  have HX1 := Lib.hid X1
  have HYs := Lib.hid hYs
  have HE := Lib.hid he
  have HY2 := Lib.hid hy
  clear h he k1 X1 X2 hYs hy
  go_enter Try.func10, Try.ntmps10
  go_upto_region 1 with fail
  generalize ((u.val.alloc (.cells #[.int .i64 n, .slice a es.length cap] 24)).alloc (.cells #[.int .i64 0, .slice none 0 0] 31)) = Y at *
  generalize u.val.heap.size = gu at *
  have hgY : gu + 1 < Y.heap.size := by have := HYs.out; omega
  have hgY0 : gu < Y.heap.size := by omega
  have q1 : ∀ v : Later Y.heap.size Y, v.val.cell? ⟨gu, 0, none⟩ = some (.int .i64 n) := fun v => (HX1.out.keep v.below).c0
  have q2 : ∀ v : Later Y.heap.size Y, v.val.cell? ⟨gu, 1, none⟩ = some (.slice a es.length cap) := fun v => (HX1.out.keep v.below).c1
  have f0 : ∀ (w : Later Y.heap.size Y), w.val.cell? ⟨gu + 1, 0, none⟩ = some (.int .i64 0) := fun w => (HX.out.keep_at w.below hgY).cell rfl
  have z0 : ∀ (w : Later Y.heap.size Y), w.val.frozen? ⟨gu + 1, 0, none⟩ = false := fun w => (HX.out.keep_at w.below hgY).fz 0
  have f1 : ∀ (w : Later Y.heap.size Y) (x0 : Value), (w.val.setCell ⟨gu + 1, 0, none⟩ x0).cell? ⟨gu + 1, 1, none⟩ = some (.slice none 0 0) := fun w x0 => ((HX.out.keep_at w.below hgY).set 0 x0).cell rfl
  have z1 : ∀ (w : Later Y.heap.size Y) (x0 : Value), (w.val.setCell ⟨gu + 1, 0, none⟩ x0).frozen? ⟨gu + 1, 1, none⟩ = false := fun w x0 => ((HX.out.keep_at w.below hgY).set 0 x0).fz 1
  have hfin : ∀ (v : Later Y.heap.size Y) (nn : Int) (ad : Option Addr) (cp : Nat) (xs : List Int) (ee : Int) (tm : Array Value), Own Y.heap.size v.val ad cp xs → tm.getD 4 undef = .pointer (some ⟨gu + 1, 0, none⟩) → tm.getD 5 undef = .int .i64 ee → nn = n' → xs = xs' → ee = e → bodyPost Try.prog Try.f10 (RetP B W (MatTG B n' xs' e)) .ret { tmps := tm, defers := [] } ((v.val.setCell ⟨gu + 1, 0, none⟩ (.int .i64 nn)).setCell ⟨gu + 1, 1, none⟩ (.slice ad xs.length cp)) := fun v nn ad cp xs ee tm hO h4 h5 e1 e2 e3 => by
    subst e1 e2 e3
    refine bodyPost_ret (results_row (vs := [.int .i64 nn, .slice ad xs.length cp]) rfl _ _ (gu + 1) h4 (((HX.out.keep v.below).set 0 _).set 1 _) Try.underlying31 (by kernel_rfl)) rfl ?_
    obtain ⟨x1, hx1⟩ := later_set (HVY.out v) (g := gu + 1) (i := 0) (by omega) (.int .i64 nn)
    obtain ⟨x2, hx2⟩ := later_set ⟨x1, hx1⟩ (g := gu + 1) (i := 1) (by omega) (.slice ad xs.length cp)
    exact RetP.of ⟨x2, hx2⟩ ⟨ad, cp, by rw [h5], ((hO.set hgY _).set hgY _).mono (by omega)⟩
  have HF := Lib.hid hfin
  have HNo : Hid (e ≠ 0 → 0 = n' ∧ [] = xs') := Lib.hid (fun h => by have := hz h; exact ⟨this.1.symm, this.2.symm⟩)
  obtain ⟨z, hzz⟩ : ∃ z : Later Y.heap.size Y, z.val = Y := ⟨Later.self _, rfl⟩
  have KF : Hid (Calls Try.prog 25 #[.agg #[.int .i64 n, .slice a es.length cap], .slice (some ⟨z.val.heap.size, 0, none⟩) 1 1] (z.val.alloc (.cells #[.int .i64 t] 3)) (Ret (z.val.alloc (.cells #[.int .i64 t] 3)).heap.size (z.val.alloc (.cells #[.int .i64 t] 3)) (.int .i64 e))) := Lib.hid (by
    rw [HE.out]
    exact c_linksRight (Later.self (z.val.alloc (.cells #[.int .i64 t] 3))) n es [t] a _ cap 1 (HI.out.to (z.alloc _)) hlen (lit_one z t) (by simp))
  clear hfin hz
  rw [← hzz]
  clear hzz
  have q1z := q1 z
  have q2z := q2 z
  by_cases hok : lkOk n es [t]
  case neg =>
    have e1 := Lib.hid (show e = 1 by rw [HE.out, decide_eq_false hok]; rfl)
    have hno := Lib.hid (HNo.out (by have := e1.out; omega))
    rw [e1.out] at KF
    clear hok
    go_upto_region 2 with (first | (go_at_call 25; (with_reducible refine (KF.out).mono ?_); rintro e _ ⟨rfl, v0', rfl⟩))
    obtain ⟨v0, hv0⟩ : ∃ v0 : Later Y.heap.size Y, v0.val = v0'.val := ⟨(z.alloc _).up v0', rfl⟩
    rw [← hv0]
    clear hv0
    go_wp2
    refine HF.out v0 0 none 0 [] 1 _ (Own.nil _ _) ?_ ?_ hno.out.1 hno.out.2 e1.out.symm <;> rfl
  have e1 := Lib.hid (show e = 0 by rw [HE.out, decide_eq_true hok]; rfl)
  obtain ⟨hG, ht0, ht1⟩ := lk_one.1 hok
  obtain ⟨m, rfl⟩ := Int.eq_ofNat_of_zero_le (show 0 ≤ n by have := hG.1; omega)
  obtain ⟨s0, rfl⟩ := Int.eq_ofNat_of_zero_le ht0
  have htw : s0 < bit m := by rw [show ((m : Int)).toNat = m by omega] at ht1; omega
  have hm7 : m ≤ 7 := by have := hG.2.1; omega
  have hb := bit_le m (by omega)
  have bc := bit_cast m
  obtain ⟨hn', hxs'⟩ := HY2.out m s0 rfl rfl hG htw
  have HH := Lib.hid (And.intro hn' (And.intro hxs' e1.out))
  rw [e1.out] at KF
  have HG := Lib.hid hG
  clear hn' hxs' HY2 hok ht0 ht1 e1 hG HE HNo
  go_upto_region 4 with (first | (go_at_call 25; (with_reducible refine (KF.out).mono ?_); rintro e _ ⟨rfl, v0', rfl⟩))
  obtain ⟨v0, hv0⟩ : ∃ v0 : Later Y.heap.size Y, v0.val = v0'.val := ⟨(z.alloc _).up v0', rfl⟩
  rw [← hv0]
  clear hv0 q1z q2z KF
  have q1v := q1 v0
  have H5z : Hid (RowL (v0.val.alloc (.cells #[.int .i64 m, .slice none 0 0] 31)) v0.val.heap.size 31 [.int .i64 m, .slice none 0 0]) := Lib.hid (RowL.new _ _ _)
  have hvs := v0.size
  go_upto_region 5 with fail
  obtain ⟨z1, hz1⟩ : ∃ z : Later Y.heap.size Y, z.val = (v0.val.alloc (.cells #[.int .i64 m, .slice none 0 0] 31)) := ⟨v0.alloc _, rfl⟩
  rw [← hz1] at H5z ⊢
  generalize v0.val.heap.size = gm at *
  clear hz1 q1v v0
  have q1z := q1 z1
  go_wp2
  clear q1z
  go_loopw [23] (fun iv wr => ∃ (s : Nat) (ad : Option Addr) (cp : Nat) (v : Later Y.heap.size Y), s ≤ bit m ∧ iv = .int .i64 s ∧ wr = v.val ∧ Hid (RowL v.val gm 31 [.int .i64 m, .slice ad (ints (thoseTo (gamB m es s0) s)).length cp]) ∧ Hid (Own (gm + 1) v.val ad cp (ints (thoseTo (gamB m es s0) s)))) (fun i _ => bit m - (intOf i).toNat)
  case atStart => exact ⟨0, none, 0, z1, by omega, rfl, rfl, H5z, Lib.hid (Own.nil _ _)⟩
  case round =>
    clear z1 H5z
    obtain ⟨s, ad, cp, v, hs, rfl, rfl, H5, HO⟩ := hrel
    have hgv : gm < v.val.heap.size := H5.out.lt
    have hln := thoseTo_len (gamB m es s0) s
    by_cases hlt : s < bit m
    · have KS : Hid (∀ w : Later v.val.heap.size v.val, Calls Try.prog 26 #[.int .i64 s] w.val (Ret v.val.heap.size v.val (.int .i64 (sz s)))) := Lib.hid (fun w => c_size_links w s (by omega))
      have KW : Hid (∀ w : Later v.val.heap.size v.val, Calls Try.prog 26 #[.int .i64 s0] w.val (Ret v.val.heap.size v.val (.int .i64 (sz s0)))) := Lib.hid (fun w => c_size_links w s0 (by omega))
      have KM : Hid (∀ w : Later v.val.heap.size v.val, Calls Try.prog 27 #[.agg #[.int .i64 m, .slice a es.length cap], .int .i64 s, .int .i64 s0] w.val (Ret v.val.heap.size v.val (.int .i64 (sz (barr m es s s0))))) := Lib.hid (fun w => c_ways w m s s0 es a cap (HI.out.to v) HG.out hlt htw _ (fun k hk => ways_barr (Grf.of HG.out) hlt hk))
      have HE : Hid (thoseTo (gamB m es s0) (s + 1) = if gamB m es s0 s = true then thoseTo (gamB m es s0) s ++ [s] else thoseTo (gamB m es s0) s) := Lib.hid (thoseTo_step _ s)
      have HGB : Hid (gamB m es s0 s = decide (sz s = sz s0 ∧ sz (barr m es s s0) = sz s)) := Lib.hid rfl
      have q1w : ∀ w : Later v.val.heap.size v.val, w.val.cell? ⟨gu, 0, none⟩ = some (.int .i64 m) := fun w => q1 (v.up w)
      have q2w : ∀ w : Later v.val.heap.size v.val, w.val.cell? ⟨gu, 1, none⟩ = some (.slice a es.length cap) := fun w => q2 (v.up w)
      have hz1 := sz_le s
      have hz2 := sz_le s0
      have hz3 := sz_le (barr m es s s0)
      obtain ⟨y, hyv⟩ : ∃ y : Later v.val.heap.size v.val, y.val = v.val := ⟨Later.self _, rfl⟩
      have KS1 := Lib.hid (KS.out y)
      generalize barr m es s s0 = bb at *
      generalize gamB m es s0 s = gb at *
      rcases ieq (sz s : Int) (sz s0 : Int) with ⟨g1, d1, _⟩ | ⟨g1, d1, _⟩
      · rcases ieq (sz bb : Int) (sz s : Int) with ⟨g2, d2, _⟩ | ⟨g2, d2, _⟩
        · have hgb : gb = true := by rw [HGB.out, decide_eq_true_eq]; omega
          subst hgb
          have f1 : (sz s == sz s0) = true := by rw [beq_iff_eq]; omega
          have f2 : (sz bb == sz s) = true := by rw [beq_iff_eq]; omega
          have HN : Hid (thoseTo (gamB m es s0) (s + 1) = thoseTo (gamB m es s0) s ++ [s]) := Lib.hid (by rw [HE.out, if_pos rfl])
          clear HE g1 g2 HGB
          have hil : Hid ((ints (thoseTo (gamB m es s0) s)).length ≤ 256) := Lib.hid (by rw [ints_len]; omega)
          have hSn : Hid (ints (thoseTo (gamB m es s0) s ++ [s]) = ints (thoseTo (gamB m es s0) s) ++ [(s : Int)]) := Lib.hid (ints_snoc _ _)
          clear hln
          obtain ⟨X, hX⟩ : ∃ X, X = ints (thoseTo (gamB m es s0) s) := ⟨_, rfl⟩
          rw [← hX] at H5 HO hil hSn
          clear hX
          have F3 : ∀ w : Later v.val.heap.size v.val, w.val.cell? ⟨gm, 1, none⟩ = some (.slice ad X.length cp) := fun w => (H5.out.keep w.below).cell rfl
          have F5 : ∀ (w3 : Later v.val.heap.size v.val) (w : Later (gm + 1) w3.val), w.val.cell? ⟨gm, 1, none⟩ = some (.slice ad X.length cp) := fun w3 w => ((H5.out.keep w3.below).keep_at w.below (by omega)).cell rfl
          have Z5 : ∀ (w3 : Later v.val.heap.size v.val) (w : Later (gm + 1) w3.val), w.val.frozen? ⟨gm, 1, none⟩ = false := fun w3 w => ((H5.out.keep w3.below).keep_at w.below (by omega)).fz 1
          have hsz2 : ∀ w : Later v.val.heap.size v.val, gm + 1 ≤ w.val.heap.size := fun w => by have := w.size; omega
          rw [← hyv]
          clear hyv
          go_wp2_with (first | (go_at_call 26; (with_reducible refine (KS1.out).mono ?_); rintro e _ ⟨rfl, v1, rfl⟩) | (go_at_call 26; (with_reducible refine (KW.out v1).mono ?_); rintro e _ ⟨rfl, v2, rfl⟩) | (go_at_call 27; (with_reducible refine (KM.out v2).mono ?_); rintro e _ ⟨rfl, v3, rfl⟩) | (go_at_call 26; (with_reducible refine (KS.out v3).mono ?_); rintro e _ ⟨rfl, v4, rfl⟩) | (at_builtin; refine wpList_push (B := gm + 1) (W := v4.val) (w := v4.val) (Below.refl _ _) (hsz2 v4) rfl _ _ rfl X ad cp (s : Int) rfl (HO.out.keep v4.below) rfl (by have := hil.out; omega) ?_; intro u2 ad2 cp2 hown) | fail)
          go_roundw
          case rel =>
            obtain ⟨x1, hx1⟩ : ∃ x : Later Y.heap.size Y, x.val = u2.val := ⟨(v.up v4).to u2.val (u2.below.mono (by omega)), rfl⟩
            obtain ⟨x2, hx2⟩ := later_set ⟨x1, hx1⟩ (g := gm) (i := 1) (by omega) (.slice ad2 (X ++ [(s : Int)]).length cp2)
            refine ⟨s+1, ad2, cp2, x2, by omega, by go_num, by rw [hx2]; simp, Lib.hid ?_, Lib.hid ?_⟩
            · rw [HN.out, hx2, hSn.out]
              exact (((H5.out.keep v4.below).keep_at u2.below (by omega)).set 1 _)
            · rw [HN.out, hx2, hSn.out]
              exact hown.set (by omega) _
          case measure => simp [intOf]; omega
        · have hgb : gb = false := by rw [HGB.out, decide_eq_false_iff_not]; omega
          subst hgb
          have f1 : (sz s == sz s0) = true := by rw [beq_iff_eq]; omega
          have f2 : (sz bb == sz s) = false := by rw [beq_eq_false_iff_ne]; omega
          have HN : Hid (thoseTo (gamB m es s0) (s + 1) = thoseTo (gamB m es s0) s) := Lib.hid (by rw [HE.out, if_neg (by decide)])
          clear HE g1 g2 HGB hln
          rw [← hyv]
          clear hyv
          go_wp2_with (first | (go_at_call 26; (with_reducible refine (KS1.out).mono ?_); rintro e _ ⟨rfl, v1, rfl⟩) | (go_at_call 26; (with_reducible refine (KW.out v1).mono ?_); rintro e _ ⟨rfl, v2, rfl⟩) | (go_at_call 27; (with_reducible refine (KM.out v2).mono ?_); rintro e _ ⟨rfl, v3, rfl⟩) | (go_at_call 26; (with_reducible refine (KS.out v3).mono ?_); rintro e _ ⟨rfl, v4, rfl⟩) | fail)
          go_roundw
          case rel => exact ⟨s+1, ad, cp, v.up v4, by omega, by go_num, rfl, Lib.hid (by rw [HN.out]; exact H5.out.keep v4.below), Lib.hid (by rw [HN.out]; exact HO.out.keep v4.below)⟩
          case measure => simp [intOf]; omega
      · have hgb : gb = false := by rw [HGB.out, decide_eq_false_iff_not]; omega
        subst hgb
        have f1 : (sz s == sz s0) = false := by rw [beq_eq_false_iff_ne]; omega
        have HN : Hid (thoseTo (gamB m es s0) (s + 1) = thoseTo (gamB m es s0) s) := Lib.hid (by rw [HE.out, if_neg (by decide)])
        clear HE g1 HGB hln
        rw [← hyv]
        clear hyv
        go_wp2_with (first | (go_at_call 26; (with_reducible refine (KS1.out).mono ?_); rintro e _ ⟨rfl, v1, rfl⟩) | (go_at_call 26; (with_reducible refine (KW.out v1).mono ?_); rintro e _ ⟨rfl, v2, rfl⟩) | fail)
        go_roundw
        case rel => exact ⟨s+1, ad, cp, v.up v2, by omega, by go_num, rfl, Lib.hid (by rw [HN.out]; exact H5.out.keep v2.below), Lib.hid (by rw [HN.out]; exact HO.out.keep v2.below)⟩
        case measure => simp [intOf]; omega
    · have hse : s = bit m := by omega
      subst hse
      have HA : Hid (ints (thoseTo (gamB m es s0) (bit m)) = xs') := Lib.hid HH.out.2.1.symm
      generalize ints (thoseTo (gamB m es s0) (bit m)) = A at *
      have F50 : v.val.cell? ⟨gm, 0, none⟩ = some (.int .i64 m) := H5.out.cell rfl
      have F51 : v.val.cell? ⟨gm, 1, none⟩ = some (.slice ad A.length cp) := H5.out.cell rfl
      clear hln
      go_wp2
      refine HF.out v _ ad cp A 0 _ (HO.out.mono (by omega)) ?_ ?_ HH.out.1.symm HA.out HH.out.2.2.symm <;> rfl

end Go.Proofs.Ytpkjpmkmcffkhaa
