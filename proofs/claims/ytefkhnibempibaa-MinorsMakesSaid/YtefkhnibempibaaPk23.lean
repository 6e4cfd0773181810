
/-
  rotaref.Freed$1, Summed$1.
  rotaref.Freed, Summed.
-/
import Derived.Test.YtefkhnibempibaaPk16
import Derived.Test.YtefkhnibempibaaPk18
import Derived.Test.YtefkhnibempibaaPk17
namespace Go.Proofs.Ytefkhnibempibaa
open Go.RowKit
set_option linter.unusedVariables false

set_option maxRecDepth 100000 in
set_option maxHeartbeats 4000000 in
theorem c_sumTell {B : Nat} {W : World} (u : Later B W) (m k : Nat) (hmk : m + k ≤ 8) (L1 L2 : List Nat) (s gm gr gt c gr2 gt2 c2 : Nat) (hs : s < bit (m + k)) (hgm : gm < B) (hgr : gr < B) (hgt : gt < B) (hgr2 : gr2 < B) (hgt2 : gt2 < B) (hn : W.cell? ⟨gm, 0, none⟩ = some (.int .i64 m)) (hr : W.cell? ⟨gr, 0, none⟩ = some (.slice (some ⟨gt, 0, none⟩) (bit m) c)) (hT : ITab W gt (bit m) (fun j => (rk L1 j : Int))) (hr2 : W.cell? ⟨gr2, 0, none⟩ = some (.slice (some ⟨gt2, 0, none⟩) (bit k) c2)) (hT2 : ITab W gt2 (bit k) (fun j => (rk L2 j : Int))) :
    Calls Try.prog 42 #[.int .i64 s, .pointer (some ⟨gr, 0, none⟩), .pointer (some ⟨gm, 0, none⟩), .pointer (some ⟨gr2, 0, none⟩)] u.val (Ret B W (.int .i64 (sumR m L1 L2 s))) := by
  have hb := bit_le (m + k) hmk
  have hbm := bit_le m (by omega)
  have hbk := bit_le k (by omega)
  have q0 : ∀ v : Later B W, v.val.cell? ⟨gm, 0, none⟩ = some (.int .i64 m) := fun v => by rw [v.cell hgm, hn]
  have q1 : ∀ v : Later B W, v.val.cell? ⟨gr, 0, none⟩ = some (.slice (some ⟨gt, 0, none⟩) (bit m) c) := fun v => by rw [v.cell hgr, hr]
  have q2 : ∀ v : Later B W, v.val.cell? ⟨gr2, 0, none⟩ = some (.slice (some ⟨gt2, 0, none⟩) (bit k) c2) := fun v => by rw [v.cell hgr2, hr2]
  have hlo := lo_lt (m := m) (s := s) (by omega) (by omega)
  have hhi := hi_lt (m := m) hs
  have c1 : ∀ v : Later B W, v.val.cell? ⟨gt, loP m s, none⟩ = some (.int .i64 (rk L1 (loP m s) : Int)) := fun v => (hT.keep_at v.below hgt).cell hlo
  have d1 : ∀ v : Later B W, v.val.cell? ⟨gt2, hiP m s, none⟩ = some (.int .i64 (rk L2 (hiP m s) : Int)) := fun v => (hT2.keep_at v.below hgt2).cell hhi
  have o1 : bits .and .i64 (s : Int) ((bit m - 1 : Nat) : Int) = ((loP m s : Nat) : Int) := i64_and s (bit m - 1) (by omega) (by omega)
  have e1 : (s : Int) / 2 ^ m = ((hiP m s : Nat) : Int) := by rw [bit_cast]; unfold hiP; omega
  have KA : Hid (∀ v : Later B W, Calls Try.prog 28 #[.int .i64 m] v.val (Ret B W (.int .i64 ((bit m - 1 : Nat) : Int)))) := Lib.hid (fun v => by
    have := c_all v (m : Int) (by omega) (by omega)
    rwa [all_nat] at this)
  have HR : Hid (sumR m L1 L2 s = (rk L1 (loP m s) : Int) + rk L2 (hiP m s)) := Lib.hid rfl
  have r1 := rk_le8 L1 (loP m s)
  have r2 := rk_le8 L2 (hiP m s)
  have w2 := IntWalk.i64_in ((rk L1 (loP m s) : Int) + (rk L2 (hiP m s) : Int)) (by omega)
  clear hn hr hT hr2 hT2
  generalize sumR m L1 L2 s = res at *
  generalize rk L1 (loP m s) = p1 at *
  generalize rk L2 (hiP m s) = p2 at *
  generalize loP m s = z1 at *
  generalize hiP m s = z2 at *
  generalize bit m - 1 = top at *
  go_enter Try.func42, Try.ntmps42
  go_wp2
  refine wp_region_later u (by kernel_rfl) (by kernel_rfl) (fun _ => ?_)
  repeat (first | go_big_quiet_step (((go_at_call 28; exact KA.out _))) | (refine wpQuiet_step (fun K hK => ?_); go_simp; refine ⟨_, fun _ => rfl, ?_⟩; refine hK _ ?_; clear hK K))
  refine wpQuiet_nil ?_
  intro u
  go_wp2
  go_ret
  exact Ret.mk u (by rw [HR.out]; rfl)

set_option maxRecDepth 100000 in
set_option maxHeartbeats 4000000 in
theorem c_freedTell {B : Nat} {W : World} (u : Later B W) (m : Nat) (hm : m < 8) (L : List Nat) (s gm gr gt c : Nat) (hs : s < bit (m + 1)) (hgm : gm < B) (hgr : gr < B) (hgt : gt < B) (hn : W.cell? ⟨gm, 0, none⟩ = some (.int .i64 m)) (hr : W.cell? ⟨gr, 0, none⟩ = some (.slice (some ⟨gt, 0, none⟩) (bit m) c)) (hT : ITab W gt (bit m) (fun j => (rk L j : Int))) :
    Calls Try.prog 43 #[.int .i64 s, .pointer (some ⟨gm, 0, none⟩), .pointer (some ⟨gr, 0, none⟩)] u.val (Ret B W (.int .i64 (freeR m L s))) := by
  have hb := bit_le (m + 1) (by omega)
  have hbm := bit_le m (by omega)
  have hb2 : bit (m + 1) = bit m + bit m := by unfold bit; omega
  have q0 : ∀ v : Later B W, v.val.cell? ⟨gm, 0, none⟩ = some (.int .i64 m) := fun v => by rw [v.cell hgm, hn]
  have q1 : ∀ v : Later B W, v.val.cell? ⟨gr, 0, none⟩ = some (.slice (some ⟨gt, 0, none⟩) (bit m) c) := fun v => by rw [v.cell hgr, hr]
  have HT : Hid (∀ (j : Nat), j < bit m → ∀ v : Later B W, v.val.cell? ⟨gt, j, none⟩ = some (.int .i64 (rk L j : Int))) := Lib.hid (fun j hj v => (hT.keep_at v.below hgt).cell hj)
  have KI := Lib.hid (fun v : Later B W => c_in v s m (by omega) (by omega))
  by_cases ht : s.testBit m = true
  · have hsub : (s : Int) - (bit m : Int) = ((nand s (bit m) : Nat) : Int) := by
      have h1 := nand_bit s m (by omega) hm ht
      have h2 := bit_le_of_mem s m (by omega) hm ht
      omega
    have hnl : nand s (bit m) < bit m := by omega
    have c1 := HT.out (nand s (bit m)) hnl
    have c2 := HT.out (bit m - 1) (by omega)
    have hr1 := rk_le8 L (nand s (bit m))
    have hr2 := rk_le8 L (bit m - 1)
    have KA : Hid (∀ v : Later B W, Calls Try.prog 28 #[.int .i64 m] v.val (Ret B W (.int .i64 ((bit m - 1 : Nat) : Int)))) := Lib.hid (fun v => by
      have := c_all v (m : Int) (by omega) (by omega)
      rwa [all_nat] at this)
    have HR : Hid (freeR m L s = min ((rk L (nand s (bit m)) : Int) + 1) (rk L (bit m - 1))) := Lib.hid (by unfold freeR; rw [if_pos ht])
    rw [ht] at KI
    have htl : bit m - 1 < bit m := by omega
    have bc := bit_cast m
    have w0 := IntWalk.i64_in (bit m : Int) (by omega)
    have w1 := IntWalk.i64_in ((nand s (bit m) : Nat) : Int) (by omega)
    have w2 := IntWalk.i64_in ((rk L (nand s (bit m)) : Int) + 1) (by omega)
    clear hn hr hT HT ht
    generalize freeR m L s = res at *
    generalize rk L (nand s (bit m)) = p1 at *
    generalize rk L (bit m - 1) = p2 at *
    generalize nand s (bit m) = z1 at *
    generalize bit m - 1 = top at *
    go_enter Try.func43, Try.ntmps43
    go_upto_region 3 with (first | (go_at_call 38; (with_reducible refine (KI.out u).mono ?_); rintro e _ ⟨rfl, v, rfl⟩) | fail)
    refine wp_region_later v (by kernel_rfl) (by kernel_rfl) (fun _ => ?_)
    repeat (first | go_big_quiet_step (((go_at_call 28; exact KA.out _))) | (refine wpQuiet_step (fun K hK => ?_); go_simp; refine ⟨_, fun _ => rfl, ?_⟩; refine hK _ ?_; clear hK K))
    refine wpQuiet_nil ?_
    intro v
    go_wp2
    all_goals
      go_ret
      exact Ret.mk v (vint (by rw [HR.out]; omega))
  · have hsl : s < bit m := by
      rw [lt_pow_iff m s (by omega) (by omega)]
      intro i hi h
      have h1 := lt_m_of_testBit hs h
      by_cases e : i = m
      · subst e; exact absurd h ht
      · omega
    have c1 := HT.out s hsl
    have HR : Hid (freeR m L s = (rk L s : Int)) := Lib.hid (by unfold freeR; rw [if_neg ht])
    have htf : s.testBit m = false := by simpa using ht
    rw [htf] at KI
    clear hn hr hT HT ht
    generalize freeR m L s = res at *
    generalize rk L s = p1 at *
    go_enter Try.func43, Try.ntmps43
    go_wp2_with (first | (go_at_call 38; (with_reducible refine (KI.out u).mono ?_); rintro e _ ⟨rfl, v, rfl⟩) | fail)
    go_ret
    exact Ret.mk v (vint (by rw [HR.out]))

end Go.Proofs.Ytefkhnibempibaa

namespace Go.Proofs.Ytefkhnibempibaa
open Go.RowKit
set_option linter.unusedVariables false

set_option maxRecDepth 100000 in
set_option maxHeartbeats 8000000 in
theorem c_refFreed {B : Nat} {W : World} (u : Later B W) (m : Nat) (hm : m < 8) (L : List Nat) (a : Option Addr) (cap : Nat) (h : IntsAt B W a (ints L)) (hlen : (ints L).length ≤ 4611686018427387904) (hf : isFam (m : Int) (ints L)) (hTN : toN (ints L) = L) :
    Calls Try.prog 14 #[.agg #[.int .i64 m, .slice a (ints L).length cap]] u.val (RetP B W (MatO B (m + 1 : Nat) (ints (those (m + 1) (ofRank (m + 1) (freeR m L)))))) := by
  have hb := bit_le m (by omega)
  have hB := u.size
  have T0 : Hid (Two (u.val.alloc (.cells #[.int .i64 m, .slice a (ints L).length cap] 24)) u.val.heap.size 24 (.int .i64 m) (.slice a (ints L).length cap)) := Lib.hid (Two.new _ _ _ _)
  have hrr : u.val.heap.size < (u.val.alloc (.cells #[.int .i64 m, .slice a (ints L).length cap] 24)).heap.size := by simp
  have hI : IntsAt (u.val.alloc (.cells #[.int .i64 m, .slice a (ints L).length cap] 24)).heap.size (u.val.alloc (.cells #[.int .i64 m, .slice a (ints L).length cap] 24)) a (ints L) := h.to (u.alloc _)
  have HV : Hid (∀ v : Later (u.val.alloc (.cells #[.int .i64 m, .slice a (ints L).length cap] 24)).heap.size (u.val.alloc (.cells #[.int .i64 m, .slice a (ints L).length cap] 24)), ∃ w : Later B W, w.val = v.val) := Lib.hid (fun v => ⟨(u.alloc _).up v, rfl⟩)
  have q0 : ∀ w : Later (u.val.alloc (.cells #[.int .i64 m, .slice a (ints L).length cap] 24)).heap.size (u.val.alloc (.cells #[.int .i64 m, .slice a (ints L).length cap] 24)), w.val.cell? ⟨u.val.heap.size, 0, none⟩ = some (.int .i64 m) := fun w => (T0.out.keep w.below).c0
  have q1 : ∀ w : Later (u.val.alloc (.cells #[.int .i64 m, .slice a (ints L).length cap] 24)).heap.size (u.val.alloc (.cells #[.int .i64 m, .slice a (ints L).length cap] 24)), w.val.cell? ⟨u.val.heap.size, 1, none⟩ = some (.slice a (ints L).length cap) := fun w => (T0.out.keep w.below).c1
  have p0 : (u.val.alloc (.cells #[.int .i64 m, .slice a (ints L).length cap] 24)).cell? ⟨u.val.heap.size, 0, none⟩ = some (.int .i64 m) := T0.out.c0
  have p1 : (u.val.alloc (.cells #[.int .i64 m, .slice a (ints L).length cap] 24)).cell? ⟨u.val.heap.size, 1, none⟩ = some (.slice a (ints L).length cap) := T0.out.c1
  have hZ : (u.val.alloc (.cells #[.int .i64 m, .slice a (ints L).length cap] 24)).heap.size = u.val.heap.size + 1 := by simp
  have XM := RowL.new (u.val.alloc (.cells #[.int .i64 m, .slice a (ints L).length cap] 24)) 24 [.int .i64 0, .slice none 0 0]
  rw [hZ] at XM
  have HZY : Hid (∃ w : Later (u.val.alloc (.cells #[.int .i64 m, .slice a (ints L).length cap] 24)).heap.size (u.val.alloc (.cells #[.int .i64 m, .slice a (ints L).length cap] 24)), w.val = ((u.val.alloc (.cells #[.int .i64 m, .slice a (ints L).length cap] 24)).alloc (.cells #[.int .i64 0, .slice none 0 0] 24))) := Lib.hid ⟨(Later.self (u.val.alloc (.cells #[.int .i64 m, .slice a (ints L).length cap] 24))).alloc _, rfl⟩
  have KR : Hid (Calls Try.prog 27 #[.agg #[.int .i64 m, .slice a (ints L).length cap]] ((u.val.alloc (.cells #[.int .i64 m, .slice a (ints L).length cap] 24)).alloc (.cells #[.int .i64 0, .slice none 0 0] 24)) (RetP ((u.val.alloc (.cells #[.int .i64 m, .slice a (ints L).length cap] 24)).alloc (.cells #[.int .i64 0, .slice none 0 0] 24)).heap.size ((u.val.alloc (.cells #[.int .i64 m, .slice a (ints L).length cap] 24)).alloc (.cells #[.int .i64 0, .slice none 0 0] 24)) (fun v w => ∃ g c, v = .slice (some ⟨g, 0, none⟩) (bit m) c ∧ ITab w g (bit m) (fun j => (rk L j : Int))))) := Lib.hid (c_ranksL (Later.self ((u.val.alloc (.cells #[.int .i64 m, .slice a (ints L).length cap] 24)).alloc (.cells #[.int .i64 0, .slice none 0 0] 24))) m (by omega) L a cap (hI.to ((Later.self (u.val.alloc (.cells #[.int .i64 m, .slice a (ints L).length cap] 24))).alloc _)) hlen hf hTN)
  have hY1 : Hid (((u.val.alloc (.cells #[.int .i64 m, .slice a (ints L).length cap] 24)).alloc (.cells #[.int .i64 0, .slice none 0 0] 24)).heap.size = u.val.heap.size + 2) := Lib.hid (by simp)
  have z0 : ((u.val.alloc (.cells #[.int .i64 m, .slice a (ints L).length cap] 24)).alloc (.cells #[.int .i64 0, .slice none 0 0] 24)).cell? ⟨u.val.heap.size, 0, none⟩ = some (.int .i64 m) := by obtain ⟨w, hw⟩ := HZY.out; rw [← hw]; exact q0 w
  have z1 : ((u.val.alloc (.cells #[.int .i64 m, .slice a (ints L).length cap] 24)).alloc (.cells #[.int .i64 0, .slice none 0 0] 24)).cell? ⟨u.val.heap.size, 1, none⟩ = some (.slice a (ints L).length cap) := by obtain ⟨w, hw⟩ := HZY.out; rw [← hw]; exact q1 w
  have HVY : Hid (∃ w : Later B W, w.val = ((u.val.alloc (.cells #[.int .i64 m, .slice a (ints L).length cap] 24)).alloc (.cells #[.int .i64 0, .slice none 0 0] 24))) := Lib.hid ⟨(((u.alloc _)).alloc _), rfl⟩
  have HX := Lib.hid XM
  clear XM hI h hf hTN HZY q0 q1 p0 p1 T0 hrr HV hZ
  go_enter Try.func14, Try.ntmps14
  go_upto_region 1 with fail
  generalize ((u.val.alloc (.cells #[.int .i64 m, .slice a (ints L).length cap] 24)).alloc (.cells #[.int .i64 0, .slice none 0 0] 24)) = Y at *
  generalize u.val.heap.size = gu at *
  obtain ⟨y, hy⟩ := HVY.out
  go_upto_region 2 with (first | (go_at_call 27; ((with_reducible refine (KR.out).mono ?_); rintro e _ ⟨_, rfl, ⟨gt, c, rfl, hT⟩, v1, rfl⟩)))
  have XB : Hid (RowAt1 (v1.val.alloc (.cells #[.slice (some ⟨gt, 0, none⟩) (bit m) c] 22)) v1.val.heap.size 22 (.slice (some ⟨gt, 0, none⟩) (bit m) c)) := Lib.hid (RowAt1.new _ _ _)
  have hvs := v1.size
  have HT : Hid (ITab (v1.val.alloc (.cells #[.slice (some ⟨gt, 0, none⟩) (bit m) c] 22)) gt (bit m) (fun j => (rk L j : Int))) := Lib.hid (hT.keep ((Below.refl _ _).alloc (Nat.le_refl _) _))
  have hgt : gt < v1.val.heap.size := hT.lt
  have HXX : Hid (RowL (v1.val.alloc (.cells #[.slice (some ⟨gt, 0, none⟩) (bit m) c] 22)) (gu + 1) 24 [.int .i64 0, .slice none 0 0]) := Lib.hid ((HX.out.keep v1.below).keep_at ((Below.refl _ _).alloc (Nat.le_refl _) _) (by have := hY1.out; omega))
  have x0 : (v1.val.alloc (.cells #[.slice (some ⟨gt, 0, none⟩) (bit m) c] 22)).cell? ⟨gu, 0, none⟩ = some (.int .i64 m) := by
    have e1 : v1.val.cell? ⟨gu, 0, none⟩ = some (.int .i64 m) := by rw [v1.cell (a := ⟨gu, 0, none⟩) (by have := hY1.out; show gu < _; omega)]; exact z0
    exact ((Later.self v1.val).alloc _).cell (a := ⟨gu, 0, none⟩) (by have := hY1.out; show gu < _; omega) ▸ e1
  have HVX : Hid (∀ v : Later (v1.val.alloc (.cells #[.slice (some ⟨gt, 0, none⟩) (bit m) c] 22)).heap.size (v1.val.alloc (.cells #[.slice (some ⟨gt, 0, none⟩) (bit m) c] 22)), ∃ w : Later B W, w.val = v.val) := Lib.hid (fun v => ⟨y.to v.val (by rw [hy]; exact (((v1.alloc (.cells #[.slice (some ⟨gt, 0, none⟩) (bit m) c] 22)).up v).below).mono (by have := y.size; rw [hy] at this; exact this)), rfl⟩)
  have hxs : Hid ((v1.val.alloc (.cells #[.slice (some ⟨gt, 0, none⟩) (bit m) c] 22)).heap.size = v1.val.heap.size + 1) := Lib.hid (by simp)
  have hYs := hY1.out
  clear KR HX hT z0 z1 hy
  generalize (v1.val.alloc (.cells #[.slice (some ⟨gt, 0, none⟩) (bit m) c] 22)) = X at *
  generalize v1.val.heap.size = gb at *
  have hg2 : gu + 1 < X.heap.size := by have := hxs.out; omega
  have f0 : ∀ (w : Later X.heap.size X), w.val.cell? ⟨gu + 1, 0, none⟩ = some (.int .i64 0) := fun w => (HXX.out.keep_at w.below hg2).cell rfl
  have z0 : ∀ (w : Later X.heap.size X), w.val.frozen? ⟨gu + 1, 0, none⟩ = false := fun w => (HXX.out.keep_at w.below hg2).fz 0
  have f1 : ∀ (w : Later X.heap.size X) (x0 : Value), (w.val.setCell ⟨gu + 1, 0, none⟩ x0).cell? ⟨gu + 1, 1, none⟩ = some (.slice none 0 0) := fun w x0 => ((HXX.out.keep_at w.below hg2).set 0 x0).cell rfl
  have z1 : ∀ (w : Later X.heap.size X) (x0 : Value), (w.val.setCell ⟨gu + 1, 0, none⟩ x0).frozen? ⟨gu + 1, 1, none⟩ = false := fun w x0 => ((HXX.out.keep_at w.below hg2).set 0 x0).fz 1
  have KO : Hid (∀ w : Later X.heap.size X, Calls Try.prog 41 #[.int .i64 ((m + 1 : Nat) : Int), .func (.func 43) #[] #[.pointer (some ⟨gu, 0, none⟩), .pointer (some ⟨gb, 0, none⟩)]] w.val (RetP X.heap.size X (MatO X.heap.size (m + 1 : Nat) (ints (those (m + 1) (ofRank (m + 1) (freeR m L))))))) := Lib.hid (fun w => by
    refine c_ofRank w (m + 1) (by omega) 43 _ (freeR m L) (fun args w => by kernel_rfl) (fun x0 v t ht => ?_)
    obtain ⟨x, hx⟩ : ∃ x : Later X.heap.size X, x = x0 := ⟨_, rfl⟩
    subst hx
    have hxz := x.size
    have hxo := hxs.out
    exact c_freedTell v m hm L t gu gb gt c ht (by omega) (by omega) (by omega) (by rw [x.cell (a := ⟨gu, 0, none⟩) (by show gu < _; omega)]; exact x0) ((XB.out.keepAt x.below (by omega)).c0) (HT.out.keep_at x.below (by omega)))
  have y0 : ∀ w : Later X.heap.size X, w.val.cell? ⟨gu, 0, none⟩ = some (.int .i64 m) := fun w => by rw [w.cell (a := ⟨gu, 0, none⟩) (by have := hxs.out; show gu < _; omega)]; exact x0
  generalize hA : those (m + 1) (ofRank (m + 1) (freeR m L)) = A at *
  have hadd : (m : Int) + 1 = ((m + 1 : Nat) : Int) := by omega
  have wadd := IntWalk.i64_in ((m + 1 : Nat) : Int) (by omega)
  clear hA XB HT
  generalize m + 1 = nn at *
  have hBg : B ≤ gu + 1 := by omega
  have fin : ∀ (v2 : Later X.heap.size X) (ad : Option Addr) (cp : Nat) (tm : Array Value), Own X.heap.size v2.val ad cp (ints A) → tm.getD 2 undef = .pointer (some ⟨gu + 1, 0, none⟩) → bodyPost Try.prog Try.f14 (RetP B W (MatO B (nn : Nat) (ints A))) .ret { tmps := tm, defers := [] } ((v2.val.setCell ⟨gu + 1, 0, none⟩ (.int .i64 (nn : Nat))).setCell ⟨gu + 1, 1, none⟩ (.slice ad (ints A).length cp)) := fun v2 ad cp tm hO htm => by
    refine bodyPost_ret (results_cell_row rfl _ _ (gu + 1) 24 #[.int .i64 (nn : Nat), .slice ad (ints A).length cp] (0, 0) _ htm (((HXX.out.keep v2.below).set 0 _).set 1 _) Try.underlying24 rfl (by kernel_rfl)) rfl ?_
    obtain ⟨z1, hz1⟩ := later_set (HVX.out v2) (g := gu + 1) (i := 0) hBg (.int .i64 (nn : Nat))
    obtain ⟨z2, hz2⟩ := later_set ⟨z1, hz1⟩ (g := gu + 1) (i := 1) hBg (.slice ad (ints A).length cp)
    refine RetP.of ⟨z2, hz2⟩ ?_
    exact ⟨_, _, rfl, ((hO.set hg2 _).set hg2 _).mono (by omega)⟩
  have HFIN := Lib.hid fin
  clear fin HVX HXX
  obtain ⟨x, hx⟩ : ∃ x : Later X.heap.size X, x.val = X := ⟨Later.self _, rfl⟩
  rw [← hx]
  clear hx x0
  go_wp2_with (first | (go_at_call 41; (with_reducible refine (KO.out x).mono ?_); rintro e _ ⟨_, rfl, ⟨ad, cp, rfl, hO⟩, v2, rfl⟩))
  exact HFIN.out v2 ad cp _ hO rfl


end Go.Proofs.Ytefkhnibempibaa
