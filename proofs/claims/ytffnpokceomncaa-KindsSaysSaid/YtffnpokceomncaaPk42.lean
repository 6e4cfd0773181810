
/-
  kinds.forest.
  kinds.Graphic, rotaref.Graphic$1.
  kinds.Graphic, rotaref.Graphic, whole.
-/
import Derived.Test.YtffnpokceomncaaPk41
import Derived.Test.YtffnpokceomncaaPk26
import Derived.Test.YtffnpokceomncaaPk07
import Derived.Test.YtffnpokceomncaaPk28
import Derived.Test.YtffnpokceomncaaPk33
import Derived.Test.YtffnpokceomncaaPk09
import Derived.Test.YtffnpokceomncaaPk37
import Derived.Test.YtffnpokceomncaaPk27
namespace Go.Proofs.Ytffnpokceomncaa
open Go.RowKit
set_option linter.unusedVariables false

set_option maxRecDepth 100000 in
set_option maxHeartbeats 8000000 in
theorem c_forest {B : Nat} {W : World} (u : Later B W) (n s : Nat) (es : List (Int × Int)) (a : Option Addr) (cap : Nat) (h : EdgesAt B W a es) (hG : isGraph (n : Int) es) (hs : s < bit es.length) :
    Calls Try.prog 52 #[.agg #[.int .i64 n, .slice a es.length cap], .int .i64 s] u.val (Ret B W (.bool (forB n es s))) := by
  have hn7 : n ≤ 7 := by have := hG.2.1; omega
  have he8 : es.length ≤ 8 := hG.2.2.1
  have hs8 : s < 256 := by have := bit_le _ he8; omega
  have T0 : Hid (Two (u.val.alloc (.cells #[.int .i64 n, .slice a es.length cap] 42)) u.val.heap.size 42 (.int .i64 n) (.slice a es.length cap)) := Lib.hid (Two.new _ _ _ _)
  have hrr : u.val.heap.size < (u.val.alloc (.cells #[.int .i64 n, .slice a es.length cap] 42)).heap.size := by simp
  have HV : Hid (∀ v : Later (u.val.alloc (.cells #[.int .i64 n, .slice a es.length cap] 42)).heap.size (u.val.alloc (.cells #[.int .i64 n, .slice a es.length cap] 42)), ∃ w : Later B W, w.val = v.val) := Lib.hid (fun v => ⟨(u.alloc _).up v, rfl⟩)
  have HE : Hid (EdgesAt (u.val.alloc (.cells #[.int .i64 n, .slice a es.length cap] 42)).heap.size (u.val.alloc (.cells #[.int .i64 n, .slice a es.length cap] 42)) a es) := Lib.hid (h.to (u.alloc _))
  have HG := Lib.hid (Grf.of hG)
  have HI := Lib.hid hG
  have hmk := mk_tab n (by omega)
  clear h hG
  go_enter Try.func52, Try.ntmps52
  go_upto_region 1 with fail
  generalize hr2 : u.val.heap.size = g0 at *
  generalize u.val.alloc (.cells #[.int .i64 n, .slice a es.length cap] 42) = W1 at *
  clear hr2 u
  obtain ⟨v0, hv0⟩ : ∃ v0 : Later W1.heap.size W1, v0.val = W1 := ⟨Later.self _, rfl⟩
  have q0 : ∀ v : Later W1.heap.size W1, v.val.cell? ⟨g0, 0, none⟩ = some (.int .i64 n) := fun v => (T0.out.keep_at v.below hrr).c0
  have q1 : ∀ v : Later W1.heap.size W1, v.val.cell? ⟨g0, 1, none⟩ = some (.slice a es.length cap) := fun v => (T0.out.keep_at v.below hrr).c1
  have q0v := q0 v0
  rw [hv0] at q0v
  go_upto_region 2 with fail
  have k1 : (W1.alloc (.cells (madeCells #[Value.int .i64 0] n) 3)).heap.size = W1.heap.size + 1 := by simp
  have HT0 : Hid (ITab ((W1.alloc (.cells (madeCells #[Value.int .i64 0] n) 3)).alloc (.cells #[.slice (some ⟨W1.heap.size, 0, none⟩) n n] 35)) W1.heap.size n (nm (fun j => if j < 0 then j else 0))) := Lib.hid (((ITab.made W1 n).congr (fun j _ => by simp [nm])).keep ((Below.refl _ _).alloc (Nat.le_refl _) _))
  have HB0 : Hid (RowAt1 ((W1.alloc (.cells (madeCells #[Value.int .i64 0] n) 3)).alloc (.cells #[.slice (some ⟨W1.heap.size, 0, none⟩) n n] 35)) (W1.heap.size + 1) 35 (.slice (some ⟨W1.heap.size, 0, none⟩) n n)) := Lib.hid (by
    have h := RowAt1.new (W1.alloc (.cells (madeCells #[Value.int .i64 0] n) 3)) 35 (.slice (some ⟨W1.heap.size, 0, none⟩) n n)
    rwa [k1] at h)
  obtain ⟨z0, hz0⟩ : ∃ z : Later W1.heap.size W1, z.val = ((W1.alloc (.cells (madeCells #[Value.int .i64 0] n) 3)).alloc (.cells #[.slice (some ⟨W1.heap.size, 0, none⟩) n n] 35)) := ⟨((Later.self W1).alloc _).alloc _, rfl⟩
  rw [← hz0] at HT0 HB0 ⊢
  clear hz0 hv0 v0 q0v hmk k1
  generalize hgt : W1.heap.size = gt at *
  clear hgt
  have bc := HB0.out.c0
  go_wp2
  clear bc
  go_loopw [17] (fun i wr => ∃ (k : Nat) (v : Later gt W1), k ≤ n ∧ i = .int .i64 k ∧ wr = v.val ∧ Hid (ITab v.val gt n (nm (fun j => if j < k then j else 0))) ∧ Hid (RowAt1 v.val (gt + 1) 35 (.slice (some ⟨gt, 0, none⟩) n n))) (fun i _ => n - (intOf i).toNat)
  case atStart => exact ⟨0, z0, by omega, rfl, rfl, HT0, HB0⟩
  case round =>
    clear z0 HT0 HB0
    obtain ⟨k, v, hk, rfl, rfl, HT, HB⟩ := hrel
    have bc := HB.out.c0
    by_cases hlt : k < n
    · have fz := HT.out.frozen k
      obtain ⟨ov, hov⟩ : ∃ o : Int, v.val.cell? ⟨gt, k, none⟩ = some (.int .i64 o) := ⟨_, HT.out.cell hlt⟩
      have HT2 : Hid (ITab (v.val.setCell ⟨gt, k, none⟩ (.int .i64 (k : Nat))) gt n (nm (fun j => if j < k + 1 then j else 0))) := Lib.hid (HT.out.set k _ (fun j hj => by
        show ((if j < k + 1 then j else 0 : Nat) : Int) = if j = k then (k : Int) else ((if j < k then j else 0 : Nat) : Int)
        by_cases c : j = k
        · subst c; simp
        · rw [if_neg c]
          by_cases c2 : j < k
          · rw [if_pos c2, if_pos (by omega)]
          · rw [if_neg c2, if_neg (by omega)]))
      have HB2 : Hid (RowAt1 (v.val.setCell ⟨gt, k, none⟩ (.int .i64 (k : Nat))) (gt + 1) 35 (.slice (some ⟨gt, 0, none⟩) n n)) := Lib.hid (by
        exact (Below.heap_setCell _ _ _ _ (show gt + 1 ≠ gt by omega)).trans HB.out)
      go_wp2
      go_roundw
      case rel => exact ⟨k+1, v.set ⟨gt, k, none⟩ (by show gt ≤ gt; omega) _, by omega, by go_num, rfl, HT2, HB2⟩
      case measure => simp [intOf]; omega
    · have hke : k = n := by omega
      subst hke
      have HU0 : Hid (UF k (fun j => j) (Jn es (upto s 0))) := Lib.hid (UF.start k (fun i j hi hj => by rw [upto_zero, Jn.none]))
      have HTi : Hid (ITab v.val gt k (nm (fun j => j))) := Lib.hid (HT.out.congr (fun j hj => by show ((if j < k then j else 0 : Nat) : Int) = (j : Int); rw [if_pos hj]))
      have HF0 : Hid (fsum k es s 0 = k) := Lib.hid (fsum_zero HG.out s)
      have q1v := q1 v
      clear HT hlt hk
      go_wp2
      clear q1v bc
      go_loopw [29] (fun i wr => ∃ (q : Nat) (p : Nat → Nat) (v : Later gt W1), q ≤ es.length ∧ i = .int .i64 q ∧ wr = v.val ∧ Hid (ITab v.val gt k (nm p)) ∧ Hid (RowAt1 v.val (gt + 1) 35 (.slice (some ⟨gt, 0, none⟩) k k)) ∧ Hid (UF k p (Jn es (upto s q))) ∧ Hid (fsum k es s q = k)) (fun i _ => es.length - (intOf i).toNat)
      case atStart => exact ⟨0, fun j => j, v, by omega, rfl, rfl, HTi, HB, HU0, HF0⟩
      case round =>
        clear v HTi HB HU0 HF0
        obtain ⟨q, p, v, hq, rfl, rfl, HT, HB, HU, HF⟩ := hrel
        by_cases hlt2 : q < es.length
        · obtain ⟨be, offe, rfl, hbe, hce⟩ := HE.out.at hlt2
          have e0 := (hce v q hlt2).1
          have e1 := (hce v q hlt2).2
          have HX := HI.out.2.2.2 q hlt2
          obtain ⟨y, hy⟩ := Int.eq_ofNat_of_zero_le HX.1
          obtain ⟨z, hz⟩ := Int.eq_ofNat_of_zero_le HX.2.1
          have hvy : vA es q = y := by unfold vA; rw [hy]; rfl
          have hvz : vB es q = z := by unfold vB; rw [hz]; rfl
          rw [hy, hz] at HX
          have hyk : y < k := by omega
          have hzk : z < k := by omega
          rw [hy] at e0
          rw [hz] at e1
          have HVY := Lib.hid hvy
          have HVZ := Lib.hid hvz
          clear HX hy hz hce hvy hvz
          have T1 : Hid (Two (v.val.alloc (.cells #[.int .i64 y, .int .i64 z] 68)) v.val.heap.size 68 (.int .i64 y) (.int .i64 z)) := Lib.hid (Two.new _ _ _ _)
          have HTa : Hid (ITab (v.val.alloc (.cells #[.int .i64 y, .int .i64 z] 68)) gt k (nm p)) := Lib.hid (HT.out.keep ((Below.refl _ _).alloc (Nat.le_refl _) _))
          have HBa : Hid (RowAt1 (v.val.alloc (.cells #[.int .i64 y, .int .i64 z] 68)) (gt + 1) 35 (.slice (some ⟨gt, 0, none⟩) k k)) := Lib.hid (HB.out.keep ((Below.refl _ _).alloc (Nat.le_refl _) _))
          have HVa : Hid (∀ w : Later (v.val.alloc (.cells #[.int .i64 y, .int .i64 z] 68)).heap.size (v.val.alloc (.cells #[.int .i64 y, .int .i64 z] 68)), ∃ w' : Later gt W1, w'.val = w.val) := Lib.hid (fun w => ⟨(v.alloc _).up w, rfl⟩)
          have s1 := shr_andC s q hs8
          have bc := bit_cast q
          rw [bc] at s1
          rcases btf (s.testBit q) with g1 | g1
          · rw [g1] at s1
            have HG1 := Lib.hid g1
            clear g1
            go_upto_region 12 with fail
            clear s1 e0 e1
            have hgev : v.val.heap.size < (v.val.alloc (.cells #[.int .i64 y, .int .i64 z] 68)).heap.size := by simp
            have hgbv := HB.out.lt
            generalize hge : v.val.heap.size = ge at *
            generalize v.val.alloc (.cells #[.int .i64 y, .int .i64 z] 68) = W2 at *
            clear hge HT HB v
            obtain ⟨v, hv2⟩ : ∃ v : Later W2.heap.size W2, v.val = W2 := ⟨Later.self _, rfl⟩
            rw [← hv2]
            clear hv2
            have hgb2 : gt + 1 < W2.heap.size := by omega
            have c0 : ∀ w : Later W2.heap.size W2, w.val.cell? ⟨ge, 0, none⟩ = some (.int .i64 y) := fun w => (T1.out.keep w.below).c0
            have c1 : ∀ w : Later W2.heap.size W2, w.val.cell? ⟨ge, 1, none⟩ = some (.int .i64 z) := fun w => (T1.out.keep w.below).c1
            obtain ⟨ra, hra, HRa⟩ := HU.out.root hyk
            obtain ⟨rb, hrb, HRb⟩ := HU.out.root hzk
            obtain ⟨d, hd⟩ := HU.out.wf
            have KA : Hid (∀ w : Later W2.heap.size W2, Calls Try.prog 61 #[.int .i64 y, .pointer (some ⟨gt + 1, 0, none⟩)] w.val (Ret W2.heap.size W2 (.int .i64 ra))) := Lib.hid (fun w => c_find w k hn7 p HU.out.lt d hd gt (gt + 1) HTa.out HBa.out.c0 (by omega) hgb2 y ra hyk HRa)
            have KZ : Hid (∀ w : Later W2.heap.size W2, Calls Try.prog 61 #[.int .i64 z, .pointer (some ⟨gt + 1, 0, none⟩)] w.val (Ret W2.heap.size W2 (.int .i64 rb))) := Lib.hid (fun w => c_find w k hn7 p HU.out.lt d hd gt (gt + 1) HTa.out HBa.out.c0 (by omega) hgb2 z rb hzk HRb)
            have HRa2 := Lib.hid HRa
            have HRb2 := Lib.hid HRb
            clear HRa HRb hd d
            refine wp_region_later v (by kernel_rfl) (by kernel_rfl) (fun _ => ?_)
            repeat (go_big_quiet_step (fail))
            go_big_quiet_step (exact KA.out _)
            repeat (go_big_quiet_step (fail))
            go_big_quiet_step (exact KZ.out _)
            repeat (go_big_quiet_step (fail))
            refine wpQuiet_nil ?_
            intro v
            clear KA KZ c0 c1 T1
            by_cases hrr2 : ra = rb
            · have hjn : Jn es (upto s q) (vA es q) (vB es q) := by
                rw [HVY.out, HVZ.out]
                exact (HU.out.jn y z hyk hzk).2 ⟨ra, HRa2.out, hrr2 ▸ HRb2.out⟩
              have hr := forB_ring HG.out he8 hs hlt2 HF.out HG1.out hjn
              subst hrr2
              clear hjn
              go_wp2
              go_ret
              obtain ⟨w, hw⟩ := HVa.out v
              obtain ⟨w2, hw2⟩ := HV.out w
              rw [hr, ← hw, ← hw2]; exact Ret.mk w2 rfl
            · have b1 : ((ra : Int) == (rb : Int)) = false := by rw [beq_eq_false_iff_ne]; omega
              have b2 : (ra == rb) = false := by rw [beq_eq_false_iff_ne]; omega
              have hnj : ¬ Jn es (upto s q) (vA es q) (vB es q) := by
                rw [HVY.out, HVZ.out]
                intro c
                obtain ⟨r, h1, h2⟩ := (HU.out.jn y z hyk hzk).1 c
                exact hrr2 ((HRa2.out.one h1).trans (HRb2.out.one h2).symm)
              have HF2 := Lib.hid ((fsum_yes HG.out hlt2 (by omega) HG1.out hnj).trans HF.out)
              have HU2 : Hid (UF k (hang p ra rb) (Jn es (upto s (q + 1)))) := Lib.hid (by
                rw [upto_yes HG1.out]
                refine HU.out.join hyk hzk hrb HRa2.out HRb2.out hrr2 (fun i j hi hj => ?_)
                rw [← HVY.out, ← HVZ.out]
                exact Jn.step HG.out hlt2 hi hj)
              have HTv := HTa.out.keep v.below
              have HBv := HBa.out.keep v.below
              have bc := HBv.c0
              have fz := HTv.frozen ra
              obtain ⟨ov, hov⟩ : ∃ o : Int, v.val.cell? ⟨gt, ra, none⟩ = some (.int .i64 o) := ⟨_, HTv.cell hra⟩
              have HT2 : Hid (ITab (v.val.setCell ⟨gt, ra, none⟩ (.int .i64 (rb : Nat))) gt k (nm (hang p ra rb))) := Lib.hid (HTv.set ra _ (fun j hj => by
                show ((if j = ra then rb else p j : Nat) : Int) = if j = ra then (rb : Int) else (p j : Int)
                split <;> rfl))
              have HB2 : Hid (RowAt1 (v.val.setCell ⟨gt, ra, none⟩ (.int .i64 (rb : Nat))) (gt + 1) 35 (.slice (some ⟨gt, 0, none⟩) k k)) := Lib.hid (
                (Below.heap_setCell _ _ _ _ (show gt + 1 ≠ gt by omega)).trans HBv)
              clear HTv HBv hnj hrr2 HU HF
              obtain ⟨w, hw⟩ := HVa.out v
              generalize v.val = vv at *
              subst hw
              go_wp2
              go_roundw
              case rel => exact ⟨q+1, _, w.set ⟨gt, ra, none⟩ (by show gt ≤ gt; omega) _, by omega, by go_num, rfl, HT2, HB2, HU2, HF2⟩
              case measure => simp [intOf]; omega
          · rw [g1] at s1
            have HF2 := Lib.hid ((fsum_no (n := k) (es := es) g1).trans HF.out)
            have HU2 : Hid (UF k p (Jn es (upto s (q + 1)))) := Lib.hid (by rw [upto_no g1]; exact HU.out)
            clear g1
            go_wp2
            obtain ⟨w2, hw2⟩ := HVa.out (Later.self _)
            dsimp only [Later.self] at hw2
            rw [← hw2] at HTa HBa ⊢
            go_roundw
            case rel => exact ⟨q+1, p, w2, by omega, by go_num, rfl, HTa, HBa, HU2, HF2⟩
            case measure => simp [intOf]; omega
        · have hqe : q = es.length := by omega
          subst hqe
          have hr := forB_end (n := k) (es := es) hs HF.out
          go_wp2
          go_ret
          obtain ⟨w, hw⟩ := HV.out v
          rw [hr, ← hw]; exact Ret.mk w rfl

end Go.Proofs.Ytffnpokceomncaa

namespace Go.Proofs.Ytffnpokceomncaa
open Go.RowKit
set_option linter.unusedVariables false

set_option maxRecDepth 100000 in
theorem c_kGraTell {B : Nat} {W : World} (u : Later B W) (n : Nat) (es : List (Int × Int)) (hG : isGraph (n : Int) es) (a : Option Addr) (cap gl : Nat) (h : EdgesAt B W a es) (hg : gl < B) (hc : Two W gl 42 (.int .i64 n) (.slice a es.length cap)) (s : Nat) (hs : s < bit es.length) :
    Calls Try.prog 51 #[.int .i64 s, .pointer (some ⟨gl, 0, none⟩)] u.val (Ret B W (.bool (forB n es s))) := by
  have q0 := (hc.keep_at u.below hg).c0
  have q1 := (hc.keep_at u.below hg).c1
  have KC : Hid (Calls Try.prog 52 #[.agg #[.int .i64 n, .slice a es.length cap], .int .i64 s] u.val (Ret B W (.bool (forB n es s)))) := Lib.hid (c_forest u n s es a cap h hG hs)
  clear hc h hG
  generalize forB n es s = r at *
  go_enter Try.func51, Try.ntmps51
  go_wp2_with (first | (go_at_call 52; (with_reducible refine (KC.out).mono ?_); rintro e _ ⟨rfl, v, rfl⟩) | fail)
  go_ret
  exact Ret.mk v rfl

set_option maxRecDepth 100000 in
theorem c_refGraTell {B : Nat} {W : World} (u : Later B W) (n : Nat) (es : List (Int × Int)) (hG : isGraph (n : Int) es) (a : Option Addr) (cap gl : Nat) (h : EdgesAt B W a es) (hg : gl < B) (hc : Two W gl 42 (.int .i64 n) (.slice a es.length cap)) (s : Nat) (hs : s < bit es.length) :
    Calls Try.prog 46 #[.int .i64 s, .pointer (some ⟨gl, 0, none⟩)] u.val (Ret B W (.int .i64 ((n : Int) - (rz n es s : Int)))) := by
  have hs8 : s < 256 := by have := bit_le _ hG.2.2.1; omega
  have q0 : ∀ v : Later B W, v.val.cell? ⟨gl, 0, none⟩ = some (.int .i64 n) := fun v => (hc.keep_at v.below hg).c0
  have q1 : ∀ v : Later B W, v.val.cell? ⟨gl, 1, none⟩ = some (.slice a es.length cap) := fun v => (hc.keep_at v.below hg).c1
  obtain ⟨R, hR⟩ := Reps.ex n es s
  have hrz : rz n es s = sz R := rz_is (Grf.of hG) hR
  have hR8 := sz_le R
  have hn7 : n ≤ 7 := by have := hG.2.1; omega
  have KC : Hid (∀ v : Later B W, Calls Try.prog 47 #[.agg #[.int .i64 n, .slice a es.length cap], .int .i64 s] v.val (Ret B W (.int .i64 (rz n es s : Nat)))) := Lib.hid (fun v => by
    rw [hrz]; exact c_isle v n s R es a cap h hG hs8 hR)
  rw [← hrz] at hR8
  clear hc h hG hR hrz
  generalize rz n es s = r at *
  have wi := IntWalk.i64_in ((n : Int) - (r : Int)) (by omega)
  go_enter Try.func46, Try.ntmps46
  go_wp2
  refine wp_region_later u (by kernel_rfl) (by kernel_rfl) (fun _ => ?_)
  repeat (first | go_big_quiet_step (((go_at_call 47; exact KC.out _))) | (refine wpQuiet_step (fun K hK => ?_); go_simp; refine ⟨_, fun _ => rfl, ?_⟩; refine hK _ ?_; clear hK K))
  refine wpQuiet_nil ?_
  intro u
  go_wp2
  go_ret
  exact Ret.mk u rfl

end Go.Proofs.Ytffnpokceomncaa

namespace Go.Proofs.Ytffnpokceomncaa
open Go.RowKit
set_option linter.unusedVariables false

set_option maxRecDepth 100000 in
set_option maxHeartbeats 8000000 in
theorem c_kGraphic {B : Nat} {W : World} (u : Later B W) (n : Int) (es : List (Int × Int)) (a : Option Addr) (cap : Nat) (e n' : Int) (xs' : List Int) (h : EdgesAt B W a es) (hlen : es.length ≤ 4611686018427387904) (he : e = errno (decide (isGraph n es)) 1) (hz : ZIf e n' xs')
    (hy : e = 0 → ∃ m : Nat, n = (m : Int) ∧ isGraph (m : Int) es ∧ n' = (es.length : Nat) ∧ xs' = ints (biggest (those es.length (forB m es)))) :
    Calls Try.prog 29 #[.agg #[.int .i64 n, .slice a es.length cap]] u.val (RetP B W (MatTO B n' xs' e)) := by
  have hB := u.size
  have k1 : (u.val.alloc (.cells #[.int .i64 n, .slice a es.length cap] 42)).heap.size = u.val.heap.size + 1 := by simp
  have X1 : Two ((u.val.alloc (.cells #[.int .i64 n, .slice a es.length cap] 42)).alloc (.cells #[.int .i64 0, .slice none 0 0] 45)) u.val.heap.size 42 (.int .i64 n) (.slice a es.length cap) := (Two.new u.val _ _ _).keep ((Below.refl _ _).alloc (Nat.le_refl _) _)
  have X2 : RowL ((u.val.alloc (.cells #[.int .i64 n, .slice a es.length cap] 42)).alloc (.cells #[.int .i64 0, .slice none 0 0] 45)) (u.val.heap.size + 1) 45 [.int .i64 0, .slice none 0 0] := by
    have h := RowL.new (u.val.alloc (.cells #[.int .i64 n, .slice a es.length cap] 42)) 45 [.int .i64 0, .slice none 0 0]
    rwa [k1] at h
  have hYs : ((u.val.alloc (.cells #[.int .i64 n, .slice a es.length cap] 42)).alloc (.cells #[.int .i64 0, .slice none 0 0] 45)).heap.size = u.val.heap.size + 2 := by simp
  have HVY : Hid (∀ v : Later ((u.val.alloc (.cells #[.int .i64 n, .slice a es.length cap] 42)).alloc (.cells #[.int .i64 0, .slice none 0 0] 45)).heap.size ((u.val.alloc (.cells #[.int .i64 n, .slice a es.length cap] 42)).alloc (.cells #[.int .i64 0, .slice none 0 0] 45)), ∃ w : Later B W, w.val = v.val) := Lib.hid (fun v => ⟨((u.alloc _).alloc _).up v, rfl⟩)
  have HI : Hid (EdgesAt ((u.val.alloc (.cells #[.int .i64 n, .slice a es.length cap] 42)).alloc (.cells #[.int .i64 0, .slice none 0 0] 45)).heap.size ((u.val.alloc (.cells #[.int .i64 n, .slice a es.length cap] 42)).alloc (.cells #[.int .i64 0, .slice none 0 0] 45)) a es) := Lib.hid (h.to ((u.alloc _).alloc _))
  have HX := Lib.hid X2
  have HX1 := Lib.hid X1
  have HYs := Lib.hid hYs
  have HE := Lib.hid he
  clear h he k1 X1 X2 hYs
  go_enter Try.func29, Try.ntmps29
  go_upto_region 1 with fail
  generalize ((u.val.alloc (.cells #[.int .i64 n, .slice a es.length cap] 42)).alloc (.cells #[.int .i64 0, .slice none 0 0] 45)) = Y at *
  generalize u.val.heap.size = gu at *
  have hgY : gu + 1 < Y.heap.size := by have := HYs.out; omega
  have hgY0 : gu < Y.heap.size := by omega
  have q1 : ∀ v : Later Y.heap.size Y, v.val.cell? ⟨gu, 0, none⟩ = some (.int .i64 n) := fun v => (HX1.out.keep v.below).c0
  have q2 : ∀ v : Later Y.heap.size Y, v.val.cell? ⟨gu, 1, none⟩ = some (.slice a es.length cap) := fun v => (HX1.out.keep v.below).c1
  have f0 : ∀ (w : Later Y.heap.size Y), w.val.cell? ⟨gu + 1, 0, none⟩ = some (.int .i64 0) := fun w => (HX.out.keep_at w.below hgY).cell rfl
  have z0 : ∀ (w : Later Y.heap.size Y), w.val.frozen? ⟨gu + 1, 0, none⟩ = false := fun w => (HX.out.keep_at w.below hgY).fz 0
  have f1 : ∀ (w : Later Y.heap.size Y) (x0 : Value), (w.val.setCell ⟨gu + 1, 0, none⟩ x0).cell? ⟨gu + 1, 1, none⟩ = some (.slice none 0 0) := fun w x0 => ((HX.out.keep_at w.below hgY).set 0 x0).cell rfl
  have z1 : ∀ (w : Later Y.heap.size Y) (x0 : Value), (w.val.setCell ⟨gu + 1, 0, none⟩ x0).frozen? ⟨gu + 1, 1, none⟩ = false := fun w x0 => ((HX.out.keep_at w.below hgY).set 0 x0).fz 1
  have hfin : ∀ (v : Later Y.heap.size Y) (nn : Int) (ad : Option Addr) (cp : Nat) (xs : List Int) (ee : Int) (tm : Array Value), Own Y.heap.size v.val ad cp xs → tm.getD 2 undef = .pointer (some ⟨gu + 1, 0, none⟩) → tm.getD 3 undef = .int .i64 ee → nn = n' → xs = xs' → ee = e → bodyPost Try.prog Try.f29 (RetP B W (MatTO B n' xs' e)) .ret { tmps := tm, defers := [] } ((v.val.setCell ⟨gu + 1, 0, none⟩ (.int .i64 nn)).setCell ⟨gu + 1, 1, none⟩ (.slice ad xs.length cp)) := fun v nn ad cp xs ee tm hO h4 h5 e1 e2 e3 => by
    subst e1 e2 e3
    refine bodyPost_ret (results_row (vs := [.int .i64 nn, .slice ad xs.length cp]) rfl _ _ (gu + 1) h4 (((HX.out.keep v.below).set 0 _).set 1 _) Try.underlying45 (by kernel_rfl)) rfl ?_
    obtain ⟨x1, hx1⟩ := later_set (HVY.out v) (g := gu + 1) (i := 0) (by omega) (.int .i64 nn)
    obtain ⟨x2, hx2⟩ := later_set ⟨x1, hx1⟩ (g := gu + 1) (i := 1) (by omega) (.slice ad xs.length cp)
    exact RetP.of ⟨x2, hx2⟩ ⟨ad, cp, by rw [h5], ((hO.set hgY _).set hgY _).mono (by omega)⟩
  have HF := Lib.hid hfin
  have HNo : Hid (e ≠ 0 → 0 = n' ∧ [] = xs') := Lib.hid (fun h => by have := hz h; exact ⟨this.1.symm, this.2.symm⟩)
  have KF : Hid (∀ v : Later Y.heap.size Y, Calls Try.prog 31 #[.agg #[.int .i64 n, .slice a es.length cap]] v.val (Ret Y.heap.size Y (.int .i64 e))) := Lib.hid (fun v => by rw [HE.out]; exact c_checkGraph v n es a cap HI.out hlen)
  clear hfin hz
  obtain ⟨z, hzz⟩ : ∃ z : Later Y.heap.size Y, z.val = Y := ⟨Later.self _, rfl⟩
  rw [← hzz]
  clear hzz
  have q1z := q1 z
  have q2z := q2 z
  by_cases hfam : isGraph n es
  case neg =>
    have e1 := Lib.hid (show e = 1 by rw [HE.out, decide_eq_false hfam]; rfl)
    have hno := Lib.hid (HNo.out (by have := e1.out; omega))
    rw [e1.out] at KF
    clear hfam
    go_wp2_with (first | (go_at_call 31; (with_reducible refine (KF.out _).mono ?_); rintro e _ ⟨rfl, v, rfl⟩) | fail)
    refine HF.out v 0 none 0 [] 1 _ (Own.nil _ _) ?_ ?_ hno.out.1 hno.out.2 e1.out.symm <;> rfl
  have e1 := Lib.hid (show e = 0 by rw [HE.out, decide_eq_true hfam]; rfl)
  obtain ⟨m, rfl, hG, hn', hxs'⟩ := hy e1.out
  rw [e1.out] at KF
  have he8 := hG.2.2.1
  have KG : Hid (∀ x : Later Y.heap.size Y, Calls Try.prog 50 #[.int .i64 es.length, .func (.func 51) #[] #[.pointer (some ⟨gu, 0, none⟩)]] x.val (RetP Y.heap.size Y (MatO Y.heap.size es.length (ints (biggest (those es.length (forB m es))))))) := Lib.hid (fun x => c_greatest x es.length he8 51 _ (forB m es) (fun args w => by kernel_rfl) (fun x v s hs => by
    have hxz := x.size
    exact c_kGraTell v m es hG a cap gu (HI.out.to x) (by omega) (HX1.out.keep x.below) s hs))
  have HH := Lib.hid (And.intro hn' (And.intro hxs' e1.out))
  clear hn' hxs' hy e1 hfam hG
  generalize ints (biggest (those es.length (forB m es))) = A at *
  go_upto_region 4 with (first | (go_at_call 31; (with_reducible refine (KF.out _).mono ?_); rintro e _ ⟨rfl, v, rfl⟩))
  clear z q1z q2z KF
  have q1v := q1 v
  have q2v := q2 v
  go_wp2_with (first | (go_at_call 50; (with_reducible refine (KG.out _).mono ?_); rintro e _ ⟨_, rfl, ⟨ad, cp, rfl, hO⟩, v2, rfl⟩) | fail)
  refine HF.out v2 _ ad cp A 0 _ hO ?_ ?_ HH.out.1.symm HH.out.2.1.symm HH.out.2.2.symm <;> rfl

set_option maxRecDepth 100000 in
set_option maxHeartbeats 8000000 in
theorem c_refGraphic {B : Nat} {W : World} (u : Later B W) (n : Nat) (es : List (Int × Int)) (a : Option Addr) (cap : Nat) (h : EdgesAt B W a es) (hG : isGraph (n : Int) es) :
    Calls Try.prog 26 #[.agg #[.int .i64 n, .slice a es.length cap]] u.val (RetP B W (MatO B es.length (ints (those es.length (ofRank es.length (fun s => (n : Int) - (rz n es s : Int))))))) := by
  obtain ⟨A, hA⟩ : ∃ A, A = ints (those es.length (ofRank es.length (fun s => (n : Int) - (rz n es s : Int)))) := ⟨_, rfl⟩
  rw [← hA]
  have HAe := Lib.hid hA
  clear hA
  have hB := u.size
  have he8 := hG.2.2.1
  have k1 : (u.val.alloc (.cells #[.int .i64 n, .slice a es.length cap] 42)).heap.size = u.val.heap.size + 1 := by simp
  have X1 : Two ((u.val.alloc (.cells #[.int .i64 n, .slice a es.length cap] 42)).alloc (.cells #[.int .i64 0, .slice none 0 0] 45)) u.val.heap.size 42 (.int .i64 n) (.slice a es.length cap) := (Two.new u.val _ _ _).keep ((Below.refl _ _).alloc (Nat.le_refl _) _)
  have X2 : RowL ((u.val.alloc (.cells #[.int .i64 n, .slice a es.length cap] 42)).alloc (.cells #[.int .i64 0, .slice none 0 0] 45)) (u.val.heap.size + 1) 45 [.int .i64 0, .slice none 0 0] := by
    have h := RowL.new (u.val.alloc (.cells #[.int .i64 n, .slice a es.length cap] 42)) 45 [.int .i64 0, .slice none 0 0]
    rwa [k1] at h
  have hYs : ((u.val.alloc (.cells #[.int .i64 n, .slice a es.length cap] 42)).alloc (.cells #[.int .i64 0, .slice none 0 0] 45)).heap.size = u.val.heap.size + 2 := by simp
  have HVY : Hid (∀ v : Later ((u.val.alloc (.cells #[.int .i64 n, .slice a es.length cap] 42)).alloc (.cells #[.int .i64 0, .slice none 0 0] 45)).heap.size ((u.val.alloc (.cells #[.int .i64 n, .slice a es.length cap] 42)).alloc (.cells #[.int .i64 0, .slice none 0 0] 45)), ∃ w : Later B W, w.val = v.val) := Lib.hid (fun v => ⟨((u.alloc _).alloc _).up v, rfl⟩)
  have HI : Hid (EdgesAt ((u.val.alloc (.cells #[.int .i64 n, .slice a es.length cap] 42)).alloc (.cells #[.int .i64 0, .slice none 0 0] 45)).heap.size ((u.val.alloc (.cells #[.int .i64 n, .slice a es.length cap] 42)).alloc (.cells #[.int .i64 0, .slice none 0 0] 45)) a es) := Lib.hid (h.to ((u.alloc _).alloc _))
  have HX := Lib.hid X2
  have HX1 := Lib.hid X1
  have HYs := Lib.hid hYs
  clear h k1 X1 X2 hYs
  go_enter Try.func26, Try.ntmps26
  go_upto_region 1 with fail
  generalize ((u.val.alloc (.cells #[.int .i64 n, .slice a es.length cap] 42)).alloc (.cells #[.int .i64 0, .slice none 0 0] 45)) = Y at *
  generalize u.val.heap.size = gu at *
  have hgY : gu + 1 < Y.heap.size := by have := HYs.out; omega
  have hgY0 : gu < Y.heap.size := by omega
  have q1 : ∀ v : Later Y.heap.size Y, v.val.cell? ⟨gu, 0, none⟩ = some (.int .i64 n) := fun v => (HX1.out.keep v.below).c0
  have q2 : ∀ v : Later Y.heap.size Y, v.val.cell? ⟨gu, 1, none⟩ = some (.slice a es.length cap) := fun v => (HX1.out.keep v.below).c1
  have f0 : ∀ (w : Later Y.heap.size Y), w.val.cell? ⟨gu + 1, 0, none⟩ = some (.int .i64 0) := fun w => (HX.out.keep_at w.below hgY).cell rfl
  have z0 : ∀ (w : Later Y.heap.size Y), w.val.frozen? ⟨gu + 1, 0, none⟩ = false := fun w => (HX.out.keep_at w.below hgY).fz 0
  have f1 : ∀ (w : Later Y.heap.size Y) (x0 : Value), (w.val.setCell ⟨gu + 1, 0, none⟩ x0).cell? ⟨gu + 1, 1, none⟩ = some (.slice none 0 0) := fun w x0 => ((HX.out.keep_at w.below hgY).set 0 x0).cell rfl
  have z1 : ∀ (w : Later Y.heap.size Y) (x0 : Value), (w.val.setCell ⟨gu + 1, 0, none⟩ x0).frozen? ⟨gu + 1, 1, none⟩ = false := fun w x0 => ((HX.out.keep_at w.below hgY).set 0 x0).fz 1
  have KG : Hid (∀ x : Later Y.heap.size Y, Calls Try.prog 23 #[.int .i64 es.length, .func (.func 46) #[] #[.pointer (some ⟨gu, 0, none⟩)]] x.val (RetP Y.heap.size Y (MatO Y.heap.size es.length A))) := Lib.hid (fun x => by
    rw [HAe.out]
    exact c_ofRank x es.length he8 46 _ _ (fun args w => by kernel_rfl) (fun x v s hs => by
    have hxz := x.size
    exact c_refGraTell v n es hG a cap gu (HI.out.to x) (by omega) (HX1.out.keep x.below) s hs))
  clear hG HAe
  obtain ⟨z, hzz⟩ : ∃ z : Later Y.heap.size Y, z.val = Y := ⟨Later.self _, rfl⟩
  rw [← hzz]
  clear hzz
  have q1z := q1 z
  have q2z := q2 z
  go_wp2_with (first | (go_at_call 23; (with_reducible refine (KG.out _).mono ?_); rintro e _ ⟨_, rfl, ⟨ad, cp, rfl, hO⟩, v2, rfl⟩) | fail)
  refine bodyPost_ret (results_cell_row rfl _ _ (gu + 1) 45 #[.int .i64 (es.length : Nat), .slice ad A.length cp] (0, 0) _ rfl (((HX.out.keep v2.below).set 0 _).set 1 _) Try.underlying45 rfl (by kernel_rfl)) rfl ?_
  obtain ⟨x1, hx1⟩ := later_set (HVY.out v2) (g := gu + 1) (i := 0) (by omega) (.int .i64 (es.length : Nat))
  obtain ⟨x2, hx2⟩ := later_set ⟨x1, hx1⟩ (g := gu + 1) (i := 1) (by omega) (.slice ad A.length cp)
  refine RetP.of ⟨x2, hx2⟩ ?_
  have hBY : B ≤ Y.heap.size := by have := HYs.out; omega
  exact ⟨ad, cp, rfl, ((hO.set hgY _).set hgY _).mono hBY⟩

end Go.Proofs.Ytffnpokceomncaa
