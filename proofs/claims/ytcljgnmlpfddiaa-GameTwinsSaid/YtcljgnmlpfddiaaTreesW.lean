/-
  rotaref.Trees.
-/
import Derived.Deep.CutRange
import Derived.Deep.CutBlock
import Derived.Test.YtcljgnmlpfddiaaIsle
import Derived.Test.YtcljgnmlpfddiaaElems
namespace Go.Proofs.Ytcljgnmlpfddiaa
open Go.RowKit
set_option linter.unusedVariables false

theorem inside_elems {es : List (Int × Int)} {x v : Nat} (hx : x < bit es.length) (h8 : es.length ≤ 8) : Inside es x v ↔ ∀ k, k < (elems x).length → v.testBit (vA es ((elems x).getD k 0)) = true ∧ v.testBit (vB es ((elems x).getD k 0)) = true := by
  have hb := bit_le _ h8
  constructor
  · intro h k hk
    have h1 := elems_mem x hk
    exact h _ ((lt_pow_iff _ x h8 (by omega)).1 hx _ h1.1 h1.2) h1.2
  · intro h i hi hxi
    obtain ⟨j, hj, e, _⟩ := elems_at (show i < 8 by omega) hxi
    have := h j hj
    rw [e] at this
    exact this

set_option maxRecDepth 100000 in
set_option maxHeartbeats 8000000 in
theorem c_trees {B : Nat} {W : World} (u : Later B W) (n x s R : Nat) (r : Bool) (es : List (Int × Int)) (a : Option Addr) (cap : Nat) (h : EdgesAt B W a es) (hG : isGraph (n : Int) es) (hx : x < bit es.length) (hs : s < 256) (hR : Reps n es x R) (hr : r = true ↔ Tr n es x s R) :
    Calls Try.prog 94 #[.agg #[.int .i64 n, .slice a es.length cap], .int .i64 x, .int .i64 s] u.val (Ret B W (.bool r)) := by
  have hn7 : n ≤ 7 := by have := hG.2.1; omega
  have he8 : es.length ≤ 8 := hG.2.2.1
  have hbe := bit_le _ he8
  have hx8 : x < 256 := by omega
  have T0 : Hid (Two (u.val.alloc (.cells #[.int .i64 n, .slice a es.length cap] 27)) u.val.heap.size 27 (.int .i64 n) (.slice a es.length cap)) := Lib.hid (Two.new _ _ _ _)
  have hE : EdgesAt (u.val.alloc (.cells #[.int .i64 n, .slice a es.length cap] 27)).heap.size (u.val.alloc (.cells #[.int .i64 n, .slice a es.length cap] 27)) a es := h.to (u.alloc _)
  have HV : Hid (∀ v : Later (u.val.alloc (.cells #[.int .i64 n, .slice a es.length cap] 27)).heap.size (u.val.alloc (.cells #[.int .i64 n, .slice a es.length cap] 27)), ∃ w : Later B W, w.val = v.val) := Lib.hid (fun v => ⟨(u.alloc _).up v, rfl⟩)
  have q0 : ∀ w : Later (u.val.alloc (.cells #[.int .i64 n, .slice a es.length cap] 27)).heap.size (u.val.alloc (.cells #[.int .i64 n, .slice a es.length cap] 27)), w.val.cell? ⟨u.val.heap.size, 0, none⟩ = some (.int .i64 n) := fun w => (T0.out.keep w.below).c0
  have q1 : ∀ w : Later (u.val.alloc (.cells #[.int .i64 n, .slice a es.length cap] 27)).heap.size (u.val.alloc (.cells #[.int .i64 n, .slice a es.length cap] 27)), w.val.cell? ⟨u.val.heap.size, 1, none⟩ = some (.slice a es.length cap) := fun w => (T0.out.keep w.below).c1
  have KE : Hid (Calls Try.prog 120 #[.int .i64 x] (u.val.alloc (.cells #[.int .i64 n, .slice a es.length cap] 27)) (RetInts (u.val.alloc (.cells #[.int .i64 n, .slice a es.length cap] 27)).heap.size (u.val.alloc (.cells #[.int .i64 n, .slice a es.length cap] 27)) (ints (elems x)))) := Lib.hid (c_elements (Later.self _) x hx8)
  have HG := Lib.hid hG
  have HIn := Lib.hid (inside_elems (v := s) hx he8)
  have HEl : Hid (∀ k, k < (elems x).length → (elems x).getD k 0 < es.length) := Lib.hid (fun k hk => by
    have h1 := elems_mem x hk
    exact (lt_pow_iff _ x he8 (by omega)).1 hx _ h1.1 h1.2)
  have hE8 : (elems x).length ≤ 8 := sz_le x
  have HR := Lib.hid hr
  have HRe := Lib.hid hR
  clear h T0 hr hR hG
  go_enter Try.func94, Try.ntmps94
  go_upto_region 2 with (first | (go_at_call 120; ((with_reducible refine (KE.out).mono ?_); rintro e _ ⟨_, rfl, ⟨ad1, cp1, rfl, hI1, hcp1⟩, v1, rfl⟩)))
  have HI := Lib.hid hI1
  have HVB : Hid (∀ v : Later v1.val.heap.size v1.val, ∃ w : Later B W, w.val = v.val) := Lib.hid (fun v => HV.out (v1.up v))
  have p0 : ∀ w : Later v1.val.heap.size v1.val, w.val.cell? ⟨u.val.heap.size, 0, none⟩ = some (.int .i64 n) := fun w => q0 (v1.up w)
  have p1 : ∀ w : Later v1.val.heap.size v1.val, w.val.cell? ⟨u.val.heap.size, 1, none⟩ = some (.slice a es.length cap) := fun w => q1 (v1.up w)
  have HE : Hid (EdgesAt v1.val.heap.size v1.val a es) := Lib.hid (hE.to v1)
  clear hI1 hcp1 KE q0 q1 HV hE
  rw [show (ints (elems x)).length = (elems x).length from ints_len _]
  have hsx : sz x = (elems x).length := rfl
  have HSx := Lib.hid hsx
  clear hsx
  generalize elems x = E at *
  generalize u.val.heap.size = gu at *
  generalize v1.val = V at *
  obtain ⟨y, hy⟩ : ∃ y : Later V.heap.size V, y.val = V := ⟨Later.self _, rfl⟩
  rw [← hy]
  clear hy
  go_wp2
  go_loopw [8] (fun i wr => ∃ (k : Nat) (v : Later V.heap.size V), k ≤ E.length ∧ i = .int .i64 k ∧ wr = v.val ∧ Hid (∀ j, j < k → s.testBit (vA es (E.getD j 0)) = true ∧ s.testBit (vB es (E.getD j 0)) = true)) (fun i _ => E.length - (intOf i).toNat)
  case atStart => exact ⟨0, y, by omega, rfl, rfl, Lib.hid (fun i' hi' => by omega)⟩
  case round =>
    obtain ⟨k, v, hk, rfl, rfl, hf⟩ := hrel
    by_cases hlt : k < E.length
    · obtain ⟨bb, off, rfl, hbB, hcell⟩ := HI.out.at (k := k) (by rw [ints_len]; exact hlt)
      have c0 : ∀ v : Later V.heap.size V, v.val.cell? ⟨bb, off + k, none⟩ = some (.int .i64 ((E.getD k 0 : Nat) : Int)) := fun v => by rw [← ints_getD]; exact hcell v k (by rw [ints_len]; exact hlt)
      have hel := HEl.out k hlt
      have HNx : Hid (s.testBit (vA es (E.getD k 0)) = true → s.testBit (vB es (E.getD k 0)) = true → ∀ j, j < k + 1 → s.testBit (vA es (E.getD j 0)) = true ∧ s.testBit (vB es (E.getD j 0)) = true) := Lib.hid (fun h1 h2 j hj => by
        by_cases c : j = k
        · subst c; exact ⟨h1, h2⟩
        · exact hf.out j (by omega))
      have HNo : Hid (¬ (s.testBit (vA es (E.getD k 0)) = true ∧ s.testBit (vB es (E.getD k 0)) = true) → r = false) := Lib.hid (fun hn => by
        cases c : r
        · rfl
        · exact absurd (HIn.out.1 (HR.out.1 c).1 k hlt) hn)
      clear hcell hf
      generalize E.getD k 0 = q at *
      obtain ⟨be, offe, rfl, hbe2, hce⟩ := HE.out.at hel
      have HX := HG.out.2.2.2 q hel
      obtain ⟨yy, hyy⟩ := Int.eq_ofNat_of_zero_le HX.1
      obtain ⟨zz, hzz⟩ := Int.eq_ofNat_of_zero_le HX.2.1
      have hvy : vA es q = yy := by unfold vA; rw [hyy]; rfl
      have hvz : vB es q = zz := by unfold vB; rw [hzz]; rfl
      rw [hyy, hzz] at HX
      have e0 : ∀ v : Later V.heap.size V, v.val.cell? ⟨be, offe + q * 2, none⟩ = some (.int .i64 (yy : Int)) := fun v => by have := (hce v q hel).1; rwa [hyy] at this
      have e1 : ∀ v : Later V.heap.size V, v.val.cell? ⟨be, offe + q * 2 + 1, none⟩ = some (.int .i64 (zz : Int)) := fun v => by have := (hce v q hel).2; rwa [hzz] at this
      have hy7 : yy < 7 := by omega
      have hz7 : zz < 7 := by omega
      rw [hvy, hvz] at HNx HNo
      clear HX hyy hzz hce hvy hvz
      go_wp2
      have s0 : v.val.drew.cell? ⟨gu, 1, none⟩ = some (.slice (some ⟨be, offe, none⟩) es.length cap) ∧ v.val.drew.cell? ⟨bb, off + k, none⟩ = some (.int .i64 (q : Int)) ∧ v.val.drew.cell? ⟨be, offe + q * 2, none⟩ = some (.int .i64 (yy : Int)) ∧ v.val.drew.cell? ⟨be, offe + q * 2 + 1, none⟩ = some (.int .i64 (zz : Int)) := ⟨p1 v.drew, c0 v.drew, e0 v.drew, e1 v.drew⟩
      have sA : ∀ o : Obj, (v.val.alloc o).drew.cell? ⟨gu, 1, none⟩ = some (.slice (some ⟨be, offe, none⟩) es.length cap) ∧ (v.val.alloc o).drew.cell? ⟨bb, off + k, none⟩ = some (.int .i64 (q : Int)) ∧ (v.val.alloc o).drew.cell? ⟨be, offe + q * 2, none⟩ = some (.int .i64 (yy : Int)) ∧ (v.val.alloc o).drew.cell? ⟨be, offe + q * 2 + 1, none⟩ = some (.int .i64 (zz : Int)) := fun o => ⟨p1 (v.alloc o).drew, c0 (v.alloc o).drew, e0 (v.alloc o).drew, e1 (v.alloc o).drew⟩
      go_region_held3 (fun w' => w'.cell? ⟨gu, 1, none⟩ = some (.slice (some ⟨be, offe, none⟩) es.length cap) ∧ w'.cell? ⟨bb, off + k, none⟩ = some (.int .i64 (q : Int)) ∧ w'.cell? ⟨be, offe + q * 2, none⟩ = some (.int .i64 (yy : Int)) ∧ w'.cell? ⟨be, offe + q * 2 + 1, none⟩ = some (.int .i64 (zz : Int))) (first | exact s0 | exact sA _) (fail)
      have T1 : Hid (Two (v.val.alloc (.cells #[.int .i64 yy, .int .i64 zz] 63)) v.val.heap.size 63 (.int .i64 yy) (.int .i64 zz)) := Lib.hid (Two.new _ _ _ _)
      have t0 : ∀ w : Later (v.val.alloc (.cells #[.int .i64 yy, .int .i64 zz] 63)).heap.size (v.val.alloc (.cells #[.int .i64 yy, .int .i64 zz] 63)), w.val.cell? ⟨v.val.heap.size, 0, none⟩ = some (.int .i64 yy) := fun w => (T1.out.keep w.below).c0
      have t1 : ∀ w : Later (v.val.alloc (.cells #[.int .i64 yy, .int .i64 zz] 63)).heap.size (v.val.alloc (.cells #[.int .i64 yy, .int .i64 zz] 63)), w.val.cell? ⟨v.val.heap.size, 1, none⟩ = some (.int .i64 zz) := fun w => (T1.out.keep w.below).c1
      have KI1 := Lib.hid (fun w : Later (v.val.alloc (.cells #[.int .i64 yy, .int .i64 zz] 63)).heap.size (v.val.alloc (.cells #[.int .i64 yy, .int .i64 zz] 63)) => c_in w s yy (by omega) (by omega))
      have KI2 := Lib.hid (fun w : Later (v.val.alloc (.cells #[.int .i64 yy, .int .i64 zz] 63)).heap.size (v.val.alloc (.cells #[.int .i64 yy, .int .i64 zz] 63)) => c_in w s zz (by omega) (by omega))
      obtain ⟨v2, hv2⟩ : ∃ v2 : Later (v.val.alloc (.cells #[.int .i64 yy, .int .i64 zz] 63)).heap.size (v.val.alloc (.cells #[.int .i64 yy, .int .i64 zz] 63)), v2.val = (v.val.alloc (.cells #[.int .i64 yy, .int .i64 zz] 63)).drew := ⟨(Later.self _).drew, rfl⟩
      rw [← hv2]
      clear hv2 s0 sA T1
      have HVa : Hid (∀ w : Later (v.val.alloc (.cells #[.int .i64 yy, .int .i64 zz] 63)).heap.size (v.val.alloc (.cells #[.int .i64 yy, .int .i64 zz] 63)), ∃ w' : Later V.heap.size V, w'.val = w.val) := Lib.hid (fun w => ⟨(v.alloc _).up w, rfl⟩)
      rcases btf (s.testBit yy) with g1 | g1
      · rw [g1] at KI1
        rcases btf (s.testBit zz) with g2 | g2
        · rw [g2] at KI2
          have HN := Lib.hid (HNx.out g1 g2)
          clear g1 g2 HNx HNo
          go_wp2_with (first | (go_at_call 21; ((with_reducible refine (KI1.out _).mono ?_); rintro e _ ⟨rfl, v2, rfl⟩)) | (go_at_call 21; ((with_reducible refine (KI2.out _).mono ?_); rintro e _ ⟨rfl, v2, rfl⟩)))
          go_roundw
          case rel => exact ⟨k+1, (v.alloc _).up v2, by omega, by go_num, rfl, HN⟩
          case measure => simp [intOf]; omega
        · rw [g2] at KI2
          have hrf := HNo.out (fun h => by have := h.2; rw [g2] at this; cases this)
          subst hrf
          clear g1 g2 HNx HNo
          go_wp2_with (first | (go_at_call 21; ((with_reducible refine (KI1.out _).mono ?_); rintro e _ ⟨rfl, v2, rfl⟩)) | (go_at_call 21; ((with_reducible refine (KI2.out _).mono ?_); rintro e _ ⟨rfl, v2, rfl⟩)))
          go_ret
          exact Ret.of (HVB.out ((v.alloc _).up v2)) rfl
      · rw [g1] at KI1
        have hrf := HNo.out (fun h => by have := h.1; rw [g1] at this; cases this)
        subst hrf
        clear g1 HNx HNo
        go_wp2_with (first | (go_at_call 21; ((with_reducible refine (KI1.out _).mono ?_); rintro e _ ⟨rfl, v2, rfl⟩)))
        go_ret
        exact Ret.of (HVB.out ((v.alloc _).up v2)) rfl
    · have hke : k = E.length := by omega
      subst hke
      have HInR : Hid (Inside es x s) := Lib.hid (HIn.out.2 (fun j hj => hf.out j hj))
      have hz1 := sz_le x
      have hz2 := sz_le s
      have KS1 := Lib.hid (fun v : Later V.heap.size V => c_size v x hx8)
      have KS2 := Lib.hid (fun v : Later V.heap.size V => c_size v s hs)
      have KI := Lib.hid (fun v : Later V.heap.size V => c_isle v n x R es a cap HE.out HG.out hx8 HRe.out)
      have HR2 : Hid (r = true ↔ sz x + 1 = sz s ∧ sz R + sz x = n) := Lib.hid ⟨fun h => (HR.out.1 h).2, fun h => HR.out.2 ⟨HInR.out, h⟩⟩
      have hz3 := sz_le R
      have w1 := IntWalk.i64_in ((sz s : Int) - 1) (by omega)
      have w2 := IntWalk.i64_in ((n : Int) - (sz x : Int)) (by omega)
      clear HR HInR hf HIn HEl
      by_cases h1 : sz x + 1 = sz s
      · have d1 : ((sz x : Int) == (sz s : Int) - 1) = true := by rw [beq_iff_eq]; omega
        by_cases h2 : sz R + sz x = n
        · have d2 : ((sz R : Int) == (n : Int) - (sz x : Int)) = true := by rw [beq_iff_eq]; omega
          have hrt := HR2.out.2 ⟨h1, h2⟩
          subst hrt
          clear h1 h2 HR2
          go_wp2
          refine wp_region_later v (by kernel_rfl) (by kernel_rfl) (fun _ => ?_)
          repeat (first | go_big_quiet_step ((first | (go_at_call 66; exact KS1.out _) | (go_at_call 66; exact KS2.out _) | (go_at_call 122; exact KI.out _))) | (refine wpQuiet_step (fun K hK => ?_); go_simp; refine ⟨_, fun _ => rfl, ?_⟩; refine hK _ ?_; clear hK K))
          refine wpQuiet_nil ?_
          intro v
          go_wp2
          go_ret
          exact Ret.of (HVB.out v) rfl
        · have d2 : ((sz R : Int) == (n : Int) - (sz x : Int)) = false := by rw [beq_eq_false_iff_ne]; omega
          have hrt : r = false := by
            cases c : r
            · rfl
            · exact absurd (HR2.out.1 c).2 h2
          subst hrt
          clear h1 h2 HR2
          go_wp2
          refine wp_region_later v (by kernel_rfl) (by kernel_rfl) (fun _ => ?_)
          repeat (first | go_big_quiet_step ((first | (go_at_call 66; exact KS1.out _) | (go_at_call 66; exact KS2.out _) | (go_at_call 122; exact KI.out _))) | (refine wpQuiet_step (fun K hK => ?_); go_simp; refine ⟨_, fun _ => rfl, ?_⟩; refine hK _ ?_; clear hK K))
          refine wpQuiet_nil ?_
          intro v
          go_wp2
          go_ret
          exact Ret.of (HVB.out v) rfl
      · have d1 : ((sz x : Int) == (sz s : Int) - 1) = false := by rw [beq_eq_false_iff_ne]; omega
        have hrt : r = false := by
          cases c : r
          · rfl
          · exact absurd (HR2.out.1 c).1 h1
        subst hrt
        clear h1 HR2
        go_wp2
        refine wp_region_later v (by kernel_rfl) (by kernel_rfl) (fun _ => ?_)
        repeat (first | go_big_quiet_step ((first | (go_at_call 66; exact KS1.out _) | (go_at_call 66; exact KS2.out _))) | (refine wpQuiet_step (fun K hK => ?_); go_simp; refine ⟨_, fun _ => rfl, ?_⟩; refine hK _ ?_; clear hK K))
        refine wpQuiet_nil ?_
        intro v
        go_wp2
        go_ret
        exact Ret.of (HVB.out v) rfl

end Go.Proofs.Ytcljgnmlpfddiaa
