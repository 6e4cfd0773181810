
/-
  minors.Truncate.
-/
import Derived.Test.YtjpcelldbhdneaaMinG
import Derived.Test.YtjpcelldbhdneaaMinI
import Derived.Test.YtjpcelldbhdneaaAxAll
import Derived.Test.YtjpcelldbhdneaaMinD
namespace Go.Proofs.Ytjpcelldbhdneaa
open Go.RowKit
set_option linter.unusedVariables false

set_option maxRecDepth 100000 in
set_option maxHeartbeats 4000000 in
theorem c_truncTell {B : Nat} {W : World} (u : Later B W) (x g : Nat) (k : Int) (hx : x < 256) (hg : g < B) (hk : W.cell? ⟨g, 0, none⟩ = some (.int .i64 k)) :
    Calls Try.prog 170 #[.int .i64 x, .pointer (some ⟨g, 0, none⟩)] u.val (Ret B W (.bool (!decide ((sz x : Int) = k)))) := by
  have q0 : ∀ v : Later B W, v.val.cell? ⟨g, 0, none⟩ = some (.int .i64 k) := fun v => by rw [v.cell hg, hk]
  have KS := Lib.hid (fun v : Later B W => c_size_minors v x hx)
  clear hk
  generalize sz x = z at *
  go_enter Try.func170, Try.ntmps170
  go_wp2
  refine wp_region_later u (by kernel_rfl) (by kernel_rfl) (fun _ => ?_)
  repeat (first | go_big_quiet_step (((go_at_call 168; exact KS.out _))) | (refine wpQuiet_step (fun K hK => ?_); go_simp; refine ⟨_, fun _ => rfl, ?_⟩; refine hK _ ?_; clear hK K))
  refine wpQuiet_nil ?_
  intro u
  go_wp2
  go_ret
  refine Ret.mk u (vbool ?_)
  show ((z : Int) != k) = _
  rw [Bool.eq_iff_iff, bne_iff_ne]
  simp

set_option maxRecDepth 100000 in
set_option maxHeartbeats 4000000 in
theorem c_minTrunc_no {B : Nat} {W : World} (u : Later B W) (n k : Int) (l : List Int) (a : Option Addr) (cap : Nat) (e : Int) (h : IntsAt B W a l) (hlen : l.length ≤ 4611686018427387904) (he : MatIs n l e) (h0 : e ≠ 0) :
    Calls Try.prog 51 #[.agg #[.int .i64 n, .slice a l.length cap], .int .i64 k] u.val (RetP B W (MatTO B 0 [] e)) := by
  have hB := u.size
  have T0 : Hid (Two (u.val.alloc (.cells #[.int .i64 n, .slice a l.length cap] 24)) u.val.heap.size 24 (.int .i64 n) (.slice a l.length cap)) := Lib.hid (Two.new _ _ _ _)
  have hrr : u.val.heap.size < (u.val.alloc (.cells #[.int .i64 n, .slice a l.length cap] 24)).heap.size := by simp
  have hI : IntsAt (u.val.alloc (.cells #[.int .i64 n, .slice a l.length cap] 24)).heap.size (u.val.alloc (.cells #[.int .i64 n, .slice a l.length cap] 24)) a l := h.to (u.alloc _)
  have HV : Hid (∀ v : Later (u.val.alloc (.cells #[.int .i64 n, .slice a l.length cap] 24)).heap.size (u.val.alloc (.cells #[.int .i64 n, .slice a l.length cap] 24)), ∃ w : Later B W, w.val = v.val) := Lib.hid (fun v => ⟨(u.alloc _).up v, rfl⟩)
  have q0 : ∀ w : Later (u.val.alloc (.cells #[.int .i64 n, .slice a l.length cap] 24)).heap.size (u.val.alloc (.cells #[.int .i64 n, .slice a l.length cap] 24)), w.val.cell? ⟨u.val.heap.size, 0, none⟩ = some (.int .i64 n) := fun w => (T0.out.keep w.below).c0
  have q1 : ∀ w : Later (u.val.alloc (.cells #[.int .i64 n, .slice a l.length cap] 24)).heap.size (u.val.alloc (.cells #[.int .i64 n, .slice a l.length cap] 24)), w.val.cell? ⟨u.val.heap.size, 1, none⟩ = some (.slice a l.length cap) := fun w => (T0.out.keep w.below).c1
  have p0 : (u.val.alloc (.cells #[.int .i64 n, .slice a l.length cap] 24)).cell? ⟨u.val.heap.size, 0, none⟩ = some (.int .i64 n) := T0.out.c0
  have p1 : (u.val.alloc (.cells #[.int .i64 n, .slice a l.length cap] 24)).cell? ⟨u.val.heap.size, 1, none⟩ = some (.slice a l.length cap) := T0.out.c1
  have hM1 : (u.val.alloc (.cells #[.int .i64 n, .slice a l.length cap] 24)).heap.size = u.val.heap.size + 1 := by simp
  have hZ1 : ((u.val.alloc (.cells #[.int .i64 n, .slice a l.length cap] 24)).alloc (.cells #[.int .i64 k] 3)).heap.size = u.val.heap.size + 2 := by simp
  have XM : RowL (((u.val.alloc (.cells #[.int .i64 n, .slice a l.length cap] 24)).alloc (.cells #[.int .i64 k] 3)).alloc (.cells #[.int .i64 0, .slice none 0 0] 24)) ((u.val.alloc (.cells #[.int .i64 n, .slice a l.length cap] 24)).alloc (.cells #[.int .i64 k] 3)).heap.size 24 [.int .i64 0, .slice none 0 0] := RowL.new _ _ _
  rw [hZ1] at XM
  have HX := Lib.hid XM
  have XS0 := RowAt1.new (u.val.alloc (.cells #[.int .i64 n, .slice a l.length cap] 24)) 3 (.int .i64 k)
  rw [hM1] at XS0
  have XS := Lib.hid (XS0.keepAt (((Below.refl ((u.val.alloc (.cells #[.int .i64 n, .slice a l.length cap] 24)).alloc (.cells #[.int .i64 k] 3)).heap.size ((u.val.alloc (.cells #[.int .i64 n, .slice a l.length cap] 24)).alloc (.cells #[.int .i64 k] 3))).alloc (Nat.le_refl _) (.cells #[.int .i64 0, .slice none 0 0] 24))) (by rw [hZ1]; omega))
  have hgr : u.val.heap.size + 2 < (((u.val.alloc (.cells #[.int .i64 n, .slice a l.length cap] 24)).alloc (.cells #[.int .i64 k] 3)).alloc (.cells #[.int .i64 0, .slice none 0 0] 24)).heap.size := XM.lt
  have hIY : IntsAt (((u.val.alloc (.cells #[.int .i64 n, .slice a l.length cap] 24)).alloc (.cells #[.int .i64 k] 3)).alloc (.cells #[.int .i64 0, .slice none 0 0] 24)).heap.size (((u.val.alloc (.cells #[.int .i64 n, .slice a l.length cap] 24)).alloc (.cells #[.int .i64 k] 3)).alloc (.cells #[.int .i64 0, .slice none 0 0] 24)) a l := hI.to (((Later.self (u.val.alloc (.cells #[.int .i64 n, .slice a l.length cap] 24))).alloc _).alloc _)
  have z0 : ∀ w : Later (((u.val.alloc (.cells #[.int .i64 n, .slice a l.length cap] 24)).alloc (.cells #[.int .i64 k] 3)).alloc (.cells #[.int .i64 0, .slice none 0 0] 24)).heap.size (((u.val.alloc (.cells #[.int .i64 n, .slice a l.length cap] 24)).alloc (.cells #[.int .i64 k] 3)).alloc (.cells #[.int .i64 0, .slice none 0 0] 24)), w.val.cell? ⟨u.val.heap.size, 0, none⟩ = some (.int .i64 n) := fun w => q0 ((((Later.self (u.val.alloc (.cells #[.int .i64 n, .slice a l.length cap] 24))).alloc _).alloc _).up w)
  have z1 : ∀ w : Later (((u.val.alloc (.cells #[.int .i64 n, .slice a l.length cap] 24)).alloc (.cells #[.int .i64 k] 3)).alloc (.cells #[.int .i64 0, .slice none 0 0] 24)).heap.size (((u.val.alloc (.cells #[.int .i64 n, .slice a l.length cap] 24)).alloc (.cells #[.int .i64 k] 3)).alloc (.cells #[.int .i64 0, .slice none 0 0] 24)), w.val.cell? ⟨u.val.heap.size, 1, none⟩ = some (.slice a l.length cap) := fun w => q1 ((((Later.self (u.val.alloc (.cells #[.int .i64 n, .slice a l.length cap] 24))).alloc _).alloc _).up w)
  have z2 : ∀ w : Later (((u.val.alloc (.cells #[.int .i64 n, .slice a l.length cap] 24)).alloc (.cells #[.int .i64 k] 3)).alloc (.cells #[.int .i64 0, .slice none 0 0] 24)).heap.size (((u.val.alloc (.cells #[.int .i64 n, .slice a l.length cap] 24)).alloc (.cells #[.int .i64 k] 3)).alloc (.cells #[.int .i64 0, .slice none 0 0] 24)), w.val.cell? ⟨u.val.heap.size + 1, 0, none⟩ = some (.int .i64 k) := fun w => (XS.out.keepAt w.below (by omega)).c0
  have x0 : (((u.val.alloc (.cells #[.int .i64 n, .slice a l.length cap] 24)).alloc (.cells #[.int .i64 k] 3)).alloc (.cells #[.int .i64 0, .slice none 0 0] 24)).cell? ⟨u.val.heap.size, 0, none⟩ = some (.int .i64 n) := z0 (Later.self _)
  have x1 : (((u.val.alloc (.cells #[.int .i64 n, .slice a l.length cap] 24)).alloc (.cells #[.int .i64 k] 3)).alloc (.cells #[.int .i64 0, .slice none 0 0] 24)).cell? ⟨u.val.heap.size, 1, none⟩ = some (.slice a l.length cap) := z1 (Later.self _)
  have HVY : Hid (∀ v : Later (((u.val.alloc (.cells #[.int .i64 n, .slice a l.length cap] 24)).alloc (.cells #[.int .i64 k] 3)).alloc (.cells #[.int .i64 0, .slice none 0 0] 24)).heap.size (((u.val.alloc (.cells #[.int .i64 n, .slice a l.length cap] 24)).alloc (.cells #[.int .i64 k] 3)).alloc (.cells #[.int .i64 0, .slice none 0 0] 24)), ∃ w : Later B W, w.val = v.val) := Lib.hid (fun v => ⟨(((u.alloc _).alloc _).alloc _).up v, rfl⟩)
  have KC : Hid (Calls Try.prog 22 #[.agg #[.int .i64 n, .slice a l.length cap]] (((u.val.alloc (.cells #[.int .i64 n, .slice a l.length cap] 24)).alloc (.cells #[.int .i64 k] 3)).alloc (.cells #[.int .i64 0, .slice none 0 0] 24)) (RetP (((u.val.alloc (.cells #[.int .i64 n, .slice a l.length cap] 24)).alloc (.cells #[.int .i64 k] 3)).alloc (.cells #[.int .i64 0, .slice none 0 0] 24)).heap.size (((u.val.alloc (.cells #[.int .i64 n, .slice a l.length cap] 24)).alloc (.cells #[.int .i64 k] 3)).alloc (.cells #[.int .i64 0, .slice none 0 0] 24)) (ListE [] e))) := Lib.hid (c_axInd_no (Later.self _) n l a cap e hIY hlen he h0)
  have d0 : (e != 0) = true := by rw [bne_iff_ne]; exact h0
  clear h hI he h0 XM q0 q1 p0 p1 T0 HV hM1 hZ1 XS0 XS hIY z0 z1 z2
  go_enter Try.func51, Try.ntmps51
  go_upto_region 1 with fail
  generalize (((u.val.alloc (.cells #[.int .i64 n, .slice a l.length cap] 24)).alloc (.cells #[.int .i64 k] 3)).alloc (.cells #[.int .i64 0, .slice none 0 0] 24)) = Y at *
  generalize u.val.heap.size = gu at *
  have hBg : B ≤ gu + 2 := by omega
  have f0 : ∀ (w : Later Y.heap.size Y), w.val.cell? ⟨gu + 2, 0, none⟩ = some (.int .i64 0) := fun w => (HX.out.keep_at w.below hgr).cell rfl
  have z0 : ∀ (w : Later Y.heap.size Y), w.val.frozen? ⟨gu + 2, 0, none⟩ = false := fun w => (HX.out.keep_at w.below hgr).fz 0
  have f1 : ∀ (w : Later Y.heap.size Y) (x0 : Value), (w.val.setCell ⟨gu + 2, 0, none⟩ x0).cell? ⟨gu + 2, 1, none⟩ = some (.slice none 0 0) := fun w x0 => ((HX.out.keep_at w.below hgr).set 0 x0).cell rfl
  have z1 : ∀ (w : Later Y.heap.size Y) (x0 : Value), (w.val.setCell ⟨gu + 2, 0, none⟩ x0).frozen? ⟨gu + 2, 1, none⟩ = false := fun w x0 => ((HX.out.keep_at w.below hgr).set 0 x0).fz 1
  go_wp2_with (first | (go_at_call 22; (with_reducible refine (KC.out).mono ?_); rintro e _ ⟨_, rfl, ⟨_, rfl, ⟨ad1, cp1, rfl, hI1, hcp1⟩⟩, v1, rfl⟩))
  refine bodyPost_ret (results_row (vs := [.int .i64 0, .slice none 0 0]) rfl _ _ (gu + 2) rfl (((HX.out.keep v1.below).set 0 _).set 1 _) Try.underlying24 (by kernel_rfl)) rfl ?_
  obtain ⟨y1, hy1⟩ := later_set (HVY.out v1) (g := gu + 2) (i := 0) hBg (.int .i64 0)
  obtain ⟨y2, hy2⟩ := later_set ⟨y1, hy1⟩ (g := gu + 2) (i := 1) hBg (.slice none 0 0)
  exact RetP.of ⟨y2, hy2⟩ MatTO.no

theorem filt_ints (I : List Nat) (k : Int) : (ints I).filter (fun x => !(fun y : Int => !decide ((sz y.toNat : Int) = k)) x) = ints (I.filter (fun s => decide ((sz s : Int) = k))) := by
  unfold ints
  rw [List.filter_map]
  congr 1
  refine List.filter_congr (fun x _ => ?_)
  simp

set_option maxRecDepth 100000 in
set_option maxHeartbeats 8000000 in
theorem c_minTrunc_bad {B : Nat} {W : World} (u : Later B W) (m : Nat) (hm : m ≤ 8) (k : Int) (L : List Nat) (hL : ∀ b, b ∈ L → b < 256) (hne : L ≠ []) (a : Option Addr) (cap : Nat) (h : IntsAt B W a (ints L)) (hlen : (ints L).length ≤ 4611686018427387904) (he : MatIs (m : Int) (ints L) 0) (hk : ¬ (0 ≤ k ∧ k ≤ sz (L.getD 0 0))) :
    Calls Try.prog 51 #[.agg #[.int .i64 m, .slice a (ints L).length cap], .int .i64 k] u.val (RetP B W (MatTO B 0 [] 1)) := by
  have hl0 : 0 < L.length := List.length_pos_iff.2 hne
  obtain ⟨b0, o0, rfl, hb0, hc0⟩ := h.at (k := 0) (by rw [ints_len]; exact hl0)
  have hB := u.size
  have T0 : Hid (Two (u.val.alloc (.cells #[.int .i64 m, .slice (some ⟨b0, o0, none⟩) (ints L).length cap] 24)) u.val.heap.size 24 (.int .i64 m) (.slice (some ⟨b0, o0, none⟩) (ints L).length cap)) := Lib.hid (Two.new _ _ _ _)
  have hrr : u.val.heap.size < (u.val.alloc (.cells #[.int .i64 m, .slice (some ⟨b0, o0, none⟩) (ints L).length cap] 24)).heap.size := by simp
  have hI : IntsAt (u.val.alloc (.cells #[.int .i64 m, .slice (some ⟨b0, o0, none⟩) (ints L).length cap] 24)).heap.size (u.val.alloc (.cells #[.int .i64 m, .slice (some ⟨b0, o0, none⟩) (ints L).length cap] 24)) (some ⟨b0, o0, none⟩) (ints L) := h.to (u.alloc _)
  have HV : Hid (∀ v : Later (u.val.alloc (.cells #[.int .i64 m, .slice (some ⟨b0, o0, none⟩) (ints L).length cap] 24)).heap.size (u.val.alloc (.cells #[.int .i64 m, .slice (some ⟨b0, o0, none⟩) (ints L).length cap] 24)), ∃ w : Later B W, w.val = v.val) := Lib.hid (fun v => ⟨(u.alloc _).up v, rfl⟩)
  have q0 : ∀ w : Later (u.val.alloc (.cells #[.int .i64 m, .slice (some ⟨b0, o0, none⟩) (ints L).length cap] 24)).heap.size (u.val.alloc (.cells #[.int .i64 m, .slice (some ⟨b0, o0, none⟩) (ints L).length cap] 24)), w.val.cell? ⟨u.val.heap.size, 0, none⟩ = some (.int .i64 m) := fun w => (T0.out.keep w.below).c0
  have q1 : ∀ w : Later (u.val.alloc (.cells #[.int .i64 m, .slice (some ⟨b0, o0, none⟩) (ints L).length cap] 24)).heap.size (u.val.alloc (.cells #[.int .i64 m, .slice (some ⟨b0, o0, none⟩) (ints L).length cap] 24)), w.val.cell? ⟨u.val.heap.size, 1, none⟩ = some (.slice (some ⟨b0, o0, none⟩) (ints L).length cap) := fun w => (T0.out.keep w.below).c1
  have p0 : (u.val.alloc (.cells #[.int .i64 m, .slice (some ⟨b0, o0, none⟩) (ints L).length cap] 24)).cell? ⟨u.val.heap.size, 0, none⟩ = some (.int .i64 m) := T0.out.c0
  have p1 : (u.val.alloc (.cells #[.int .i64 m, .slice (some ⟨b0, o0, none⟩) (ints L).length cap] 24)).cell? ⟨u.val.heap.size, 1, none⟩ = some (.slice (some ⟨b0, o0, none⟩) (ints L).length cap) := T0.out.c1
  have hM1 : (u.val.alloc (.cells #[.int .i64 m, .slice (some ⟨b0, o0, none⟩) (ints L).length cap] 24)).heap.size = u.val.heap.size + 1 := by simp
  have hZ1 : ((u.val.alloc (.cells #[.int .i64 m, .slice (some ⟨b0, o0, none⟩) (ints L).length cap] 24)).alloc (.cells #[.int .i64 k] 3)).heap.size = u.val.heap.size + 2 := by simp
  have XM : RowL (((u.val.alloc (.cells #[.int .i64 m, .slice (some ⟨b0, o0, none⟩) (ints L).length cap] 24)).alloc (.cells #[.int .i64 k] 3)).alloc (.cells #[.int .i64 0, .slice none 0 0] 24)) ((u.val.alloc (.cells #[.int .i64 m, .slice (some ⟨b0, o0, none⟩) (ints L).length cap] 24)).alloc (.cells #[.int .i64 k] 3)).heap.size 24 [.int .i64 0, .slice none 0 0] := RowL.new _ _ _
  rw [hZ1] at XM
  have HX := Lib.hid XM
  have XS0 := RowAt1.new (u.val.alloc (.cells #[.int .i64 m, .slice (some ⟨b0, o0, none⟩) (ints L).length cap] 24)) 3 (.int .i64 k)
  rw [hM1] at XS0
  have XS := Lib.hid (XS0.keepAt (((Below.refl ((u.val.alloc (.cells #[.int .i64 m, .slice (some ⟨b0, o0, none⟩) (ints L).length cap] 24)).alloc (.cells #[.int .i64 k] 3)).heap.size ((u.val.alloc (.cells #[.int .i64 m, .slice (some ⟨b0, o0, none⟩) (ints L).length cap] 24)).alloc (.cells #[.int .i64 k] 3))).alloc (Nat.le_refl _) (.cells #[.int .i64 0, .slice none 0 0] 24))) (by rw [hZ1]; omega))
  have hgr : u.val.heap.size + 2 < (((u.val.alloc (.cells #[.int .i64 m, .slice (some ⟨b0, o0, none⟩) (ints L).length cap] 24)).alloc (.cells #[.int .i64 k] 3)).alloc (.cells #[.int .i64 0, .slice none 0 0] 24)).heap.size := XM.lt
  have hIY : IntsAt (((u.val.alloc (.cells #[.int .i64 m, .slice (some ⟨b0, o0, none⟩) (ints L).length cap] 24)).alloc (.cells #[.int .i64 k] 3)).alloc (.cells #[.int .i64 0, .slice none 0 0] 24)).heap.size (((u.val.alloc (.cells #[.int .i64 m, .slice (some ⟨b0, o0, none⟩) (ints L).length cap] 24)).alloc (.cells #[.int .i64 k] 3)).alloc (.cells #[.int .i64 0, .slice none 0 0] 24)) (some ⟨b0, o0, none⟩) (ints L) := hI.to (((Later.self (u.val.alloc (.cells #[.int .i64 m, .slice (some ⟨b0, o0, none⟩) (ints L).length cap] 24))).alloc _).alloc _)
  have z0 : ∀ w : Later (((u.val.alloc (.cells #[.int .i64 m, .slice (some ⟨b0, o0, none⟩) (ints L).length cap] 24)).alloc (.cells #[.int .i64 k] 3)).alloc (.cells #[.int .i64 0, .slice none 0 0] 24)).heap.size (((u.val.alloc (.cells #[.int .i64 m, .slice (some ⟨b0, o0, none⟩) (ints L).length cap] 24)).alloc (.cells #[.int .i64 k] 3)).alloc (.cells #[.int .i64 0, .slice none 0 0] 24)), w.val.cell? ⟨u.val.heap.size, 0, none⟩ = some (.int .i64 m) := fun w => q0 ((((Later.self (u.val.alloc (.cells #[.int .i64 m, .slice (some ⟨b0, o0, none⟩) (ints L).length cap] 24))).alloc _).alloc _).up w)
  have z1 : ∀ w : Later (((u.val.alloc (.cells #[.int .i64 m, .slice (some ⟨b0, o0, none⟩) (ints L).length cap] 24)).alloc (.cells #[.int .i64 k] 3)).alloc (.cells #[.int .i64 0, .slice none 0 0] 24)).heap.size (((u.val.alloc (.cells #[.int .i64 m, .slice (some ⟨b0, o0, none⟩) (ints L).length cap] 24)).alloc (.cells #[.int .i64 k] 3)).alloc (.cells #[.int .i64 0, .slice none 0 0] 24)), w.val.cell? ⟨u.val.heap.size, 1, none⟩ = some (.slice (some ⟨b0, o0, none⟩) (ints L).length cap) := fun w => q1 ((((Later.self (u.val.alloc (.cells #[.int .i64 m, .slice (some ⟨b0, o0, none⟩) (ints L).length cap] 24))).alloc _).alloc _).up w)
  have z2 : ∀ w : Later (((u.val.alloc (.cells #[.int .i64 m, .slice (some ⟨b0, o0, none⟩) (ints L).length cap] 24)).alloc (.cells #[.int .i64 k] 3)).alloc (.cells #[.int .i64 0, .slice none 0 0] 24)).heap.size (((u.val.alloc (.cells #[.int .i64 m, .slice (some ⟨b0, o0, none⟩) (ints L).length cap] 24)).alloc (.cells #[.int .i64 k] 3)).alloc (.cells #[.int .i64 0, .slice none 0 0] 24)), w.val.cell? ⟨u.val.heap.size + 1, 0, none⟩ = some (.int .i64 k) := fun w => (XS.out.keepAt w.below (by omega)).c0
  have x0 : (((u.val.alloc (.cells #[.int .i64 m, .slice (some ⟨b0, o0, none⟩) (ints L).length cap] 24)).alloc (.cells #[.int .i64 k] 3)).alloc (.cells #[.int .i64 0, .slice none 0 0] 24)).cell? ⟨u.val.heap.size, 0, none⟩ = some (.int .i64 m) := z0 (Later.self _)
  have x1 : (((u.val.alloc (.cells #[.int .i64 m, .slice (some ⟨b0, o0, none⟩) (ints L).length cap] 24)).alloc (.cells #[.int .i64 k] 3)).alloc (.cells #[.int .i64 0, .slice none 0 0] 24)).cell? ⟨u.val.heap.size, 1, none⟩ = some (.slice (some ⟨b0, o0, none⟩) (ints L).length cap) := z1 (Later.self _)
  have HVY : Hid (∀ v : Later (((u.val.alloc (.cells #[.int .i64 m, .slice (some ⟨b0, o0, none⟩) (ints L).length cap] 24)).alloc (.cells #[.int .i64 k] 3)).alloc (.cells #[.int .i64 0, .slice none 0 0] 24)).heap.size (((u.val.alloc (.cells #[.int .i64 m, .slice (some ⟨b0, o0, none⟩) (ints L).length cap] 24)).alloc (.cells #[.int .i64 k] 3)).alloc (.cells #[.int .i64 0, .slice none 0 0] 24)), ∃ w : Later B W, w.val = v.val) := Lib.hid (fun v => ⟨(((u.alloc _).alloc _).alloc _).up v, rfl⟩)
  have KC : Hid (Calls Try.prog 22 #[.agg #[.int .i64 m, .slice (some ⟨b0, o0, none⟩) (ints L).length cap]] (((u.val.alloc (.cells #[.int .i64 m, .slice (some ⟨b0, o0, none⟩) (ints L).length cap] 24)).alloc (.cells #[.int .i64 k] 3)).alloc (.cells #[.int .i64 0, .slice none 0 0] 24)) (RetP (((u.val.alloc (.cells #[.int .i64 m, .slice (some ⟨b0, o0, none⟩) (ints L).length cap] 24)).alloc (.cells #[.int .i64 k] 3)).alloc (.cells #[.int .i64 0, .slice none 0 0] 24)).heap.size (((u.val.alloc (.cells #[.int .i64 m, .slice (some ⟨b0, o0, none⟩) (ints L).length cap] 24)).alloc (.cells #[.int .i64 k] 3)).alloc (.cells #[.int .i64 0, .slice none 0 0] 24)) (ListO (((u.val.alloc (.cells #[.int .i64 m, .slice (some ⟨b0, o0, none⟩) (ints L).length cap] 24)).alloc (.cells #[.int .i64 k] 3)).alloc (.cells #[.int .i64 0, .slice none 0 0] 24)).heap.size (ints (those m (indP (toN (ints L))))) 0))) := Lib.hid (c_axIndO (Later.self _) m hm (ints L) _ cap hIY hlen he)
  have c0 : ∀ w : Later (((u.val.alloc (.cells #[.int .i64 m, .slice (some ⟨b0, o0, none⟩) (ints L).length cap] 24)).alloc (.cells #[.int .i64 k] 3)).alloc (.cells #[.int .i64 0, .slice none 0 0] 24)).heap.size (((u.val.alloc (.cells #[.int .i64 m, .slice (some ⟨b0, o0, none⟩) (ints L).length cap] 24)).alloc (.cells #[.int .i64 k] 3)).alloc (.cells #[.int .i64 0, .slice none 0 0] 24)), w.val.cell? ⟨b0, o0, none⟩ = some (.int .i64 ((L.getD 0 0 : Nat) : Int)) := fun w => by
    obtain ⟨w', hw'⟩ := HVY.out w
    have := hc0 w' 0 (by rw [ints_len]; exact hl0)
    rw [ints_getD, Nat.add_zero, hw'] at this
    exact this
  have h80 : L.getD 0 0 < 256 := hL _ (by simp [hl0])
  have KS : Hid (∀ w : Later (((u.val.alloc (.cells #[.int .i64 m, .slice (some ⟨b0, o0, none⟩) (ints L).length cap] 24)).alloc (.cells #[.int .i64 k] 3)).alloc (.cells #[.int .i64 0, .slice none 0 0] 24)).heap.size (((u.val.alloc (.cells #[.int .i64 m, .slice (some ⟨b0, o0, none⟩) (ints L).length cap] 24)).alloc (.cells #[.int .i64 k] 3)).alloc (.cells #[.int .i64 0, .slice none 0 0] 24)), Calls Try.prog 168 #[.int .i64 ((L.getD 0 0 : Nat) : Int)] w.val (Ret w.val.heap.size w.val (.int .i64 (sz (L.getD 0 0))))) := Lib.hid (fun w => c_size_minors (Later.self w.val) _ h80)
  have hl0' : 0 < (ints L).length := by rw [ints_len]; exact hl0
  clear h hI he XM q0 q1 p0 p1 T0 HV hM1 hZ1 XS0 XS hIY hc0 hb0 hL hne hlen
  go_enter Try.func51, Try.ntmps51
  go_upto_region 1 with fail
  generalize (((u.val.alloc (.cells #[.int .i64 m, .slice (some ⟨b0, o0, none⟩) (ints L).length cap] 24)).alloc (.cells #[.int .i64 k] 3)).alloc (.cells #[.int .i64 0, .slice none 0 0] 24)) = Y at *
  generalize u.val.heap.size = gu at *
  generalize those m (indP (toN (ints L))) = I at *
  generalize sz (L.getD 0 0) = r at *
  generalize L.getD 0 0 = b1 at *
  generalize (ints L).length = len at *
  have hBg : B ≤ gu + 2 := by omega
  go_upto_region 4 with (first | (go_at_call 22; ((with_reducible refine (KC.out).mono ?_); rintro e _ ⟨_, rfl, ⟨ad, cp, rfl, hO⟩, v1, rfl⟩)))
  have t0 : ∀ w : Later v1.val.heap.size v1.val, w.val.cell? ⟨gu, 0, none⟩ = some (.int .i64 m) := fun w => z0 (v1.up w)
  have t1 : ∀ w : Later v1.val.heap.size v1.val, w.val.cell? ⟨gu, 1, none⟩ = some (.slice (some ⟨b0, o0, none⟩) len cap) := fun w => z1 (v1.up w)
  have t2 : ∀ w : Later v1.val.heap.size v1.val, w.val.cell? ⟨gu + 1, 0, none⟩ = some (.int .i64 k) := fun w => z2 (v1.up w)
  have t3 : ∀ w : Later v1.val.heap.size v1.val, w.val.cell? ⟨b0, o0, none⟩ = some (.int .i64 (b1 : Int)) := fun w => c0 (v1.up w)
  have KS1 : Hid (∀ w : Later v1.val.heap.size v1.val, Calls Try.prog 168 #[.int .i64 (b1 : Int)] w.val (Ret v1.val.heap.size v1.val (.int .i64 (r : Int)))) := Lib.hid (fun w => (KS.out (v1.up w)).mono (by
    rintro e _ ⟨rfl, w2, rfl⟩
    exact Ret.mk (w.up w2) rfl))
  have HX2 : Hid (RowL v1.val (gu + 2) 24 [.int .i64 0, .slice none 0 0]) := Lib.hid (HX.out.keep v1.below)
  have hgr2 : gu + 2 < v1.val.heap.size := HX2.out.lt
  clear z0 z1 z2 c0
  have f0 : ∀ (w : Later v1.val.heap.size v1.val), w.val.cell? ⟨gu + 2, 0, none⟩ = some (.int .i64 0) := fun w => (HX2.out.keep_at w.below hgr2).cell rfl
  have z0 : ∀ (w : Later v1.val.heap.size v1.val), w.val.frozen? ⟨gu + 2, 0, none⟩ = false := fun w => (HX2.out.keep_at w.below hgr2).fz 0
  have f1 : ∀ (w : Later v1.val.heap.size v1.val) (x0 : Value), (w.val.setCell ⟨gu + 2, 0, none⟩ x0).cell? ⟨gu + 2, 1, none⟩ = some (.slice none 0 0) := fun w x0 => ((HX2.out.keep_at w.below hgr2).set 0 x0).cell rfl
  have z1 : ∀ (w : Later v1.val.heap.size v1.val) (x0 : Value), (w.val.setCell ⟨gu + 2, 0, none⟩ x0).frozen? ⟨gu + 2, 1, none⟩ = false := fun w x0 => ((HX2.out.keep_at w.below hgr2).set 0 x0).fz 1
  have HV1 : Hid (∀ w : Later v1.val.heap.size v1.val, Below Y.heap.size Y w.val) := Lib.hid (fun w => (v1.up w).below)
  obtain ⟨w, hw⟩ : ∃ w : Later v1.val.heap.size v1.val, w.val = v1.val := ⟨Later.self _, rfl⟩
  rw [← hw]
  clear hw KC KS
  by_cases hk0 : k < 0
  · clear hk
    refine wp_region_later w (by kernel_rfl) (by kernel_rfl) (fun _ => ?_)
    repeat (first | go_big_quiet_step (((go_at_call 168; exact KS1.out _))) | (refine wpQuiet_step (fun K hK => ?_); go_simp; refine ⟨_, fun _ => rfl, ?_⟩; refine hK _ ?_; clear hK K))
    refine wpQuiet_nil ?_
    intro w
    go_wp2
    refine bodyPost_ret (results_row (vs := [.int .i64 0, .slice none 0 0]) rfl _ _ (gu + 2) rfl (((HX2.out.keep w.below).set 0 _).set 1 _) Try.underlying24 (by kernel_rfl)) rfl ?_
    obtain ⟨y1, hy1⟩ := later_set (HVY.out (v1.up w)) (g := gu + 2) (i := 0) hBg (.int .i64 0)
    obtain ⟨y2, hy2⟩ := later_set ⟨y1, hy1⟩ (g := gu + 2) (i := 1) hBg (.slice none 0 0)
    exact RetP.of ⟨y2, hy2⟩ MatTO.no
  · have hk1 : (r : Int) < k := by omega
    clear hk
    refine wp_region_later w (by kernel_rfl) (by kernel_rfl) (fun _ => ?_)
    repeat (first | go_big_quiet_step (((go_at_call 168; exact KS1.out _))) | (refine wpQuiet_step (fun K hK => ?_); go_simp; refine ⟨_, fun _ => rfl, ?_⟩; refine hK _ ?_; clear hK K))
    refine wpQuiet_nil ?_
    intro w
    go_wp2
    refine bodyPost_ret (results_row (vs := [.int .i64 0, .slice none 0 0]) rfl _ _ (gu + 2) rfl (((HX2.out.keep w.below).set 0 _).set 1 _) Try.underlying24 (by kernel_rfl)) rfl ?_
    obtain ⟨y1, hy1⟩ := later_set (HVY.out (v1.up w)) (g := gu + 2) (i := 0) hBg (.int .i64 0)
    obtain ⟨y2, hy2⟩ := later_set ⟨y1, hy1⟩ (g := gu + 2) (i := 1) hBg (.slice none 0 0)
    exact RetP.of ⟨y2, hy2⟩ MatTO.no

set_option maxRecDepth 100000 in
set_option maxHeartbeats 8000000 in
theorem c_minTrunc {B : Nat} {W : World} (u : Later B W) (m : Nat) (hm : m ≤ 8) (k : Int) (L : List Nat) (hL : ∀ b, b ∈ L → b < 256) (hne : L ≠ []) (a : Option Addr) (cap : Nat) (h : IntsAt B W a (ints L)) (hlen : (ints L).length ≤ 4611686018427387904) (he : MatIs (m : Int) (ints L) 0) (hTN : toN (ints L) = L) (hk0 : 0 ≤ k) (hk1 : k ≤ sz (L.getD 0 0)) :
    Calls Try.prog 51 #[.agg #[.int .i64 m, .slice a (ints L).length cap], .int .i64 k] u.val (RetP B W (MatTO B (m : Nat) (ints (those m (memB ((those m (indP L)).filter (fun s => decide ((sz s : Int) = k)))))) 0)) := by
  have hl0 : 0 < L.length := List.length_pos_iff.2 hne
  obtain ⟨A, hA⟩ : ∃ A, those m (memB ((those m (indP L)).filter (fun s => decide ((sz s : Int) = k)))) = A := ⟨_, rfl⟩
  rw [hA]
  have HA := Lib.hid hA
  clear hA
  obtain ⟨b0, o0, rfl, hb0, hc0⟩ := h.at (k := 0) (by rw [ints_len]; exact hl0)
  have hB := u.size
  have T0 : Hid (Two (u.val.alloc (.cells #[.int .i64 m, .slice (some ⟨b0, o0, none⟩) (ints L).length cap] 24)) u.val.heap.size 24 (.int .i64 m) (.slice (some ⟨b0, o0, none⟩) (ints L).length cap)) := Lib.hid (Two.new _ _ _ _)
  have hrr : u.val.heap.size < (u.val.alloc (.cells #[.int .i64 m, .slice (some ⟨b0, o0, none⟩) (ints L).length cap] 24)).heap.size := by simp
  have hI : IntsAt (u.val.alloc (.cells #[.int .i64 m, .slice (some ⟨b0, o0, none⟩) (ints L).length cap] 24)).heap.size (u.val.alloc (.cells #[.int .i64 m, .slice (some ⟨b0, o0, none⟩) (ints L).length cap] 24)) (some ⟨b0, o0, none⟩) (ints L) := h.to (u.alloc _)
  have HV : Hid (∀ v : Later (u.val.alloc (.cells #[.int .i64 m, .slice (some ⟨b0, o0, none⟩) (ints L).length cap] 24)).heap.size (u.val.alloc (.cells #[.int .i64 m, .slice (some ⟨b0, o0, none⟩) (ints L).length cap] 24)), ∃ w : Later B W, w.val = v.val) := Lib.hid (fun v => ⟨(u.alloc _).up v, rfl⟩)
  have q0 : ∀ w : Later (u.val.alloc (.cells #[.int .i64 m, .slice (some ⟨b0, o0, none⟩) (ints L).length cap] 24)).heap.size (u.val.alloc (.cells #[.int .i64 m, .slice (some ⟨b0, o0, none⟩) (ints L).length cap] 24)), w.val.cell? ⟨u.val.heap.size, 0, none⟩ = some (.int .i64 m) := fun w => (T0.out.keep w.below).c0
  have q1 : ∀ w : Later (u.val.alloc (.cells #[.int .i64 m, .slice (some ⟨b0, o0, none⟩) (ints L).length cap] 24)).heap.size (u.val.alloc (.cells #[.int .i64 m, .slice (some ⟨b0, o0, none⟩) (ints L).length cap] 24)), w.val.cell? ⟨u.val.heap.size, 1, none⟩ = some (.slice (some ⟨b0, o0, none⟩) (ints L).length cap) := fun w => (T0.out.keep w.below).c1
  have p0 : (u.val.alloc (.cells #[.int .i64 m, .slice (some ⟨b0, o0, none⟩) (ints L).length cap] 24)).cell? ⟨u.val.heap.size, 0, none⟩ = some (.int .i64 m) := T0.out.c0
  have p1 : (u.val.alloc (.cells #[.int .i64 m, .slice (some ⟨b0, o0, none⟩) (ints L).length cap] 24)).cell? ⟨u.val.heap.size, 1, none⟩ = some (.slice (some ⟨b0, o0, none⟩) (ints L).length cap) := T0.out.c1
  have hM1 : (u.val.alloc (.cells #[.int .i64 m, .slice (some ⟨b0, o0, none⟩) (ints L).length cap] 24)).heap.size = u.val.heap.size + 1 := by simp
  have hZ1 : ((u.val.alloc (.cells #[.int .i64 m, .slice (some ⟨b0, o0, none⟩) (ints L).length cap] 24)).alloc (.cells #[.int .i64 k] 3)).heap.size = u.val.heap.size + 2 := by simp
  have XM : RowL (((u.val.alloc (.cells #[.int .i64 m, .slice (some ⟨b0, o0, none⟩) (ints L).length cap] 24)).alloc (.cells #[.int .i64 k] 3)).alloc (.cells #[.int .i64 0, .slice none 0 0] 24)) ((u.val.alloc (.cells #[.int .i64 m, .slice (some ⟨b0, o0, none⟩) (ints L).length cap] 24)).alloc (.cells #[.int .i64 k] 3)).heap.size 24 [.int .i64 0, .slice none 0 0] := RowL.new _ _ _
  rw [hZ1] at XM
  have HX := Lib.hid XM
  have XS0 := RowAt1.new (u.val.alloc (.cells #[.int .i64 m, .slice (some ⟨b0, o0, none⟩) (ints L).length cap] 24)) 3 (.int .i64 k)
  rw [hM1] at XS0
  have XS := Lib.hid (XS0.keepAt (((Below.refl ((u.val.alloc (.cells #[.int .i64 m, .slice (some ⟨b0, o0, none⟩) (ints L).length cap] 24)).alloc (.cells #[.int .i64 k] 3)).heap.size ((u.val.alloc (.cells #[.int .i64 m, .slice (some ⟨b0, o0, none⟩) (ints L).length cap] 24)).alloc (.cells #[.int .i64 k] 3))).alloc (Nat.le_refl _) (.cells #[.int .i64 0, .slice none 0 0] 24))) (by rw [hZ1]; omega))
  have hgr : u.val.heap.size + 2 < (((u.val.alloc (.cells #[.int .i64 m, .slice (some ⟨b0, o0, none⟩) (ints L).length cap] 24)).alloc (.cells #[.int .i64 k] 3)).alloc (.cells #[.int .i64 0, .slice none 0 0] 24)).heap.size := XM.lt
  have hIY : IntsAt (((u.val.alloc (.cells #[.int .i64 m, .slice (some ⟨b0, o0, none⟩) (ints L).length cap] 24)).alloc (.cells #[.int .i64 k] 3)).alloc (.cells #[.int .i64 0, .slice none 0 0] 24)).heap.size (((u.val.alloc (.cells #[.int .i64 m, .slice (some ⟨b0, o0, none⟩) (ints L).length cap] 24)).alloc (.cells #[.int .i64 k] 3)).alloc (.cells #[.int .i64 0, .slice none 0 0] 24)) (some ⟨b0, o0, none⟩) (ints L) := hI.to (((Later.self (u.val.alloc (.cells #[.int .i64 m, .slice (some ⟨b0, o0, none⟩) (ints L).length cap] 24))).alloc _).alloc _)
  have z0 : ∀ w : Later (((u.val.alloc (.cells #[.int .i64 m, .slice (some ⟨b0, o0, none⟩) (ints L).length cap] 24)).alloc (.cells #[.int .i64 k] 3)).alloc (.cells #[.int .i64 0, .slice none 0 0] 24)).heap.size (((u.val.alloc (.cells #[.int .i64 m, .slice (some ⟨b0, o0, none⟩) (ints L).length cap] 24)).alloc (.cells #[.int .i64 k] 3)).alloc (.cells #[.int .i64 0, .slice none 0 0] 24)), w.val.cell? ⟨u.val.heap.size, 0, none⟩ = some (.int .i64 m) := fun w => q0 ((((Later.self (u.val.alloc (.cells #[.int .i64 m, .slice (some ⟨b0, o0, none⟩) (ints L).length cap] 24))).alloc _).alloc _).up w)
  have z1 : ∀ w : Later (((u.val.alloc (.cells #[.int .i64 m, .slice (some ⟨b0, o0, none⟩) (ints L).length cap] 24)).alloc (.cells #[.int .i64 k] 3)).alloc (.cells #[.int .i64 0, .slice none 0 0] 24)).heap.size (((u.val.alloc (.cells #[.int .i64 m, .slice (some ⟨b0, o0, none⟩) (ints L).length cap] 24)).alloc (.cells #[.int .i64 k] 3)).alloc (.cells #[.int .i64 0, .slice none 0 0] 24)), w.val.cell? ⟨u.val.heap.size, 1, none⟩ = some (.slice (some ⟨b0, o0, none⟩) (ints L).length cap) := fun w => q1 ((((Later.self (u.val.alloc (.cells #[.int .i64 m, .slice (some ⟨b0, o0, none⟩) (ints L).length cap] 24))).alloc _).alloc _).up w)
  have z2 : ∀ w : Later (((u.val.alloc (.cells #[.int .i64 m, .slice (some ⟨b0, o0, none⟩) (ints L).length cap] 24)).alloc (.cells #[.int .i64 k] 3)).alloc (.cells #[.int .i64 0, .slice none 0 0] 24)).heap.size (((u.val.alloc (.cells #[.int .i64 m, .slice (some ⟨b0, o0, none⟩) (ints L).length cap] 24)).alloc (.cells #[.int .i64 k] 3)).alloc (.cells #[.int .i64 0, .slice none 0 0] 24)), w.val.cell? ⟨u.val.heap.size + 1, 0, none⟩ = some (.int .i64 k) := fun w => (XS.out.keepAt w.below (by omega)).c0
  have x0 : (((u.val.alloc (.cells #[.int .i64 m, .slice (some ⟨b0, o0, none⟩) (ints L).length cap] 24)).alloc (.cells #[.int .i64 k] 3)).alloc (.cells #[.int .i64 0, .slice none 0 0] 24)).cell? ⟨u.val.heap.size, 0, none⟩ = some (.int .i64 m) := z0 (Later.self _)
  have x1 : (((u.val.alloc (.cells #[.int .i64 m, .slice (some ⟨b0, o0, none⟩) (ints L).length cap] 24)).alloc (.cells #[.int .i64 k] 3)).alloc (.cells #[.int .i64 0, .slice none 0 0] 24)).cell? ⟨u.val.heap.size, 1, none⟩ = some (.slice (some ⟨b0, o0, none⟩) (ints L).length cap) := z1 (Later.self _)
  have HVY : Hid (∀ v : Later (((u.val.alloc (.cells #[.int .i64 m, .slice (some ⟨b0, o0, none⟩) (ints L).length cap] 24)).alloc (.cells #[.int .i64 k] 3)).alloc (.cells #[.int .i64 0, .slice none 0 0] 24)).heap.size (((u.val.alloc (.cells #[.int .i64 m, .slice (some ⟨b0, o0, none⟩) (ints L).length cap] 24)).alloc (.cells #[.int .i64 k] 3)).alloc (.cells #[.int .i64 0, .slice none 0 0] 24)), ∃ w : Later B W, w.val = v.val) := Lib.hid (fun v => ⟨(((u.alloc _).alloc _).alloc _).up v, rfl⟩)
  have KC : Hid (Calls Try.prog 22 #[.agg #[.int .i64 m, .slice (some ⟨b0, o0, none⟩) (ints L).length cap]] (((u.val.alloc (.cells #[.int .i64 m, .slice (some ⟨b0, o0, none⟩) (ints L).length cap] 24)).alloc (.cells #[.int .i64 k] 3)).alloc (.cells #[.int .i64 0, .slice none 0 0] 24)) (RetP (((u.val.alloc (.cells #[.int .i64 m, .slice (some ⟨b0, o0, none⟩) (ints L).length cap] 24)).alloc (.cells #[.int .i64 k] 3)).alloc (.cells #[.int .i64 0, .slice none 0 0] 24)).heap.size (((u.val.alloc (.cells #[.int .i64 m, .slice (some ⟨b0, o0, none⟩) (ints L).length cap] 24)).alloc (.cells #[.int .i64 k] 3)).alloc (.cells #[.int .i64 0, .slice none 0 0] 24)) (ListO (((u.val.alloc (.cells #[.int .i64 m, .slice (some ⟨b0, o0, none⟩) (ints L).length cap] 24)).alloc (.cells #[.int .i64 k] 3)).alloc (.cells #[.int .i64 0, .slice none 0 0] 24)).heap.size (ints (those m (indP (toN (ints L))))) 0))) := Lib.hid (c_axIndO (Later.self _) m hm (ints L) _ cap hIY hlen he)
  have c0 : ∀ w : Later (((u.val.alloc (.cells #[.int .i64 m, .slice (some ⟨b0, o0, none⟩) (ints L).length cap] 24)).alloc (.cells #[.int .i64 k] 3)).alloc (.cells #[.int .i64 0, .slice none 0 0] 24)).heap.size (((u.val.alloc (.cells #[.int .i64 m, .slice (some ⟨b0, o0, none⟩) (ints L).length cap] 24)).alloc (.cells #[.int .i64 k] 3)).alloc (.cells #[.int .i64 0, .slice none 0 0] 24)), w.val.cell? ⟨b0, o0, none⟩ = some (.int .i64 ((L.getD 0 0 : Nat) : Int)) := fun w => by
    obtain ⟨w', hw'⟩ := HVY.out w
    have := hc0 w' 0 (by rw [ints_len]; exact hl0)
    rw [ints_getD, Nat.add_zero, hw'] at this
    exact this
  have h80 : L.getD 0 0 < 256 := hL _ (by simp [hl0])
  have KS : Hid (∀ w : Later (((u.val.alloc (.cells #[.int .i64 m, .slice (some ⟨b0, o0, none⟩) (ints L).length cap] 24)).alloc (.cells #[.int .i64 k] 3)).alloc (.cells #[.int .i64 0, .slice none 0 0] 24)).heap.size (((u.val.alloc (.cells #[.int .i64 m, .slice (some ⟨b0, o0, none⟩) (ints L).length cap] 24)).alloc (.cells #[.int .i64 k] 3)).alloc (.cells #[.int .i64 0, .slice none 0 0] 24)), Calls Try.prog 168 #[.int .i64 ((L.getD 0 0 : Nat) : Int)] w.val (Ret w.val.heap.size w.val (.int .i64 (sz (L.getD 0 0))))) := Lib.hid (fun w => c_size_minors (Later.self w.val) _ h80)
  have HI8 : Hid (∀ s, s ∈ those m (indP L) → s < bit m) := Lib.hid (fun s hs => (mem_those.1 hs).1)
  have HIl : Hid ((those m (indP L)).length ≤ 256) := Lib.hid (by have := thoseTo_len (indP L) (bit m); have := bit_le m hm; have e : those m (indP L) = thoseTo (indP L) (bit m) := rfl; rw [e]; omega)
  have hbm := bit_le m hm
  rw [hTN] at KC
  have hl0' : 0 < (ints L).length := by rw [ints_len]; exact hl0
  clear h hI he XM q0 q1 p0 p1 T0 HV hM1 hZ1 XS0 XS hIY hc0 hb0 hL hne hlen
  go_enter Try.func51, Try.ntmps51
  go_upto_region 1 with fail
  generalize (((u.val.alloc (.cells #[.int .i64 m, .slice (some ⟨b0, o0, none⟩) (ints L).length cap] 24)).alloc (.cells #[.int .i64 k] 3)).alloc (.cells #[.int .i64 0, .slice none 0 0] 24)) = Y at *
  generalize u.val.heap.size = gu at *
  obtain ⟨I, hI⟩ : ∃ I, those m (indP L) = I := ⟨_, rfl⟩
  rw [hI] at KC HI8 HIl HA
  clear hI hTN
  generalize sz (L.getD 0 0) = r at *
  generalize L.getD 0 0 = b1 at *
  generalize (ints L).length = len at *
  have hBg : B ≤ gu + 2 := by omega
  go_upto_region 4 with (first | (go_at_call 22; ((with_reducible refine (KC.out).mono ?_); rintro e _ ⟨_, rfl, ⟨ad, cp, rfl, hO⟩, v1, rfl⟩)))
  have t0 : ∀ w : Later v1.val.heap.size v1.val, w.val.cell? ⟨gu, 0, none⟩ = some (.int .i64 m) := fun w => z0 (v1.up w)
  have t1 : ∀ w : Later v1.val.heap.size v1.val, w.val.cell? ⟨gu, 1, none⟩ = some (.slice (some ⟨b0, o0, none⟩) len cap) := fun w => z1 (v1.up w)
  have t2 : ∀ w : Later v1.val.heap.size v1.val, w.val.cell? ⟨gu + 1, 0, none⟩ = some (.int .i64 k) := fun w => z2 (v1.up w)
  have t3 : ∀ w : Later v1.val.heap.size v1.val, w.val.cell? ⟨b0, o0, none⟩ = some (.int .i64 (b1 : Int)) := fun w => c0 (v1.up w)
  have KS1 : Hid (∀ w : Later v1.val.heap.size v1.val, Calls Try.prog 168 #[.int .i64 (b1 : Int)] w.val (Ret v1.val.heap.size v1.val (.int .i64 (r : Int)))) := Lib.hid (fun w => (KS.out (v1.up w)).mono (by
    rintro e _ ⟨rfl, w2, rfl⟩
    exact Ret.mk (w.up w2) rfl))
  have KD : Hid (∀ w : Later v1.val.heap.size v1.val, Calls Try.prog 169 #[.slice ad (ints I).length cp, .func (.func 170) #[] #[.pointer (some ⟨gu + 1, 0, none⟩)]] w.val (fun e w' => e = .returned (.slice ad (ints (I.filter (fun s => decide ((sz s : Int) = k)))).length cp) ∧ ∃ v : Later Y.heap.size Y, w' = v.val ∧ Own Y.heap.size v.val ad cp (ints (I.filter (fun s => decide ((sz s : Int) = k)))))) := Lib.hid (fun w => by
    have := c_deleteFunc (v1.up w) (ints I) ad cp (hO.keep w.below) (by rw [ints_len]; have := HIl.out; omega) 170 #[.pointer (some ⟨gu + 1, 0, none⟩)] (fun y : Int => !decide ((sz y.toNat : Int) = k)) (fun args w => by kernel_rfl) (fun B' W' x v hxv i hi => by
      have hi' : i < I.length := by rwa [ints_len] at hi
      rw [ints_getD]
      have h8 : I.getD i 0 < 256 := by have := HI8.out (I.getD i 0) (by simp [hi']); omega
      have hc : v.val.cell? ⟨gu + 1, 0, none⟩ = some (.int .i64 k) := by rw [← hxv]; exact z2 x
      have hg : gu + 1 < v.val.heap.size := by have := x.size; rw [hxv] at this; omega
      refine (c_truncTell (Later.self v.val) (I.getD i 0) (gu + 1) k h8 hg hc).mono ?_
      rintro e _ ⟨rfl, w2, rfl⟩
      exact Ret.mk (v.up w2) rfl)
    rwa [filt_ints] at this)
  have HJ8 : Hid (∀ s, s ∈ I.filter (fun s => decide ((sz s : Int) = k)) → s < bit m) := Lib.hid (fun s hs => HI8.out s (List.mem_filter.1 hs).1)
  have HJl : Hid ((I.filter (fun s => decide ((sz s : Int) = k))).length ≤ 1048576) := Lib.hid (Nat.le_trans (List.length_filter_le _ _) (by have := HIl.out; omega))
  have HXD := Lib.hid hO
  clear hO
  obtain ⟨J, hJ⟩ : ∃ J, I.filter (fun s => decide ((sz s : Int) = k)) = J := ⟨_, rfl⟩
  rw [hJ] at KD HJ8 HJl HA
  clear hJ
  have KM : Hid (∀ v : Later Y.heap.size Y, Own Y.heap.size v.val ad cp (ints J) → Calls Try.prog 164 #[.int .i64 m, .slice ad (ints J).length cp] v.val (RetP Y.heap.size Y (MatO Y.heap.size (m : Nat) (ints (those m (memB J)))))) := Lib.hid (fun v ho => by
    refine (c_made v m (m : Int) J HJ8.out hm HJl.out ad cp ho).mono ?_
    rintro e _ ⟨_, rfl, ⟨ad3, cp3, rfl, hO3⟩, v3, rfl⟩
    exact RetP.mk v3 ⟨ad3, cp3, rfl, hO3.mono v.size⟩)
  have y0 := z0
  rw [HA.out] at KM
  clear z0 z1 z2 c0 HA HJ8 HJl
  have f0 : ∀ (w : Later Y.heap.size Y), w.val.cell? ⟨gu + 2, 0, none⟩ = some (.int .i64 0) := fun w => (HX.out.keep_at w.below hgr).cell rfl
  have z0 : ∀ (w : Later Y.heap.size Y), w.val.frozen? ⟨gu + 2, 0, none⟩ = false := fun w => (HX.out.keep_at w.below hgr).fz 0
  have f1 : ∀ (w : Later Y.heap.size Y) (x0 : Value), (w.val.setCell ⟨gu + 2, 0, none⟩ x0).cell? ⟨gu + 2, 1, none⟩ = some (.slice none 0 0) := fun w x0 => ((HX.out.keep_at w.below hgr).set 0 x0).cell rfl
  have z1 : ∀ (w : Later Y.heap.size Y) (x0 : Value), (w.val.setCell ⟨gu + 2, 0, none⟩ x0).frozen? ⟨gu + 2, 1, none⟩ = false := fun w x0 => ((HX.out.keep_at w.below hgr).set 0 x0).fz 1
  obtain ⟨w, hw⟩ : ∃ w : Later v1.val.heap.size v1.val, w.val = v1.val := ⟨Later.self _, rfl⟩
  rw [← hw]
  clear hw KC KS
  have hk2 : ¬ k < 0 := by omega
  have hk3 : ¬ (r : Int) < k := by omega
  refine wp_region_later w (by kernel_rfl) (by kernel_rfl) (fun _ => ?_)
  repeat (first | go_big_quiet_step (((go_at_call 168; exact KS1.out _))) | (refine wpQuiet_step (fun K hK => ?_); go_simp; refine ⟨_, fun _ => rfl, ?_⟩; refine hK _ ?_; clear hK K))
  refine wpQuiet_nil ?_
  intro w
  go_wp2_with (first | (go_at_call 169; (with_reducible refine (KD.out w).mono ?_); rintro e _ ⟨rfl, v2, rfl, hO2⟩) | (go_at_call 164; (with_reducible refine (KM.out v2 hO2).mono ?_); rintro e _ ⟨_, rfl, ⟨ad3, cp3, rfl, hO3⟩, v3, rfl⟩))
  refine bodyPost_ret (results_row (vs := [.int .i64 m, .slice ad3 (ints A).length cp3]) rfl _ _ (gu + 2) rfl (((HX.out.keep v3.below).set 0 _).set 1 _) Try.underlying24 (by kernel_rfl)) rfl ?_
  obtain ⟨y1, hy1⟩ := later_set (HVY.out v3) (g := gu + 2) (i := 0) hBg (.int .i64 m)
  obtain ⟨y2, hy2⟩ := later_set ⟨y1, hy1⟩ (g := gu + 2) (i := 1) hBg (.slice ad3 (ints A).length cp3)
  exact RetP.of ⟨y2, hy2⟩ ⟨_, _, rfl, ((hO3.set hgr _).set hgr _).mono (Nat.le_trans hBg (Nat.le_of_lt hgr))⟩

end Go.Proofs.Ytjpcelldbhdneaa
