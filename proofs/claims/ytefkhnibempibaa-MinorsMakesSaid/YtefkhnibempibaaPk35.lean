
/-
  minors.Delete, Contract.
  slices.IndexFunc told exactly; slices.DeleteFunc over a row of the call's own.
-/
import Derived.Test.YtefkhnibempibaaPk34
import Derived.Test.YtefkhnibempibaaPk16
import Derived.Deep.RegionHeld3
import Derived.Test.YtefkhnibempibaaPk29
import Derived.Test.YtefkhnibempibaaPk33
import Derived.Lib.SliceRun
namespace Go.Proofs.Ytefkhnibempibaa
open Go.RowKit
set_option linter.unusedVariables false

theorem growL_sub (key : Nat → Int) (L : List Nat) (k : Nat) (hk : k ≤ L.length) : ∀ b, b ∈ (growL key L k).1 → b ∈ L := by
  induction k with
  | zero => intro b hb; cases hb
  | succ k ih =>
    intro b hb
    have hm : L.getD k 0 ∈ L := by simp [show k < L.length by omega]
    rw [growL_step] at hb
    split at hb
    · rw [List.mem_singleton.1 hb]; exact hm
    · split at hb
      · rcases List.mem_append.1 hb with h | h
        · exact ih (by omega) b h
        · rw [List.mem_singleton.1 h]; exact hm
      · exact ih (by omega) b hb

set_option maxRecDepth 100000 in
set_option maxHeartbeats 4000000 in
theorem c_minDelete_no {B : Nat} {W : World} (u : Later B W) (n s : Int) (l : List Int) (a : Option Addr) (cap : Nat) (e : Int) (h : IntsAt B W a l) (h0 : e ≠ 0) (hR : ∀ (B : Nat) (W : World) (v : Later B W), IntsAt B W a l → Calls Try.prog 47 #[.agg #[.int .i64 n, .slice a l.length cap], .int .i64 s] v.val (Ret B W (.int .i64 e))) :
    Calls Try.prog 53 #[.agg #[.int .i64 n, .slice a l.length cap], .int .i64 s] u.val (RetP B W (MatTO B 0 [] e)) := by
  have hB := u.size
  have T0 : Hid (Two (u.val.alloc (.cells #[.int .i64 n, .slice a l.length cap] 24)) u.val.heap.size 24 (.int .i64 n) (.slice a l.length cap)) := Lib.hid (Two.new _ _ _ _)
  have hrr : u.val.heap.size < (u.val.alloc (.cells #[.int .i64 n, .slice a l.length cap] 24)).heap.size := by simp
  have hI : IntsAt (u.val.alloc (.cells #[.int .i64 n, .slice a l.length cap] 24)).heap.size (u.val.alloc (.cells #[.int .i64 n, .slice a l.length cap] 24)) a l := h.to (u.alloc _)
  have HV : Hid (∀ v : Later (u.val.alloc (.cells #[.int .i64 n, .slice a l.length cap] 24)).heap.size (u.val.alloc (.cells #[.int .i64 n, .slice a l.length cap] 24)), ∃ w : Later B W, w.val = v.val) := Lib.hid (fun v => ⟨(u.alloc _).up v, rfl⟩)
  have q0 : ∀ w : Later (u.val.alloc (.cells #[.int .i64 n, .slice a l.length cap] 24)).heap.size (u.val.alloc (.cells #[.int .i64 n, .slice a l.length cap] 24)), w.val.cell? ⟨u.val.heap.size, 0, none⟩ = some (.int .i64 n) := fun w => (T0.out.keep w.below).c0
  have q1 : ∀ w : Later (u.val.alloc (.cells #[.int .i64 n, .slice a l.length cap] 24)).heap.size (u.val.alloc (.cells #[.int .i64 n, .slice a l.length cap] 24)), w.val.cell? ⟨u.val.heap.size, 1, none⟩ = some (.slice a l.length cap) := fun w => (T0.out.keep w.below).c1
  have p0 : (u.val.alloc (.cells #[.int .i64 n, .slice a l.length cap] 24)).cell? ⟨u.val.heap.size, 0, none⟩ = some (.int .i64 n) := T0.out.c0
  have p1 : (u.val.alloc (.cells #[.int .i64 n, .slice a l.length cap] 24)).cell? ⟨u.val.heap.size, 1, none⟩ = some (.slice a l.length cap) := T0.out.c1
  have hM1 : (u.val.alloc (.cells #[.int .i64 n, .slice a l.length cap] 24)).heap.size = u.val.heap.size + 1 := by simp
  have XM : RowL ((u.val.alloc (.cells #[.int .i64 n, .slice a l.length cap] 24)).alloc (.cells #[.int .i64 0, .slice none 0 0] 24)) (u.val.alloc (.cells #[.int .i64 n, .slice a l.length cap] 24)).heap.size 24 [.int .i64 0, .slice none 0 0] := RowL.new _ _ _
  rw [hM1] at XM
  have HX := Lib.hid XM
  have hgr : u.val.heap.size + 1 < ((u.val.alloc (.cells #[.int .i64 n, .slice a l.length cap] 24)).alloc (.cells #[.int .i64 0, .slice none 0 0] 24)).heap.size := XM.lt
  have KC : Hid (Calls Try.prog 47 #[.agg #[.int .i64 n, .slice a l.length cap], .int .i64 s] ((u.val.alloc (.cells #[.int .i64 n, .slice a l.length cap] 24)).alloc (.cells #[.int .i64 0, .slice none 0 0] 24)) (Ret ((u.val.alloc (.cells #[.int .i64 n, .slice a l.length cap] 24)).alloc (.cells #[.int .i64 0, .slice none 0 0] 24)).heap.size ((u.val.alloc (.cells #[.int .i64 n, .slice a l.length cap] 24)).alloc (.cells #[.int .i64 0, .slice none 0 0] 24)) (.int .i64 e))) := Lib.hid (hR _ _ (Later.self _) (hI.to ((Later.self (u.val.alloc (.cells #[.int .i64 n, .slice a l.length cap] 24))).alloc _)))
  have d0 : (e != 0) = true := by rw [bne_iff_ne]; exact h0
  have z0 : ((u.val.alloc (.cells #[.int .i64 n, .slice a l.length cap] 24)).alloc (.cells #[.int .i64 0, .slice none 0 0] 24)).cell? ⟨u.val.heap.size, 0, none⟩ = some (.int .i64 n) := q0 ((Later.self (u.val.alloc (.cells #[.int .i64 n, .slice a l.length cap] 24))).alloc _)
  have z1 : ((u.val.alloc (.cells #[.int .i64 n, .slice a l.length cap] 24)).alloc (.cells #[.int .i64 0, .slice none 0 0] 24)).cell? ⟨u.val.heap.size, 1, none⟩ = some (.slice a l.length cap) := q1 ((Later.self (u.val.alloc (.cells #[.int .i64 n, .slice a l.length cap] 24))).alloc _)
  have HVY : Hid (∀ v : Later ((u.val.alloc (.cells #[.int .i64 n, .slice a l.length cap] 24)).alloc (.cells #[.int .i64 0, .slice none 0 0] 24)).heap.size ((u.val.alloc (.cells #[.int .i64 n, .slice a l.length cap] 24)).alloc (.cells #[.int .i64 0, .slice none 0 0] 24)), ∃ w : Later B W, w.val = v.val) := Lib.hid (fun v => ⟨((u.alloc _).alloc _).up v, rfl⟩)
  clear h hI h0 hR XM q0 q1 p0 p1 T0 HV hM1
  go_enter Try.func53, Try.ntmps53
  go_upto_region 1 with fail
  generalize ((u.val.alloc (.cells #[.int .i64 n, .slice a l.length cap] 24)).alloc (.cells #[.int .i64 0, .slice none 0 0] 24)) = Y at *
  generalize u.val.heap.size = gu at *
  have hBg : B ≤ gu + 1 := by omega
  have f0 : ∀ (w : Later Y.heap.size Y), w.val.cell? ⟨gu + 1, 0, none⟩ = some (.int .i64 0) := fun w => (HX.out.keep_at w.below hgr).cell rfl
  have z0 : ∀ (w : Later Y.heap.size Y), w.val.frozen? ⟨gu + 1, 0, none⟩ = false := fun w => (HX.out.keep_at w.below hgr).fz 0
  have f1 : ∀ (w : Later Y.heap.size Y) (x0 : Value), (w.val.setCell ⟨gu + 1, 0, none⟩ x0).cell? ⟨gu + 1, 1, none⟩ = some (.slice none 0 0) := fun w x0 => ((HX.out.keep_at w.below hgr).set 0 x0).cell rfl
  have z1 : ∀ (w : Later Y.heap.size Y) (x0 : Value), (w.val.setCell ⟨gu + 1, 0, none⟩ x0).frozen? ⟨gu + 1, 1, none⟩ = false := fun w x0 => ((HX.out.keep_at w.below hgr).set 0 x0).fz 1
  go_wp2_with (first | (go_at_call 47; (with_reducible refine (KC.out).mono ?_); rintro e _ ⟨rfl, v1, rfl⟩))
  refine bodyPost_ret (results_row (vs := [.int .i64 0, .slice none 0 0]) rfl _ _ (gu + 1) rfl (((HX.out.keep v1.below).set 0 _).set 1 _) Try.underlying24 (by kernel_rfl)) rfl ?_
  obtain ⟨y1, hy1⟩ := later_set (HVY.out v1) (g := gu + 1) (i := 0) hBg (.int .i64 0)
  obtain ⟨y2, hy2⟩ := later_set ⟨y1, hy1⟩ (g := gu + 1) (i := 1) hBg (.slice none 0 0)
  exact RetP.of ⟨y2, hy2⟩ MatTO.no

set_option maxRecDepth 100000 in
set_option maxHeartbeats 8000000 in
theorem c_minDelete {B : Nat} {W : World} (u : Later B W) (m : Nat) (hm : m ≤ 8) (s : Nat) (hs : s < bit m) (L : List Nat) (hL : ∀ b, b ∈ L → b < 256) (hL2 : L.length ≤ 1048576) (a : Option Addr) (cap : Nat) (h : IntsAt B W a (ints L)) (he : MatIs (m : Int) (ints L) 0) :
    Calls Try.prog 53 #[.agg #[.int .i64 m, .slice a (ints L).length cap], .int .i64 s] u.val (RetP B W (MatTO B (cnt s m : Nat) (ints (those (cnt s m) (memB (delL m L s)))) 0)) := by
  have hB := u.size
  have hb := bit_le m hm
  have hlen : (ints L).length ≤ 4611686018427387904 := by rw [ints_len]; omega
  have T0 : Hid (Two (u.val.alloc (.cells #[.int .i64 m, .slice a (ints L).length cap] 24)) u.val.heap.size 24 (.int .i64 m) (.slice a (ints L).length cap)) := Lib.hid (Two.new _ _ _ _)
  have hrr : u.val.heap.size < (u.val.alloc (.cells #[.int .i64 m, .slice a (ints L).length cap] 24)).heap.size := by simp
  have hI : IntsAt (u.val.alloc (.cells #[.int .i64 m, .slice a (ints L).length cap] 24)).heap.size (u.val.alloc (.cells #[.int .i64 m, .slice a (ints L).length cap] 24)) a (ints L) := h.to (u.alloc _)
  have HV : Hid (∀ v : Later (u.val.alloc (.cells #[.int .i64 m, .slice a (ints L).length cap] 24)).heap.size (u.val.alloc (.cells #[.int .i64 m, .slice a (ints L).length cap] 24)), ∃ w : Later B W, w.val = v.val) := Lib.hid (fun v => ⟨(u.alloc _).up v, rfl⟩)
  have q0 : ∀ w : Later (u.val.alloc (.cells #[.int .i64 m, .slice a (ints L).length cap] 24)).heap.size (u.val.alloc (.cells #[.int .i64 m, .slice a (ints L).length cap] 24)), w.val.cell? ⟨u.val.heap.size, 0, none⟩ = some (.int .i64 m) := fun w => (T0.out.keep w.below).c0
  have q1 : ∀ w : Later (u.val.alloc (.cells #[.int .i64 m, .slice a (ints L).length cap] 24)).heap.size (u.val.alloc (.cells #[.int .i64 m, .slice a (ints L).length cap] 24)), w.val.cell? ⟨u.val.heap.size, 1, none⟩ = some (.slice a (ints L).length cap) := fun w => (T0.out.keep w.below).c1
  have p0 : (u.val.alloc (.cells #[.int .i64 m, .slice a (ints L).length cap] 24)).cell? ⟨u.val.heap.size, 0, none⟩ = some (.int .i64 m) := T0.out.c0
  have p1 : (u.val.alloc (.cells #[.int .i64 m, .slice a (ints L).length cap] 24)).cell? ⟨u.val.heap.size, 1, none⟩ = some (.slice a (ints L).length cap) := T0.out.c1
  have hM1 : (u.val.alloc (.cells #[.int .i64 m, .slice a (ints L).length cap] 24)).heap.size = u.val.heap.size + 1 := by simp
  have XM : RowL ((u.val.alloc (.cells #[.int .i64 m, .slice a (ints L).length cap] 24)).alloc (.cells #[.int .i64 0, .slice none 0 0] 24)) (u.val.alloc (.cells #[.int .i64 m, .slice a (ints L).length cap] 24)).heap.size 24 [.int .i64 0, .slice none 0 0] := RowL.new _ _ _
  rw [hM1] at XM
  have HX := Lib.hid XM
  have hgr : u.val.heap.size + 1 < ((u.val.alloc (.cells #[.int .i64 m, .slice a (ints L).length cap] 24)).alloc (.cells #[.int .i64 0, .slice none 0 0] 24)).heap.size := XM.lt
  have hIY : IntsAt ((u.val.alloc (.cells #[.int .i64 m, .slice a (ints L).length cap] 24)).alloc (.cells #[.int .i64 0, .slice none 0 0] 24)).heap.size ((u.val.alloc (.cells #[.int .i64 m, .slice a (ints L).length cap] 24)).alloc (.cells #[.int .i64 0, .slice none 0 0] 24)) a (ints L) := hI.to ((Later.self (u.val.alloc (.cells #[.int .i64 m, .slice a (ints L).length cap] 24))).alloc _)
  have hset : isSet (m : Int) (s : Int) := ⟨by omega, by omega, by omega, by rw [all_nat]; omega⟩
  have KC : Hid (Calls Try.prog 47 #[.agg #[.int .i64 m, .slice a (ints L).length cap], .int .i64 s] ((u.val.alloc (.cells #[.int .i64 m, .slice a (ints L).length cap] 24)).alloc (.cells #[.int .i64 0, .slice none 0 0] 24)) (Ret ((u.val.alloc (.cells #[.int .i64 m, .slice a (ints L).length cap] 24)).alloc (.cells #[.int .i64 0, .slice none 0 0] 24)).heap.size ((u.val.alloc (.cells #[.int .i64 m, .slice a (ints L).length cap] 24)).alloc (.cells #[.int .i64 0, .slice none 0 0] 24)) (.int .i64 0))) := Lib.hid (by
    have := c_right (Later.self ((u.val.alloc (.cells #[.int .i64 m, .slice a (ints L).length cap] 24)).alloc (.cells #[.int .i64 0, .slice none 0 0] 24))) m s (ints L) a cap hIY hlen he
    rwa [decide_eq_true hset, show errno true 1 = 0 from rfl] at this)
  have KK : Hid (∀ y : Later ((u.val.alloc (.cells #[.int .i64 m, .slice a (ints L).length cap] 24)).alloc (.cells #[.int .i64 0, .slice none 0 0] 24)).heap.size ((u.val.alloc (.cells #[.int .i64 m, .slice a (ints L).length cap] 24)).alloc (.cells #[.int .i64 0, .slice none 0 0] 24)), Calls Try.prog 74 #[.agg #[.int .i64 m, .slice a (ints L).length cap], .int .i64 s, .bool false] y.val (RetOwn y.val.heap.size y.val (ints (growL (delKey m s) L L.length).1))) := Lib.hid (fun y => c_kept (Later.self y.val) m hm s hs L hL hL2 a cap (hIY.to y) false (delKey m s) (fun b => by simp))
  have z0 : ∀ w : Later ((u.val.alloc (.cells #[.int .i64 m, .slice a (ints L).length cap] 24)).alloc (.cells #[.int .i64 0, .slice none 0 0] 24)).heap.size ((u.val.alloc (.cells #[.int .i64 m, .slice a (ints L).length cap] 24)).alloc (.cells #[.int .i64 0, .slice none 0 0] 24)), w.val.cell? ⟨u.val.heap.size, 0, none⟩ = some (.int .i64 m) := fun w => q0 (((Later.self (u.val.alloc (.cells #[.int .i64 m, .slice a (ints L).length cap] 24))).alloc _).up w)
  have z1 : ∀ w : Later ((u.val.alloc (.cells #[.int .i64 m, .slice a (ints L).length cap] 24)).alloc (.cells #[.int .i64 0, .slice none 0 0] 24)).heap.size ((u.val.alloc (.cells #[.int .i64 m, .slice a (ints L).length cap] 24)).alloc (.cells #[.int .i64 0, .slice none 0 0] 24)), w.val.cell? ⟨u.val.heap.size, 1, none⟩ = some (.slice a (ints L).length cap) := fun w => q1 (((Later.self (u.val.alloc (.cells #[.int .i64 m, .slice a (ints L).length cap] 24))).alloc _).up w)
  have x0 : ((u.val.alloc (.cells #[.int .i64 m, .slice a (ints L).length cap] 24)).alloc (.cells #[.int .i64 0, .slice none 0 0] 24)).cell? ⟨u.val.heap.size, 0, none⟩ = some (.int .i64 m) := z0 (Later.self _)
  have x1 : ((u.val.alloc (.cells #[.int .i64 m, .slice a (ints L).length cap] 24)).alloc (.cells #[.int .i64 0, .slice none 0 0] 24)).cell? ⟨u.val.heap.size, 1, none⟩ = some (.slice a (ints L).length cap) := z1 (Later.self _)
  have HVY : Hid (∀ v : Later ((u.val.alloc (.cells #[.int .i64 m, .slice a (ints L).length cap] 24)).alloc (.cells #[.int .i64 0, .slice none 0 0] 24)).heap.size ((u.val.alloc (.cells #[.int .i64 m, .slice a (ints L).length cap] 24)).alloc (.cells #[.int .i64 0, .slice none 0 0] 24)), ∃ w : Later B W, w.val = v.val) := Lib.hid (fun v => ⟨((u.alloc _).alloc _).up v, rfl⟩)
  have HKL : Hid ((growL (delKey m s) L L.length).1.length ≤ 1048576) := Lib.hid (Nat.le_trans (growL_len _ _ _) hL2)
  have H8 : Hid (∀ k, k < (growL (delKey m s) L L.length).1.length → (growL (delKey m s) L L.length).1.getD k 0 < 256) := Lib.hid (fun k hk => hL _ (growL_sub (delKey m s) L L.length (Nat.le_refl _) _ (by simp [hk])))
  have HN : Hid (∀ t, t ∈ (growL (delKey m s) L L.length).1.map (fun b => prTo s b m) → t < bit (cnt s m)) := Lib.hid (fun t ht => by
    obtain ⟨b, _, rfl⟩ := List.mem_map.1 ht
    exact prTo_lt s b m)
  have HD : Hid (delL m L s = (growL (delKey m s) L L.length).1.map (fun b => prTo s b m)) := Lib.hid rfl
  clear h hI he XM q0 q1 p0 p1 T0 HV hM1 hIY hL hlen hset
  go_enter Try.func53, Try.ntmps53
  go_upto_region 1 with fail
  generalize ((u.val.alloc (.cells #[.int .i64 m, .slice a (ints L).length cap] 24)).alloc (.cells #[.int .i64 0, .slice none 0 0] 24)) = Y at *
  generalize u.val.heap.size = gu at *
  have hBg : B ≤ gu + 1 := by omega
  go_upto_region 5 with (first | (go_at_call 47; ((with_reducible refine (KC.out).mono ?_); rintro e _ ⟨rfl, y, rfl⟩)))
  have KK1 := Lib.hid (KK.out y)
  clear x0 x1 KC KK
  generalize (growL (delKey m s) L L.length).1 = K at *
  generalize delL m L s = D at *
  go_wp2_with (first | (go_at_call 74; ((with_reducible refine (KK1.out).mono ?_); rintro e _ ⟨_, rfl, ⟨ad0, cp0, rfl, hOK⟩, v2, rfl⟩)))
  have hRK := hOK.reads
  have HI := Lib.hid hRK
  have HX2 : Hid (RowL v2.val (gu + 1) 24 [.int .i64 0, .slice none 0 0]) := Lib.hid ((HX.out.keep y.below).keep v2.below)
  have hgr2 : gu + 1 < v2.val.heap.size := HX2.out.lt
  have r0 : ∀ w : Later v2.val.heap.size v2.val, w.val.cell? ⟨gu, 0, none⟩ = some (.int .i64 m) := fun w => z0 (y.up (v2.up w))
  have HV2 : Hid (∀ v : Later v2.val.heap.size v2.val, ∃ w : Later B W, w.val = v.val) := Lib.hid (fun v => HVY.out (y.up (v2.up v)))
  clear z0 z1 HX hRK hOK KK1 HVY
  generalize v2.val = V at *
  go_loopw [7, 21] (fun t i wr => ∃ (k : Nat) (ad : Option Addr) (cp : Nat) (u : Later V.heap.size V), k ≤ (ints K).length ∧ t = .slice ad (ints ((K.take k).map (fun b => prTo s b m))).length cp ∧ i = .int .i64 k ∧ wr = u.val ∧ Hid (Own V.heap.size u.val ad cp (ints ((K.take k).map (fun b => prTo s b m))))) (fun _ i _ => (ints K).length - (intOf i).toNat)
  case atStart => exact ⟨0, none, 0, Later.self V, by omega, rfl, rfl, rfl, Own.nil _ _⟩
  case round =>
    obtain ⟨k, ad, cp, u, hk, rfl, rfl, rfl, HO⟩ := hrel
    by_cases hlt : k < (ints K).length
    · have hltK : Hid (k < K.length) := Lib.hid (by rwa [ints_len] at hlt)
      obtain ⟨b, off, rfl, hbB, hcell⟩ := (HI.out.to u).at (k := k) hlt
      have c0 : ∀ v : Later u.val.heap.size u.val, v.val.cell? ⟨b, off + k, none⟩ = some (.int .i64 ((K.getD k 0 : Nat) : Int)) := fun v => by rw [← ints_getD]; exact hcell v k hlt
      have h8 := H8.out k hltK.out
      have t0 : ∀ v : Later u.val.heap.size u.val, v.val.cell? ⟨gu, 0, none⟩ = some (.int .i64 m) := fun v => r0 (u.up v)
      have KP := Lib.hid (fun v : Later u.val.heap.size u.val => c_pressed v m (K.getD k 0) s hm h8 (by omega))
      have HS := Lib.hid (take_map_step (fun b => prTo s b m) K hltK.out)
      have hkb : (ints K).length ≤ 1048576 := by rw [ints_len]; exact HKL.out
      have HLn : Hid ((ints ((K.take k).map (fun b => prTo s b m))).length ≤ 1048576) := Lib.hid (by
        rw [ints_len, List.length_map]
        have := List.length_take_le k K
        have := HKL.out
        omega)
      clear hcell
      obtain ⟨v0, hv0⟩ : ∃ v0 : Later u.val.heap.size u.val, v0.val = u.val := ⟨Later.self _, rfl⟩
      rw [← hv0]
      clear hv0
      generalize (K.take k).map (fun b => prTo s b m) = T at *
      generalize prTo s (K.getD k 0) m = z at *
      generalize K.getD k 0 = x at *
      go_wp2_with (first | (go_at_call 75; refine (KP.out _).mono ?_; rintro e _ ⟨rfl, v1, rfl⟩) | (at_builtin; refine wpList_push (B := V.heap.size) (W := V) (w := v1.val) (u.up v1).below (u.up v1).size rfl _ _ rfl (ints T) ad cp (z : Int) rfl (HO.out.keep v1.below) rfl (by have := HLn.out; omega) ?_; intro u2 ad2 cp2 hown))
      go_roundw
      case rel => exact ⟨k+1, ad2, cp2, u2, by omega, by rw [HS.out, ints_snoc]; simp, by go_num, rfl, by rw [HS.out, ints_snoc]; exact hown⟩
      case measure => simp [intOf]; omega
    · have hke : Hid (k = K.length) := Lib.hid (by rw [ints_len] at hlt hk; omega)
      have hTk : Hid ((K.take k).map (fun b => prTo s b m) = K.map (fun b => prTo s b m)) := Lib.hid (by rw [hke.out, List.take_length])
      rw [hTk.out] at HO ⊢
      have hcs := cnt_sz hm hs
      have KM : Hid (∀ w : Later u.val.heap.size u.val, Calls Try.prog 45 #[.int .i64 (cnt s m : Nat), .slice ad (ints (K.map (fun b => prTo s b m))).length cp] w.val (RetP V.heap.size V (MatO V.heap.size (cnt s m : Nat) (ints (those (cnt s m) (memB D)))))) := Lib.hid (fun w => by
        rw [HD.out]
        refine (c_made (u.up w) (cnt s m) (cnt s m : Nat) (K.map (fun b => prTo s b m)) HN.out (by omega) (by rw [List.length_map]; exact HKL.out) ad cp (HO.out.keep w.below)).mono ?_
        rintro e _ ⟨_, rfl, ⟨ad3, cp3, rfl, hO3⟩, v3, rfl⟩
        exact RetP.mk v3 ⟨ad3, cp3, rfl, hO3.mono (Nat.le_trans u.size w.size)⟩)
      have KS : Hid (∀ w : Later u.val.heap.size u.val, Calls Try.prog 76 #[.int .i64 s] w.val (Ret u.val.heap.size u.val (.int .i64 (sz s)))) := Lib.hid (fun w => c_size_minors w s (by omega))
      have hsub : ((m : Nat) : Int) - ((sz s : Nat) : Int) = ((cnt s m : Nat) : Int) := by omega
      have wsub := IntWalk.i64_in ((cnt s m : Nat) : Int) (by omega)
      obtain ⟨A, hA⟩ : ∃ A, those (cnt s m) (memB D) = A := ⟨_, rfl⟩
      rw [hA] at KM
      have HA := Lib.hid hA
      clear hA HD HN hTk hke
      have y0 : ∀ w : Later V.heap.size V, w.val.cell? ⟨gu, 0, none⟩ = some (.int .i64 m) := r0
      have s0 : u.val.drew.cell? ⟨gu, 0, none⟩ = some (.int .i64 m) := y0 u.drew
      have se : ∀ (w : Later V.heap.size V) (p q : Value), ((w.val.setCell ⟨gu + 1, 0, none⟩ p).setCell ⟨gu + 1, 1, none⟩ q).cell? ⟨gu, 0, none⟩ = some (.int .i64 m) := fun w p q => by
        rw [World.cell?_setCell_far _ _ _ _ (show gu + 1 ≠ gu by omega), World.cell?_setCell_far _ _ _ _ (show gu + 1 ≠ gu by omega)]; exact y0 w
      have f0 : ∀ (w : Later V.heap.size V), w.val.cell? ⟨gu + 1, 0, none⟩ = some (.int .i64 0) := fun w => (HX2.out.keep_at w.below hgr2).cell rfl
      have z0 : ∀ (w : Later V.heap.size V), w.val.frozen? ⟨gu + 1, 0, none⟩ = false := fun w => (HX2.out.keep_at w.below hgr2).fz 0
      have f1 : ∀ (w : Later V.heap.size V) (x0 : Value), (w.val.setCell ⟨gu + 1, 0, none⟩ x0).cell? ⟨gu + 1, 1, none⟩ = some (.slice none 0 0) := fun w x0 => ((HX2.out.keep_at w.below hgr2).set 0 x0).cell rfl
      have z1 : ∀ (w : Later V.heap.size V) (x0 : Value), (w.val.setCell ⟨gu + 1, 0, none⟩ x0).frozen? ⟨gu + 1, 1, none⟩ = false := fun w x0 => ((HX2.out.keep_at w.below hgr2).set 0 x0).fz 1
      have KSd : Hid (Calls Try.prog 76 #[.int .i64 s] u.val.drew (Ret u.val.heap.size u.val (.int .i64 (sz s)))) := Lib.hid (KS.out (Later.self u.val).drew)
      obtain ⟨fn, hfn⟩ : ∃ fn, cnt s m = fn := ⟨_, rfl⟩
      rw [hfn] at KM hsub wsub
      have HFN := Lib.hid hfn
      clear hfn hcs
      generalize (ints (K.map (fun b => prTo s b m))).length = len at *
      generalize sz s = zz at *
      go_wp2_with fail
      go_region_held3 (fun w' => w'.cell? ⟨gu, 0, none⟩ = some (.int .i64 m)) (first | exact s0 | exact y0 (u.up v3) | exact y0 v4 | exact se v4 _ _) (first | (go_at_call 76; (with_reducible refine (KSd.out).mono ?_); rintro e _ ⟨rfl, v3, rfl⟩) | (go_at_call 45; (with_reducible refine (KM.out v3).mono ?_); rintro e _ ⟨_, rfl, ⟨ad3, cp3, rfl, hO3⟩, v4, rfl⟩))
      all_goals
        go_wp2
        refine bodyPost_ret (results_row (vs := [.int .i64 fn, .slice ad3 (ints A).length cp3]) rfl _ _ (gu + 1) rfl (((HX2.out.keep v4.below).set 0 _).set 1 _) Try.underlying24 (by kernel_rfl)) rfl ?_
        obtain ⟨y1, hy1⟩ := later_set (HV2.out v4) (g := gu + 1) (i := 0) hBg (.int .i64 fn)
        obtain ⟨y2, hy2⟩ := later_set ⟨y1, hy1⟩ (g := gu + 1) (i := 1) hBg (.slice ad3 (ints A).length cp3)
        have hA := HA.out
        have hfn := HFN.out
        subst hA hfn
        exact RetP.of ⟨y2, hy2⟩ ⟨_, _, rfl, ((hO3.set hgr2 _).set hgr2 _).mono (Nat.le_trans hBg (Nat.le_of_lt hgr2))⟩

end Go.Proofs.Ytefkhnibempibaa

namespace Go.Proofs.Ytefkhnibempibaa
open Go.RowKit
set_option linter.unusedVariables false

/-- where the first element of a kind stands, or -1 -/
def FirstAt (l : List Int) (p : Int → Bool) (r : Int) : Prop := (r = -1 ∧ ∀ i, i < l.length → p (l.getD i 0) = false) ∨ ∃ k : Nat, k < l.length ∧ r = (k : Int) ∧ p (l.getD k 0) = true ∧ ∀ i, i < k → p (l.getD i 0) = false

/-- the row while its elements are struck: j looked at, i kept -/
def DelAt (xs : List Int) (q : Int → Bool) (zs : List Int) (i j : Nat) : Prop := zs.length = xs.length ∧ i < j ∧ j ≤ xs.length ∧ zs.take i = (xs.take j).filter q ∧ ∀ t, j ≤ t → zs.getD t 0 = xs.getD t 0
theorem take_snoc (xs : List Int) {j : Nat} (hj : j < xs.length) : xs.take (j + 1) = xs.take j ++ [xs.getD j 0] := by
  rw [List.take_add_one, List.getElem?_eq_getElem hj]
  have : xs.getD j 0 = xs[j] := by simp [hj]
  rw [this]; rfl
theorem filt_no {q : Int → Bool} {x : Int} (h : q x = false) : [x].filter q = [] := by simp [h]
theorem filt_yes {q : Int → Bool} {x : Int} (h : q x = true) : [x].filter q = [x] := by simp [h]
theorem take_set_self (zs : List Int) (i : Nat) (x : Int) : (zs.set i x).take i = zs.take i := by
  rw [List.take_set, List.set_eq_of_length_le (by simp; omega)]
theorem DelAt.start {xs : List Int} {q : Int → Bool} {k : Nat} (hk : k < xs.length) (h1 : q (xs.getD k 0) = false) (h2 : ∀ i, i < k → q (xs.getD i 0) = true) : DelAt xs q xs k (k + 1) := by
  refine ⟨rfl, by omega, by omega, ?_, fun t _ => rfl⟩
  rw [take_snoc xs hk, List.filter_append]
  have e1 : (xs.take k).filter q = xs.take k := by
    rw [List.filter_eq_self]
    intro x hx
    obtain ⟨i, hi, e⟩ := List.getElem_of_mem hx
    have hi' : i < k := by simp at hi; omega
    have := h2 i hi'
    rw [← e, List.getElem_take]
    simpa [show i < xs.length by omega] using this
  rw [e1, filt_no h1, List.append_nil]
theorem DelAt.skip {xs zs : List Int} {q : Int → Bool} {i j : Nat} (h : DelAt xs q zs i j) (hj : j < xs.length) (hq : q (xs.getD j 0) = false) : DelAt xs q zs i (j + 1) := by
  obtain ⟨h1, h2, h3, h4, h5⟩ := h
  refine ⟨h1, by omega, by omega, ?_, fun t ht => h5 t (by omega)⟩
  rw [h4, take_snoc xs hj, List.filter_append, filt_no hq, List.append_nil]
theorem DelAt.keep {xs zs : List Int} {q : Int → Bool} {i j : Nat} (h : DelAt xs q zs i j) (hj : j < xs.length) (hq : q (xs.getD j 0) = true) : DelAt xs q (zs.set i (xs.getD j 0)) (i + 1) (j + 1) := by
  obtain ⟨h1, h2, h3, h4, h5⟩ := h
  refine ⟨by simp [h1], by omega, by omega, ?_, fun t ht => ?_⟩
  · rw [take_snoc _ (by simp; omega), take_snoc xs hj, List.filter_append]
    have e1 := take_set_self zs i (xs.getD j 0)
    have e2 : (zs.set i (xs.getD j 0)).getD i 0 = xs.getD j 0 := by
      have : i < zs.length := by omega
      simp [this]
    rw [e1, e2, h4, filt_yes hq]
  · have := h5 t (by omega)
    rw [← this]
    have hne : i ≠ t := by omega
    simp [List.getD, List.getElem?_set_ne hne]
theorem DelAt.done {xs zs : List Int} {q : Int → Bool} {i : Nat} (h : DelAt xs q zs i xs.length) : zs.take i = xs.filter q := by
  have := h.2.2.2.1
  rwa [List.take_length] at this

/-- a run of cells of a row of the call's own struck to zero -/
theorem Own.strike {B : Nat} {W : World} {g cap : Nat} : ∀ (c i : Nat) (v : Later B W) (zs : List Int), Own B v.val (some ⟨g, 0, none⟩) cap zs → i + c ≤ zs.length → ∃ (v' : Later B W) (ys : List Int), v'.val = v.val.setCells g i (List.replicate c (.int .i64 0)) ∧ Own B v'.val (some ⟨g, 0, none⟩) cap ys ∧ ys.length = zs.length ∧ ys.take i = zs.take i
  | 0, i, v, zs, h, _ => ⟨v, zs, rfl, h, rfl, rfl⟩
  | c + 1, i, v, zs, h, hc => by
    have h1 := h.put (i := i) (by omega) 0
    obtain ⟨v', ys, e1, e2, e3, e4⟩ := Own.strike c (i + 1) (v.set ⟨g, i, none⟩ h.base (.int .i64 0)) (zs.set i 0) h1 (by simp; omega)
    refine ⟨v', ys, e1, e2, by simpa using e3, ?_⟩
    have := congrArg (List.take i) e4
    rw [List.take_take, List.take_take, Nat.min_eq_left (Nat.le_succ i)] at this
    rw [this]
    exact take_set_self zs i 0

end Go.Proofs.Ytefkhnibempibaa
