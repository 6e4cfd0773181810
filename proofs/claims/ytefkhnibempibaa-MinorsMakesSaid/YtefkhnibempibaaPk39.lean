
/-
  minors.Free.
  minors.Relax.
-/
import Derived.Test.YtefkhnibempibaaPk38
import Derived.Test.YtefkhnibempibaaPk35
import Derived.Test.YtefkhnibempibaaPk28
import Derived.Test.YtefkhnibempibaaPk30
import Derived.Deep.RegionHeld3
namespace Go.Proofs.Ytefkhnibempibaa
open Go.RowKit
set_option linter.unusedVariables false

theorem elems_low : ∀ a : Fin 256, a.val ≠ 0 → ∃ d : Fin 8, elems a.val = d.val :: elems (drop1 a.val) ∧ low a.val = bit d.val ∧ drop1 a.val < a.val := by decide +kernel
theorem elems_open {a : Nat} (h8 : a < 256) (h : a ≠ 0) : ∃ d, d < 8 ∧ elems a = d :: elems (drop1 a) ∧ low a = bit d ∧ drop1 a < a := by
  obtain ⟨d, h1⟩ := elems_low ⟨a, h8⟩ h
  exact ⟨d.val, d.isLt, h1⟩
theorem flat_step {α β : Type} (f : α → List β) (L : List α) {k : Nat} (z : α) (hk : k < L.length) : (L.take (k + 1)).flatMap f = (L.take k).flatMap f ++ f (L.getD k z) := by
  rw [List.take_add_one, List.getElem?_eq_getElem hk, List.flatMap_append]
  have : L.getD k z = L[k] := by simp [hk]
  rw [this]
  simp
theorem flat_len {α β : Type} (f : α → List β) (q : Nat) (L : List α) (h : ∀ x, (f x).length ≤ q) : (L.flatMap f).length ≤ L.length * q := by
  induction L with
  | nil => simp
  | cons x xs ih =>
    have := h x
    rw [List.flatMap_cons, List.length_append, List.length_cons, Nat.add_mul, Nat.one_mul]
    omega
theorem freeL_lt {m : Nat} {L : List Nat} (hm : m < 8) (h1 : ∀ x, x ∈ L → x < bit m) : ∀ s, s ∈ freeL m L → s < bit (m + 1) := fun s hs => by
  have hb : bit (m + 1) = bit m + bit m := by unfold bit; omega
  unfold freeL at hs
  rw [List.mem_append] at hs
  rcases hs with h | h
  · have := h1 s h
    omega
  · obtain ⟨x, hx, h⟩ := List.mem_flatMap.1 h
    obtain ⟨y, hy, rfl⟩ := List.mem_map.1 h
    have := h1 x hx
    have hn : nand x (bit y) < bit m := Nat.lt_of_le_of_lt (nand_le _ _) this
    have := or_lt_add (m := m) (k := 1) hn (y := 1) (by decide)
    rw [Nat.one_mul] at this
    exact this

set_option maxRecDepth 100000 in
set_option maxHeartbeats 8000000 in
theorem c_minFree_no {B : Nat} {W : World} (u : Later B W) (n : Int) (l : List Int) (a : Option Addr) (cap : Nat) (e er : Int) (h : IntsAt B W a l) (hlen : l.length ≤ 4611686018427387904) (he : MatIs n l e) (hc : (e ≠ 0 ∧ er = e) ∨ (e = 0 ∧ n = 8 ∧ er = 2)) :
    Calls Try.prog 18 #[.agg #[.int .i64 n, .slice a l.length cap]] u.val (RetP B W (MatTO B 0 [] er)) := by
  have hB := u.size
  have T0 : Hid (Two (u.val.alloc (.cells #[.int .i64 n, .slice a l.length cap] 24)) u.val.heap.size 24 (.int .i64 n) (.slice a l.length cap)) := Lib.hid (Two.new _ _ _ _)
  have hrr : u.val.heap.size < (u.val.alloc (.cells #[.int .i64 n, .slice a l.length cap] 24)).heap.size := by simp
  have hI : IntsAt (u.val.alloc (.cells #[.int .i64 n, .slice a l.length cap] 24)).heap.size (u.val.alloc (.cells #[.int .i64 n, .slice a l.length cap] 24)) a l := h.to (u.alloc _)
  have HV : Hid (∀ v : Later (u.val.alloc (.cells #[.int .i64 n, .slice a l.length cap] 24)).heap.size (u.val.alloc (.cells #[.int .i64 n, .slice a l.length cap] 24)), ∃ w : Later B W, w.val = v.val) := Lib.hid (fun v => ⟨(u.alloc _).up v, rfl⟩)
  have q0 : ∀ w : Later (u.val.alloc (.cells #[.int .i64 n, .slice a l.length cap] 24)).heap.size (u.val.alloc (.cells #[.int .i64 n, .slice a l.length cap] 24)), w.val.cell? ⟨u.val.heap.size, 0, none⟩ = some (.int .i64 n) := fun w => (T0.out.keep w.below).c0
  have q1 : ∀ w : Later (u.val.alloc (.cells #[.int .i64 n, .slice a l.length cap] 24)).heap.size (u.val.alloc (.cells #[.int .i64 n, .slice a l.length cap] 24)), w.val.cell? ⟨u.val.heap.size, 1, none⟩ = some (.slice a l.length cap) := fun w => (T0.out.keep w.below).c1
  have p0 : (u.val.alloc (.cells #[.int .i64 n, .slice a l.length cap] 24)).cell? ⟨u.val.heap.size, 0, none⟩ = some (.int .i64 n) := T0.out.c0
  have p1 : (u.val.alloc (.cells #[.int .i64 n, .slice a l.length cap] 24)).cell? ⟨u.val.heap.size, 1, none⟩ = some (.slice a l.length cap) := T0.out.c1
  have hM1 : (u.val.alloc (.cells #[.int .i64 n, .slice a l.length cap] 24)).heap.size = u.val.heap.size + 1 := by simp
  have XM : RowL ((u.val.alloc (.cells #[.int .i64 n, .slice a l.length cap] 24)).alloc (.cells #[.int .i64 0, .slice none 0 0] 24)) (u.val.alloc (.cells #[.int .i64 n, .slice a l.length cap] 24)).heap.size 24 [.int .i64 0, .slice none 0 0] := RowL.new _ _ _
  rw [hM1] at XM
  have HX := Lib.hid XM
  have hgr : u.val.heap.size + 1 < ((u.val.alloc (.cells #[.int .i64 n, .slice a l.length cap] 24)).alloc (.cells #[.int .i64 0, .slice none 0 0] 24)).heap.size := XM.lt
  have KC : Hid (Calls Try.prog 44 #[.agg #[.int .i64 n, .slice a l.length cap]] ((u.val.alloc (.cells #[.int .i64 n, .slice a l.length cap] 24)).alloc (.cells #[.int .i64 0, .slice none 0 0] 24)) (Ret ((u.val.alloc (.cells #[.int .i64 n, .slice a l.length cap] 24)).alloc (.cells #[.int .i64 0, .slice none 0 0] 24)).heap.size ((u.val.alloc (.cells #[.int .i64 n, .slice a l.length cap] 24)).alloc (.cells #[.int .i64 0, .slice none 0 0] 24)) (.int .i64 e))) := Lib.hid (c_axCheck (Later.self _) n l a cap e (hI.to ((Later.self (u.val.alloc (.cells #[.int .i64 n, .slice a l.length cap] 24))).alloc _)) hlen he)
  have z0 : ∀ w : Later ((u.val.alloc (.cells #[.int .i64 n, .slice a l.length cap] 24)).alloc (.cells #[.int .i64 0, .slice none 0 0] 24)).heap.size ((u.val.alloc (.cells #[.int .i64 n, .slice a l.length cap] 24)).alloc (.cells #[.int .i64 0, .slice none 0 0] 24)), w.val.cell? ⟨u.val.heap.size, 0, none⟩ = some (.int .i64 n) := fun w => q0 (((Later.self (u.val.alloc (.cells #[.int .i64 n, .slice a l.length cap] 24))).alloc _).up w)
  have z1 : ∀ w : Later ((u.val.alloc (.cells #[.int .i64 n, .slice a l.length cap] 24)).alloc (.cells #[.int .i64 0, .slice none 0 0] 24)).heap.size ((u.val.alloc (.cells #[.int .i64 n, .slice a l.length cap] 24)).alloc (.cells #[.int .i64 0, .slice none 0 0] 24)), w.val.cell? ⟨u.val.heap.size, 1, none⟩ = some (.slice a l.length cap) := fun w => q1 (((Later.self (u.val.alloc (.cells #[.int .i64 n, .slice a l.length cap] 24))).alloc _).up w)
  have x0 : ((u.val.alloc (.cells #[.int .i64 n, .slice a l.length cap] 24)).alloc (.cells #[.int .i64 0, .slice none 0 0] 24)).cell? ⟨u.val.heap.size, 0, none⟩ = some (.int .i64 n) := z0 (Later.self _)
  have x1 : ((u.val.alloc (.cells #[.int .i64 n, .slice a l.length cap] 24)).alloc (.cells #[.int .i64 0, .slice none 0 0] 24)).cell? ⟨u.val.heap.size, 1, none⟩ = some (.slice a l.length cap) := z1 (Later.self _)
  have HVY : Hid (∀ v : Later ((u.val.alloc (.cells #[.int .i64 n, .slice a l.length cap] 24)).alloc (.cells #[.int .i64 0, .slice none 0 0] 24)).heap.size ((u.val.alloc (.cells #[.int .i64 n, .slice a l.length cap] 24)).alloc (.cells #[.int .i64 0, .slice none 0 0] 24)), ∃ w : Later B W, w.val = v.val) := Lib.hid (fun v => ⟨((u.alloc _).alloc _).up v, rfl⟩)
  have HC := Lib.hid hc
  clear h hI he XM q0 q1 p0 p1 T0 HV hM1 hc
  go_enter Try.func18, Try.ntmps18
  go_upto_region 1 with fail
  generalize ((u.val.alloc (.cells #[.int .i64 n, .slice a l.length cap] 24)).alloc (.cells #[.int .i64 0, .slice none 0 0] 24)) = Y at *
  generalize u.val.heap.size = gu at *
  have hBg : B ≤ gu + 1 := by omega
  have f0 : ∀ (w : Later Y.heap.size Y), w.val.cell? ⟨gu + 1, 0, none⟩ = some (.int .i64 0) := fun w => (HX.out.keep_at w.below hgr).cell rfl
  have z0 : ∀ (w : Later Y.heap.size Y), w.val.frozen? ⟨gu + 1, 0, none⟩ = false := fun w => (HX.out.keep_at w.below hgr).fz 0
  have f1 : ∀ (w : Later Y.heap.size Y) (x0 : Value), (w.val.setCell ⟨gu + 1, 0, none⟩ x0).cell? ⟨gu + 1, 1, none⟩ = some (.slice none 0 0) := fun w x0 => ((HX.out.keep_at w.below hgr).set 0 x0).cell rfl
  have z1 : ∀ (w : Later Y.heap.size Y) (x0 : Value), (w.val.setCell ⟨gu + 1, 0, none⟩ x0).frozen? ⟨gu + 1, 1, none⟩ = false := fun w x0 => ((HX.out.keep_at w.below hgr).set 0 x0).fz 1
  have HFin : Hid (∀ v1 : Later Y.heap.size Y, RetP B W (MatTO B 0 [] er) (.returned (.tuple #[.agg #[.int .i64 0, .slice none 0 0], .int .i64 er])) ((v1.val.setCell ⟨gu + 1, 0, none⟩ (.int .i64 0)).setCell ⟨gu + 1, 1, none⟩ (.slice none 0 0))) := Lib.hid (fun v1 => by
    obtain ⟨y1, hy1⟩ := later_set (HVY.out v1) (g := gu + 1) (i := 0) hBg (.int .i64 0)
    obtain ⟨y2, hy2⟩ := later_set ⟨y1, hy1⟩ (g := gu + 1) (i := 1) hBg (.slice none 0 0)
    exact RetP.of ⟨y2, hy2⟩ MatTO.no)
  rcases HC.out with ⟨g1, rfl⟩ | ⟨rfl, rfl, rfl⟩
  · have d0 : (er != 0) = true := by rw [bne_iff_ne]; exact g1
    clear HC
    go_wp2_with (first | (go_at_call 44; (with_reducible refine (KC.out).mono ?_); rintro e _ ⟨rfl, v1, rfl⟩))
    refine bodyPost_ret (results_row (vs := [.int .i64 0, .slice none 0 0]) rfl _ _ (gu + 1) rfl (((HX.out.keep v1.below).set 0 _).set 1 _) Try.underlying24 (by kernel_rfl)) rfl ?_
    exact HFin.out v1
  · clear HC
    go_wp2_with (first | (go_at_call 44; (with_reducible refine (KC.out).mono ?_); rintro e _ ⟨rfl, v1, rfl⟩))
    refine bodyPost_ret (results_row (vs := [.int .i64 0, .slice none 0 0]) rfl _ _ (gu + 1) rfl (((HX.out.keep v1.below).set 0 _).set 1 _) Try.underlying24 (by kernel_rfl)) rfl ?_
    exact HFin.out v1

set_option maxRecDepth 100000 in
set_option maxHeartbeats 16000000 in
theorem c_minFree {B : Nat} {W : World} (u : Later B W) (m : Nat) (hm : m < 8) (L : List Nat) (hL : ∀ b, b ∈ L → b < bit m) (hL2 : L.length ≤ 1024) (a : Option Addr) (cap : Nat) (h : IntsAt B W a (ints L)) (he : MatIs (m : Int) (ints L) 0) :
    Calls Try.prog 18 #[.agg #[.int .i64 m, .slice a (ints L).length cap]] u.val (RetP B W (MatTO B ((m + 1 : Nat) : Int) (ints (those (m + 1) (memB (freeL m L)))) 0)) := by
  have hB := u.size
  have hb := bit_le m (by omega)
  have hlen : (ints L).length ≤ 4611686018427387904 := by rw [ints_len]; omega
  have T0 : Hid (Two (u.val.alloc (.cells #[.int .i64 m, .slice a (ints L).length cap] 24)) u.val.heap.size 24 (.int .i64 m) (.slice a (ints L).length cap)) := Lib.hid (Two.new _ _ _ _)
  have hrr : u.val.heap.size < (u.val.alloc (.cells #[.int .i64 m, .slice a (ints L).length cap] 24)).heap.size := by simp
  have hI : IntsAt (u.val.alloc (.cells #[.int .i64 m, .slice a (ints L).length cap] 24)).heap.size (u.val.alloc (.cells #[.int .i64 m, .slice a (ints L).length cap] 24)) a (ints L) := h.to (u.alloc _)
  have HV : Hid (∀ v : Later (u.val.alloc (.cells #[.int .i64 m, .slice a (ints L).length cap] 24)).heap.size (u.val.alloc (.cells #[.int .i64 m, .slice a (ints L).length cap] 24)), ∃ w : Later B W, w.val = v.val) := Lib.hid (fun v => ⟨(u.alloc _).up v, rfl⟩)
  have q0 : ∀ w : Later (u.val.alloc (.cells #[.int .i64 m, .slice a (ints L).length cap] 24)).heap.size (u.val.alloc (.cells #[.int .i64 m, .slice a (ints L).length cap] 24)), w.val.cell? ⟨u.val.heap.size, 0, none⟩ = some (.int .i64 m) := fun w => (T0.out.keep w.below).c0
  have q1 : ∀ w : Later (u.val.alloc (.cells #[.int .i64 m, .slice a (ints L).length cap] 24)).heap.size (u.val.alloc (.cells #[.int .i64 m, .slice a (ints L).length cap] 24)), w.val.cell? ⟨u.val.heap.size, 1, none⟩ = some (.slice a (ints L).length cap) := fun w => (T0.out.keep w.below).c1
  have p0 : (u.val.alloc (.cells #[.int .i64 m, .slice a (ints L).length cap] 24)).cell? ⟨u.val.heap.size, 0, none⟩ = some (.int .i64 m) := T0.out.c0
  have p1 : (u.val.alloc (.cells #[.int .i64 m, .slice a (ints L).length cap] 24)).cell? ⟨u.val.heap.size, 1, none⟩ = some (.slice a (ints L).length cap) := T0.out.c1
  have hM1 : (u.val.alloc (.cells #[.int .i64 m, .slice a (ints L).length cap] 24)).heap.size = u.val.heap.size + 1 := by simp
  have XM : RowL ((u.val.alloc (.cells #[.int .i64 m, .slice a (ints L).length cap] 24)).alloc (.cells #[.int .i64 0, .slice none 0 0] 24)) (u.val.alloc (.cells #[.int .i64 m, .slice a (ints L).length cap] 24)).heap.size 24 [.int .i64 0, .slice none 0 0] := RowL.new _ _ _
  rw [hM1] at XM
  have HX := Lib.hid XM
  have hgr : u.val.heap.size + 1 < ((u.val.alloc (.cells #[.int .i64 m, .slice a (ints L).length cap] 24)).alloc (.cells #[.int .i64 0, .slice none 0 0] 24)).heap.size := XM.lt
  have hIY : IntsAt ((u.val.alloc (.cells #[.int .i64 m, .slice a (ints L).length cap] 24)).alloc (.cells #[.int .i64 0, .slice none 0 0] 24)).heap.size ((u.val.alloc (.cells #[.int .i64 m, .slice a (ints L).length cap] 24)).alloc (.cells #[.int .i64 0, .slice none 0 0] 24)) a (ints L) := hI.to ((Later.self (u.val.alloc (.cells #[.int .i64 m, .slice a (ints L).length cap] 24))).alloc _)
  have KC : Hid (Calls Try.prog 44 #[.agg #[.int .i64 m, .slice a (ints L).length cap]] ((u.val.alloc (.cells #[.int .i64 m, .slice a (ints L).length cap] 24)).alloc (.cells #[.int .i64 0, .slice none 0 0] 24)) (Ret ((u.val.alloc (.cells #[.int .i64 m, .slice a (ints L).length cap] 24)).alloc (.cells #[.int .i64 0, .slice none 0 0] 24)).heap.size ((u.val.alloc (.cells #[.int .i64 m, .slice a (ints L).length cap] 24)).alloc (.cells #[.int .i64 0, .slice none 0 0] 24)) (.int .i64 0))) := Lib.hid (c_axCheck (Later.self _) m (ints L) a cap 0 hIY hlen he)
  have KL : Hid (∀ v : Later ((u.val.alloc (.cells #[.int .i64 m, .slice a (ints L).length cap] 24)).alloc (.cells #[.int .i64 0, .slice none 0 0] 24)).heap.size ((u.val.alloc (.cells #[.int .i64 m, .slice a (ints L).length cap] 24)).alloc (.cells #[.int .i64 0, .slice none 0 0] 24)), Calls Try.prog 46 #[.slice a (ints L).length cap] v.val (RetOwn ((u.val.alloc (.cells #[.int .i64 m, .slice a (ints L).length cap] 24)).alloc (.cells #[.int .i64 0, .slice none 0 0] 24)).heap.size ((u.val.alloc (.cells #[.int .i64 m, .slice a (ints L).length cap] 24)).alloc (.cells #[.int .i64 0, .slice none 0 0] 24)) (ints L))) := Lib.hid (fun v => c_clone v (ints L) a cap hIY (by rw [ints_len]; omega))
  have z0 : ∀ w : Later ((u.val.alloc (.cells #[.int .i64 m, .slice a (ints L).length cap] 24)).alloc (.cells #[.int .i64 0, .slice none 0 0] 24)).heap.size ((u.val.alloc (.cells #[.int .i64 m, .slice a (ints L).length cap] 24)).alloc (.cells #[.int .i64 0, .slice none 0 0] 24)), w.val.cell? ⟨u.val.heap.size, 0, none⟩ = some (.int .i64 m) := fun w => q0 (((Later.self (u.val.alloc (.cells #[.int .i64 m, .slice a (ints L).length cap] 24))).alloc _).up w)
  have z1 : ∀ w : Later ((u.val.alloc (.cells #[.int .i64 m, .slice a (ints L).length cap] 24)).alloc (.cells #[.int .i64 0, .slice none 0 0] 24)).heap.size ((u.val.alloc (.cells #[.int .i64 m, .slice a (ints L).length cap] 24)).alloc (.cells #[.int .i64 0, .slice none 0 0] 24)), w.val.cell? ⟨u.val.heap.size, 1, none⟩ = some (.slice a (ints L).length cap) := fun w => q1 (((Later.self (u.val.alloc (.cells #[.int .i64 m, .slice a (ints L).length cap] 24))).alloc _).up w)
  have x0 : ((u.val.alloc (.cells #[.int .i64 m, .slice a (ints L).length cap] 24)).alloc (.cells #[.int .i64 0, .slice none 0 0] 24)).cell? ⟨u.val.heap.size, 0, none⟩ = some (.int .i64 m) := z0 (Later.self _)
  have x1 : ((u.val.alloc (.cells #[.int .i64 m, .slice a (ints L).length cap] 24)).alloc (.cells #[.int .i64 0, .slice none 0 0] 24)).cell? ⟨u.val.heap.size, 1, none⟩ = some (.slice a (ints L).length cap) := z1 (Later.self _)
  have HVY : Hid (∀ v : Later ((u.val.alloc (.cells #[.int .i64 m, .slice a (ints L).length cap] 24)).alloc (.cells #[.int .i64 0, .slice none 0 0] 24)).heap.size ((u.val.alloc (.cells #[.int .i64 m, .slice a (ints L).length cap] 24)).alloc (.cells #[.int .i64 0, .slice none 0 0] 24)), ∃ w : Later B W, w.val = v.val) := Lib.hid (fun v => ⟨((u.alloc _).alloc _).up v, rfl⟩)
  have HI := Lib.hid hIY
  have H8 : Hid (∀ k, k < L.length → L.getD k 0 < bit m) := Lib.hid (fun k hk => hL _ (by simp [hk]))
  have HN : Hid (∀ s, s ∈ freeL m L → s < bit (m + 1)) := Lib.hid (freeL_lt hm hL)
  have d0 : decide ((m : Int) = 8) = false := decide_eq_false (by omega)
  clear h hI he XM q0 q1 p0 p1 T0 HV hM1 hIY hL hlen
  go_enter Try.func18, Try.ntmps18
  go_upto_region 1 with fail
  generalize ((u.val.alloc (.cells #[.int .i64 m, .slice a (ints L).length cap] 24)).alloc (.cells #[.int .i64 0, .slice none 0 0] 24)) = Y at *
  generalize u.val.heap.size = gu at *
  have hBg : B ≤ gu + 1 := by omega
  go_upto_region 6 with (first | (go_at_call 44; ((with_reducible refine (KC.out).mono ?_); rintro e _ ⟨rfl, y, rfl⟩)))
  have hil : (ints L).length = L.length := ints_len L
  rw [hil] at z1 KL ⊢
  clear x0 x1 KC
  have z0y := z0 y
  have z1y := z1 y
  go_upto_region 7 with (first | (go_at_call 46; ((with_reducible refine (KL.out y).mono ?_); rintro e _ ⟨_, rfl, ⟨ad0, cp0, rfl, hO0⟩, y2, rfl⟩)))
  have HO0 := Lib.hid hO0
  clear z0y z1y hO0 KL y
  have z0y := z0 y2
  have z1y := z1 y2
  go_wp2
  go_loopw [5, 25] (fun t i wr => ∃ (c : Nat) (ad : Option Addr) (cp : Nat) (u : Later Y.heap.size Y), c ≤ L.length ∧ t = .slice ad (ints (L ++ (L.take c).flatMap (fun b => (elems b).map (fun x => nand b (bit x) ||| bit m)))).length cp ∧ i = .int .i64 c ∧ wr = u.val ∧ Hid (Own Y.heap.size u.val ad cp (ints (L ++ (L.take c).flatMap (fun b => (elems b).map (fun x => nand b (bit x) ||| bit m)))))) (fun _ i _ => L.length - (intOf i).toNat)
  case atStart => exact ⟨0, ad0, cp0, y2, by omega, by simp [hil], rfl, rfl, Lib.hid (by have := HO0.out; simp only [List.take_zero, List.flatMap_nil, List.append_nil]; exact this)⟩
  case round =>
    clear z0y z1y HO0 y2
    obtain ⟨c, ad, cp, u, hc, rfl, rfl, rfl, HO⟩ := hrel
    by_cases hlt : c < L.length
    · obtain ⟨b1, off1, rfl, hbB1, hcell1⟩ := (HI.out.to u).at (k := c) (by rw [ints_len]; exact hlt)
      have c0u : u.val.cell? ⟨b1, off1 + c, none⟩ = some (.int .i64 ((L.getD c 0 : Nat) : Int)) := by
        have := hcell1 (Later.self _) c (by rw [ints_len]; exact hlt)
        rw [ints_getD] at this
        exact this
      have hx := H8.out c hlt
      have HSt : Hid (L ++ (L.take (c + 1)).flatMap (fun b => (elems b).map (fun x => nand b (bit x) ||| bit m)) = (L ++ (L.take c).flatMap (fun b => (elems b).map (fun x => nand b (bit x) ||| bit m))) ++ (elems (L.getD c 0)).map (fun x => nand (L.getD c 0) (bit x) ||| bit m)) := Lib.hid (by rw [flat_step (fun b => (elems b).map (fun x => nand b (bit x) ||| bit m)) L 0 hlt, List.append_assoc])
      have HLn : Hid ((L ++ (L.take c).flatMap (fun b => (elems b).map (fun x => nand b (bit x) ||| bit m))).length ≤ 1048576) := Lib.hid (by
        have h5 : (L.take c).length ≤ 1024 := by have := List.length_take_le c L; omega
        have h6 := flat_len (fun b => (elems b).map (fun x => nand b (bit x) ||| bit m)) 8 (L.take c) (fun b => by rw [List.length_map]; exact elemsTo_len b 8)
        rw [List.length_append]
        omega)
      clear hcell1
      generalize L ++ (L.take c).flatMap (fun b => (elems b).map (fun x => nand b (bit x) ||| bit m)) = T at *
      generalize L.getD c 0 = x at *
      go_wp2
      go_loopw [5, 8] (fun t r wr => ∃ (q : Nat) (P : List Nat) (ad : Option Addr) (cp : Nat) (u2 : Later Y.heap.size Y), q < 256 ∧ r = .int .i64 q ∧ t = .slice ad (ints (T ++ P.map (fun y => nand x (bit y) ||| bit m))).length cp ∧ wr = u2.val ∧ Hid (elems x = P ++ elems q) ∧ Hid (Own Y.heap.size u2.val ad cp (ints (T ++ P.map (fun y => nand x (bit y) ||| bit m))))) (fun _ r _ => (intOf r).toNat)
      case atStart => exact ⟨x, [], ad, cp, u, by omega, rfl, by simp, rfl, Lib.hid rfl, Lib.hid (by have := HO.out; simp only [List.map_nil, List.append_nil]; exact this)⟩
      case round =>
        obtain ⟨q, P, ad2, cp2, u2, hq, rfl, rfl, rfl, HE, HO2⟩ := hrel
        by_cases hq0 : q = 0
        · subst hq0
          have HE2 : elems x = P := by
            have := HE.out
            rw [show elems 0 = [] by decide, List.append_nil] at this
            exact this
          have HS3 := HSt.out
          rw [HE2] at HS3
          have HS4 := Lib.hid HS3
          clear HS3 HSt
          go_wp2
          go_roundw
          case rel => exact ⟨c+1, ad2, cp2, u2, by omega, by rw [HS4.out], by go_num, rfl, by rw [HS4.out]; exact HO2⟩
          case measure => simp [intOf]; omega
        · obtain ⟨d, hd, hed, hlow, hdr⟩ := elems_open hq hq0
          have e1 : ((q : Int) != 0) = true := by rw [bne_iff_ne]; omega
          have o1 := i64_low q hq
          rw [hlow] at o1
          have bd := bit_lt d hd
          have bc := bit_cast m
          have w2 := IntWalk.i64_in (-(q : Int)) (by omega)
          have w3 := IntWalk.i64_in ((q : Int) - 1) (by omega)
          have o2 : bits .andNot .i64 (x : Int) (bit d : Int) = ((nand x (bit d) : Nat) : Int) := i64_andNot _ _ (by omega) (by omega)
          have hnl := nand_le x (bit d)
          have o3 : bits .or .i64 ((nand x (bit d) : Nat) : Int) (bit m : Int) = ((nand x (bit d) ||| bit m : Nat) : Int) := i64_or _ _ (by omega) (by omega)
          have o4 : bits .and .i64 (q : Int) ((q : Int) - 1) = ((drop1 q : Nat) : Int) := by
            rw [show (q : Int) - 1 = ((q - 1 : Nat) : Int) by omega]
            exact i64_and _ _ (by omega) (by omega)
          have HE3 : Hid (elems x = (P ++ [d]) ++ elems (drop1 q)) := Lib.hid (by rw [HE.out, hed]; simp)
          have HLn2 : Hid ((ints (T ++ P.map (fun y => nand x (bit y) ||| bit m))).length + 1 ≤ 1099511627776) := Lib.hid (by
            have h1 := elemsTo_len x 8
            have h2 : (elems x).length = P.length + (elems q).length := by rw [HE.out, List.length_append]
            have h3 : (elems x).length ≤ 8 := h1
            have := HLn.out
            rw [ints_len, List.length_append, List.length_map]
            omega)
          have HS2 : Hid ((P ++ [d]).map (fun y => nand x (bit y) ||| bit m) = P.map (fun y => nand x (bit y) ||| bit m) ++ [nand x (bit d) ||| bit m]) := Lib.hid (by simp)
          have t0 : ∀ v : Later u2.val.heap.size u2.val, v.val.cell? ⟨gu, 0, none⟩ = some (.int .i64 m) := fun v => z0 (u2.up v)
          clear HE hed hlow
          have hdq := drop1_lt q hq
          have w1 := IntWalk.i64_in (bit m : Int) (by omega)
          obtain ⟨v0, hv0⟩ : ∃ v0 : Later u2.val.heap.size u2.val, v0.val = u2.val := ⟨Later.self _, rfl⟩
          rw [← hv0]
          clear hv0
          generalize P.map (fun y => nand x (bit y) ||| bit m) = T2 at *
          generalize nand x (bit d) ||| bit m = z at *
          generalize nand x (bit d) = z' at *
          generalize drop1 q = dq at *
          go_wp2_with (first | (at_builtin; refine wpList_push (B := Y.heap.size) (W := Y) (w := v0.val) (u2.up v0).below (u2.up v0).size rfl _ _ rfl (ints (T ++ T2)) ad2 cp2 (z : Int) rfl (HO2.out.keep v0.below) rfl (by have := HLn2.out; omega) ?_; intro u3 ad3 cp3 hown))
          go_roundw
          case rel => exact ⟨dq, P ++ [d], ad3, cp3, u3, by omega, rfl, by rw [HS2.out, ← List.append_assoc, ints_snoc]; simp, rfl, HE3, by rw [HS2.out, ← List.append_assoc, ints_snoc]; exact hown⟩
          case measure => simp [intOf]; omega
    · have hce : c = L.length := by omega
      subst hce
      rw [List.take_length] at HO ⊢
      have KM := Lib.hid (c_made u (m + 1) ((m : Int) + 1) (freeL m L) HN.out (by omega) (by
        have h6 := flat_len (fun b => (elems b).map (fun x => nand b (bit x) ||| bit m)) 8 L (fun b => by rw [List.length_map]; exact elemsTo_len b 8)
        unfold freeL
        rw [List.length_append]
        omega) ad cp HO.out)
      have HO2 : Hid (Own Y.heap.size u.val ad cp (ints (freeL m L))) := HO
      have w1 := IntWalk.i64_in ((m : Int) + 1) (by omega)
      obtain ⟨A, hA⟩ : ∃ A, those (m + 1) (memB (freeL m L)) = A := ⟨_, rfl⟩
      rw [hA] at KM
      have HA := Lib.hid hA
      clear hA HO
      have z0u := z0 u
      have z1u := z1 u
      change Hid (Calls Try.prog 45 #[.int .i64 ((m : Int) + 1), .slice ad (ints (L ++ L.flatMap (fun b => (elems b).map (fun x => nand b (bit x) ||| bit m)))).length cp] u.val _) at KM
      generalize (ints (L ++ L.flatMap (fun b => (elems b).map (fun x => nand b (bit x) ||| bit m)))).length = len at *
      have f0 : ∀ (w : Later Y.heap.size Y), w.val.cell? ⟨gu + 1, 0, none⟩ = some (.int .i64 0) := fun w => (HX.out.keep_at w.below hgr).cell rfl
      have z0 : ∀ (w : Later Y.heap.size Y), w.val.frozen? ⟨gu + 1, 0, none⟩ = false := fun w => (HX.out.keep_at w.below hgr).fz 0
      have f1 : ∀ (w : Later Y.heap.size Y) (x0 : Value), (w.val.setCell ⟨gu + 1, 0, none⟩ x0).cell? ⟨gu + 1, 1, none⟩ = some (.slice none 0 0) := fun w x0 => ((HX.out.keep_at w.below hgr).set 0 x0).cell rfl
      have z1 : ∀ (w : Later Y.heap.size Y) (x0 : Value), (w.val.setCell ⟨gu + 1, 0, none⟩ x0).frozen? ⟨gu + 1, 1, none⟩ = false := fun w x0 => ((HX.out.keep_at w.below hgr).set 0 x0).fz 1
      go_wp2_with (first | (go_at_call 45; ((with_reducible refine (KM.out).mono ?_); rintro e _ ⟨_, rfl, ⟨ad3, cp3, rfl, hO3⟩, v3, rfl⟩)))
      refine bodyPost_ret (results_row (vs := [.int .i64 ((m : Int) + 1), .slice ad3 (ints A).length cp3]) rfl _ _ (gu + 1) rfl (((HX.out.keep v3.below).set 0 _).set 1 _) Try.underlying24 (by kernel_rfl)) rfl ?_
      obtain ⟨y1, hy1⟩ := later_set (HVY.out v3) (g := gu + 1) (i := 0) hBg (.int .i64 ((m : Int) + 1))
      obtain ⟨y2, hy2⟩ := later_set ⟨y1, hy1⟩ (g := gu + 1) (i := 1) hBg (.slice ad3 (ints A).length cp3)
      have hus := u.size
      have hgu2 : gu + 1 < u.val.heap.size := by omega
      have hA := HA.out
      subst hA
      rw [Int.natCast_add]
      exact RetP.of ⟨y2, hy2⟩ ⟨_, _, rfl, ((hO3.set hgu2 _).set hgu2 _).mono (Nat.le_trans hB (Nat.le_trans (by omega) hus))⟩

end Go.Proofs.Ytefkhnibempibaa

namespace Go.Proofs.Ytefkhnibempibaa
open Go.RowKit
set_option linter.unusedVariables false

theorem toN_ints (L : List Nat) : toN (ints L) = L := by unfold toN ints; rw [List.map_map]; exact (List.map_congr_left (fun x _ => by rfl)).trans (List.map_id _)

/-- append of one number that lies in a cell, at a step of a region that draws its order -/
theorem step_pushAt {B : Nat} {W w : World} (hw : Below B W w) (hB : B ≤ w.heap.size) {ops : Array Oper} {o : Oper} {a : Act} {K : Act → World → Prop} {Q : Exit → Act → World → Prop} {E : Prop} (hgd : o.guard = none) (s x : Operand)
    (ho : o.op = .call { callee := .builtin .append, args := #[s, x], argTypes := #[22, 22] })
    (xs : List Int) (ad : Option Addr) (cap : Nat) (y : Int) (hs : a.eval s = .slice ad xs.length cap) (hown : Own B w ad cap xs)
    (g : Nat) (hx : a.eval x = .slice (some ⟨g, 0, none⟩) 1 1) (hc : w.cell? ⟨g, 0, none⟩ = some (.int .i64 y))
    (hlen : xs.length + 1 ≤ 1099511627776)
    (h : ∀ (u' : Later B W) (ad' : Option Addr) (cap' : Nat), Own B u'.val ad' cap' (xs ++ [y]) → K (a.put o.dst (.slice ad' (xs ++ [y]).length cap')) u'.val) :
    if Region.wanted o (yielded ops a.tmps) = true then Oper.wp Try.prog o a w K Q else E := by
  obtain ⟨i0, hi, hz0, hz1, hz2⟩ := info_parts info_int
  refine step_append_lies _ hgd s x 22 ho B 3 i0 (.int .i64 0) 1 8 Try.underlying22 hi hz0 hz1 hz2 rfl (by decide) _ xs.length _ hs hown ⟨g, 0, none⟩ 1 1 [.int .i64 y] hx rfl ?_ ?_ (by decide) (by unfold maxLen; omega) (by omega) (by have := hB; omega) _ rfl ?_
  · intro j v hj
    have hj0 : j = 0 := by
      have := (List.getElem?_eq_some_iff.1 hj).1
      simp at this
      omega
    subst hj0
    have e : (⟨g, 0, none⟩ : Addr).add 0 = ⟨g, 0, none⟩ := by unfold Addr.add; split <;> simp_all
    rw [e]
    simp at hj
    subst hj
    exact hc
  · intro v hv
    simp at hv
    subst hv
    rfl
  · intro g cap' w' h2 h3 _ _
    have hO : Own B w' (some ⟨g, 0, none⟩) cap' (xs ++ [y]) := by
      show w'.ownsRow B 3 1 (.slice (some ⟨g, 0, none⟩) (xs ++ [y]).length cap') (xs ++ [y]).length _
      rw [List.length_append]
      simpa using h2
    have := h ⟨w', own_below hw hB hown h3, by have := h3.size; omega⟩ (some ⟨g, 0, none⟩) cap' hO
    rw [List.length_append] at this
    exact this
theorem later_up {B : Nat} {W w : World} (h : ∃ z : Later B W, z.val = w) (v : Later w.heap.size w) : ∃ z : Later B W, z.val = v.val := by
  obtain ⟨z, rfl⟩ := h
  exact ⟨z.up v, rfl⟩

set_option maxRecDepth 100000 in
set_option maxHeartbeats 4000000 in
theorem c_minRelax_no {B : Nat} {W : World} (u : Later B W) (n s : Int) (l : List Int) (a : Option Addr) (cap : Nat) (e : Int) (h : IntsAt B W a l) (h0 : e ≠ 0) (hR : ∀ (B : Nat) (W : World) (v : Later B W), IntsAt B W a l → Calls Try.prog 47 #[.agg #[.int .i64 n, .slice a l.length cap], .int .i64 s] v.val (Ret B W (.int .i64 e))) :
    Calls Try.prog 19 #[.agg #[.int .i64 n, .slice a l.length cap], .int .i64 s] u.val (RetP B W (MatTO B 0 [] e)) := by
  have hB := u.size
  have T0 : Hid (Two (u.val.alloc (.cells #[.int .i64 n, .slice a l.length cap] 24)) u.val.heap.size 24 (.int .i64 n) (.slice a l.length cap)) := Lib.hid (Two.new _ _ _ _)
  have hrr : u.val.heap.size < (u.val.alloc (.cells #[.int .i64 n, .slice a l.length cap] 24)).heap.size := by simp
  have hI : IntsAt (u.val.alloc (.cells #[.int .i64 n, .slice a l.length cap] 24)).heap.size (u.val.alloc (.cells #[.int .i64 n, .slice a l.length cap] 24)) a l := h.to (u.alloc _)
  have HV : Hid (∀ v : Later (u.val.alloc (.cells #[.int .i64 n, .slice a l.length cap] 24)).heap.size (u.val.alloc (.cells #[.int .i64 n, .slice a l.length cap] 24)), ∃ w : Later B W, w.val = v.val) := Lib.hid (fun v => ⟨(u.alloc _).up v, rfl⟩)
  have q0 : ∀ w : Later (u.val.alloc (.cells #[.int .i64 n, .slice a l.length cap] 24)).heap.size (u.val.alloc (.cells #[.int .i64 n, .slice a l.length cap] 24)), w.val.cell? ⟨u.val.heap.size, 0, none⟩ = some (.int .i64 n) := fun w => (T0.out.keep w.below).c0
  have q1 : ∀ w : Later (u.val.alloc (.cells #[.int .i64 n, .slice a l.length cap] 24)).heap.size (u.val.alloc (.cells #[.int .i64 n, .slice a l.length cap] 24)), w.val.cell? ⟨u.val.heap.size, 1, none⟩ = some (.slice a l.length cap) := fun w => (T0.out.keep w.below).c1
  have p0 : (u.val.alloc (.cells #[.int .i64 n, .slice a l.length cap] 24)).cell? ⟨u.val.heap.size, 0, none⟩ = some (.int .i64 n) := T0.out.c0
  have p1 : (u.val.alloc (.cells #[.int .i64 n, .slice a l.length cap] 24)).cell? ⟨u.val.heap.size, 1, none⟩ = some (.slice a l.length cap) := T0.out.c1
  have hM1 : (u.val.alloc (.cells #[.int .i64 n, .slice a l.length cap] 24)).heap.size = u.val.heap.size + 1 := by simp
  have XM : RowL ((u.val.alloc (.cells #[.int .i64 n, .slice a l.length cap] 24)).alloc (.cells #[.int .i64 0, .slice none 0 0] 24)) (u.val.alloc (.cells #[.int .i64 n, .slice a l.length cap] 24)).heap.size 24 [.int .i64 0, .slice none 0 0] := RowL.new _ _ _
  rw [hM1] at XM
  have HX := Lib.hid XM
  have hgr : u.val.heap.size + 1 < ((u.val.alloc (.cells #[.int .i64 n, .slice a l.length cap] 24)).alloc (.cells #[.int .i64 0, .slice none 0 0] 24)).heap.size := XM.lt
  have KC : Hid (Calls Try.prog 47 #[.agg #[.int .i64 n, .slice a l.length cap], .int .i64 s] ((u.val.alloc (.cells #[.int .i64 n, .slice a l.length cap] 24)).alloc (.cells #[.int .i64 0, .slice none 0 0] 24)) (Ret ((u.val.alloc (.cells #[.int .i64 n, .slice a l.length cap] 24)).alloc (.cells #[.int .i64 0, .slice none 0 0] 24)).heap.size ((u.val.alloc (.cells #[.int .i64 n, .slice a l.length cap] 24)).alloc (.cells #[.int .i64 0, .slice none 0 0] 24)) (.int .i64 e))) := Lib.hid (hR _ _ (Later.self _) (hI.to ((Later.self (u.val.alloc (.cells #[.int .i64 n, .slice a l.length cap] 24))).alloc _)))
  have d0 : (e != 0) = true := by rw [bne_iff_ne]; exact h0
  have z0 : ((u.val.alloc (.cells #[.int .i64 n, .slice a l.length cap] 24)).alloc (.cells #[.int .i64 0, .slice none 0 0] 24)).cell? ⟨u.val.heap.size, 0, none⟩ = some (.int .i64 n) := q0 ((Later.self (u.val.alloc (.cells #[.int .i64 n, .slice a l.length cap] 24))).alloc _)
  have z1 : ((u.val.alloc (.cells #[.int .i64 n, .slice a l.length cap] 24)).alloc (.cells #[.int .i64 0, .slice none 0 0] 24)).cell? ⟨u.val.heap.size, 1, none⟩ = some (.slice a l.length cap) := q1 ((Later.self (u.val.alloc (.cells #[.int .i64 n, .slice a l.length cap] 24))).alloc _)
  have HVY : Hid (∀ v : Later ((u.val.alloc (.cells #[.int .i64 n, .slice a l.length cap] 24)).alloc (.cells #[.int .i64 0, .slice none 0 0] 24)).heap.size ((u.val.alloc (.cells #[.int .i64 n, .slice a l.length cap] 24)).alloc (.cells #[.int .i64 0, .slice none 0 0] 24)), ∃ w : Later B W, w.val = v.val) := Lib.hid (fun v => ⟨((u.alloc _).alloc _).up v, rfl⟩)
  clear h hI h0 XM q0 q1 p0 p1 T0 HV hM1 hR
  go_enter Try.func19, Try.ntmps19
  go_upto_region 1 with fail
  generalize ((u.val.alloc (.cells #[.int .i64 n, .slice a l.length cap] 24)).alloc (.cells #[.int .i64 0, .slice none 0 0] 24)) = Y at *
  generalize u.val.heap.size = gu at *
  have hBg : B ≤ gu + 1 := by omega
  have f0 : ∀ (w : Later Y.heap.size Y), w.val.cell? ⟨gu + 1, 0, none⟩ = some (.int .i64 0) := fun w => (HX.out.keep_at w.below hgr).cell rfl
  have z0 : ∀ (w : Later Y.heap.size Y), w.val.frozen? ⟨gu + 1, 0, none⟩ = false := fun w => (HX.out.keep_at w.below hgr).fz 0
  have f1 : ∀ (w : Later Y.heap.size Y) (x0 : Value), (w.val.setCell ⟨gu + 1, 0, none⟩ x0).cell? ⟨gu + 1, 1, none⟩ = some (.slice none 0 0) := fun w x0 => ((HX.out.keep_at w.below hgr).set 0 x0).cell rfl
  have z1 : ∀ (w : Later Y.heap.size Y) (x0 : Value), (w.val.setCell ⟨gu + 1, 0, none⟩ x0).frozen? ⟨gu + 1, 1, none⟩ = false := fun w x0 => ((HX.out.keep_at w.below hgr).set 0 x0).fz 1
  go_wp2_with (first | (go_at_call 47; (with_reducible refine (KC.out).mono ?_); rintro e _ ⟨rfl, v1, rfl⟩))
  refine bodyPost_ret (results_row (vs := [.int .i64 0, .slice none 0 0]) rfl _ _ (gu + 1) rfl (((HX.out.keep v1.below).set 0 _).set 1 _) Try.underlying24 (by kernel_rfl)) rfl ?_
  obtain ⟨y1, hy1⟩ := later_set (HVY.out v1) (g := gu + 1) (i := 0) hBg (.int .i64 0)
  obtain ⟨y2, hy2⟩ := later_set ⟨y1, hy1⟩ (g := gu + 1) (i := 1) hBg (.slice none 0 0)
  exact RetP.of ⟨y2, hy2⟩ MatTO.no

set_option maxRecDepth 100000 in
set_option maxHeartbeats 8000000 in
theorem c_minRelax {B : Nat} {W : World} (u : Later B W) (m : Nat) (hm : m ≤ 8) (s : Nat) (hs : s < bit m) (L : List Nat) (hL : ∀ b, b ∈ L → b < bit m) (hL2 : L.length ≤ 1024) (a : Option Addr) (cap : Nat) (h : IntsAt B W a (ints L)) (he : MatIs (m : Int) (ints L) 0) (n' : Int) (xs' : List Int) (er : Int)
    (hc : (s ∈ those m (circP L) ∧ s ∈ those m (hypP m L) ∧ n' = m ∧ xs' = ints (those m (memB (L ++ [s]))) ∧ er = 0) ∨ (¬ (s ∈ those m (circP L) ∧ s ∈ those m (hypP m L)) ∧ n' = 0 ∧ xs' = [] ∧ er = 3)) :
    Calls Try.prog 19 #[.agg #[.int .i64 m, .slice a (ints L).length cap], .int .i64 s] u.val (RetP B W (MatTO B n' xs' er)) := by
  have hB := u.size
  have hb := bit_le m hm
  have hlen : (ints L).length ≤ 4611686018427387904 := by rw [ints_len]; omega
  have T0 : Hid (Two (u.val.alloc (.cells #[.int .i64 m, .slice a (ints L).length cap] 24)) u.val.heap.size 24 (.int .i64 m) (.slice a (ints L).length cap)) := Lib.hid (Two.new _ _ _ _)
  have hrr : u.val.heap.size < (u.val.alloc (.cells #[.int .i64 m, .slice a (ints L).length cap] 24)).heap.size := by simp
  have hI : IntsAt (u.val.alloc (.cells #[.int .i64 m, .slice a (ints L).length cap] 24)).heap.size (u.val.alloc (.cells #[.int .i64 m, .slice a (ints L).length cap] 24)) a (ints L) := h.to (u.alloc _)
  have HV : Hid (∀ v : Later (u.val.alloc (.cells #[.int .i64 m, .slice a (ints L).length cap] 24)).heap.size (u.val.alloc (.cells #[.int .i64 m, .slice a (ints L).length cap] 24)), ∃ w : Later B W, w.val = v.val) := Lib.hid (fun v => ⟨(u.alloc _).up v, rfl⟩)
  have q0 : ∀ w : Later (u.val.alloc (.cells #[.int .i64 m, .slice a (ints L).length cap] 24)).heap.size (u.val.alloc (.cells #[.int .i64 m, .slice a (ints L).length cap] 24)), w.val.cell? ⟨u.val.heap.size, 0, none⟩ = some (.int .i64 m) := fun w => (T0.out.keep w.below).c0
  have q1 : ∀ w : Later (u.val.alloc (.cells #[.int .i64 m, .slice a (ints L).length cap] 24)).heap.size (u.val.alloc (.cells #[.int .i64 m, .slice a (ints L).length cap] 24)), w.val.cell? ⟨u.val.heap.size, 1, none⟩ = some (.slice a (ints L).length cap) := fun w => (T0.out.keep w.below).c1
  have p0 : (u.val.alloc (.cells #[.int .i64 m, .slice a (ints L).length cap] 24)).cell? ⟨u.val.heap.size, 0, none⟩ = some (.int .i64 m) := T0.out.c0
  have p1 : (u.val.alloc (.cells #[.int .i64 m, .slice a (ints L).length cap] 24)).cell? ⟨u.val.heap.size, 1, none⟩ = some (.slice a (ints L).length cap) := T0.out.c1
  have hM1 : (u.val.alloc (.cells #[.int .i64 m, .slice a (ints L).length cap] 24)).heap.size = u.val.heap.size + 1 := by simp
  have XM : RowL ((u.val.alloc (.cells #[.int .i64 m, .slice a (ints L).length cap] 24)).alloc (.cells #[.int .i64 0, .slice none 0 0] 24)) (u.val.alloc (.cells #[.int .i64 m, .slice a (ints L).length cap] 24)).heap.size 24 [.int .i64 0, .slice none 0 0] := RowL.new _ _ _
  rw [hM1] at XM
  have HX := Lib.hid XM
  have hgr : u.val.heap.size + 1 < ((u.val.alloc (.cells #[.int .i64 m, .slice a (ints L).length cap] 24)).alloc (.cells #[.int .i64 0, .slice none 0 0] 24)).heap.size := XM.lt
  have hIY : IntsAt ((u.val.alloc (.cells #[.int .i64 m, .slice a (ints L).length cap] 24)).alloc (.cells #[.int .i64 0, .slice none 0 0] 24)).heap.size ((u.val.alloc (.cells #[.int .i64 m, .slice a (ints L).length cap] 24)).alloc (.cells #[.int .i64 0, .slice none 0 0] 24)) a (ints L) := hI.to ((Later.self (u.val.alloc (.cells #[.int .i64 m, .slice a (ints L).length cap] 24))).alloc _)
  have hset : isSet (m : Int) (s : Int) := ⟨by omega, by omega, by omega, by rw [all_nat]; omega⟩
  have KC : Hid (Calls Try.prog 47 #[.agg #[.int .i64 m, .slice a (ints L).length cap], .int .i64 s] ((u.val.alloc (.cells #[.int .i64 m, .slice a (ints L).length cap] 24)).alloc (.cells #[.int .i64 0, .slice none 0 0] 24)) (Ret ((u.val.alloc (.cells #[.int .i64 m, .slice a (ints L).length cap] 24)).alloc (.cells #[.int .i64 0, .slice none 0 0] 24)).heap.size ((u.val.alloc (.cells #[.int .i64 m, .slice a (ints L).length cap] 24)).alloc (.cells #[.int .i64 0, .slice none 0 0] 24)) (.int .i64 0))) := Lib.hid (by
    have := c_right (Later.self ((u.val.alloc (.cells #[.int .i64 m, .slice a (ints L).length cap] 24)).alloc (.cells #[.int .i64 0, .slice none 0 0] 24))) m s (ints L) a cap hIY hlen he
    rwa [decide_eq_true hset, show errno true 1 = 0 from rfl] at this)
  have K1 : Hid (∀ v : Later ((u.val.alloc (.cells #[.int .i64 m, .slice a (ints L).length cap] 24)).alloc (.cells #[.int .i64 0, .slice none 0 0] 24)).heap.size ((u.val.alloc (.cells #[.int .i64 m, .slice a (ints L).length cap] 24)).alloc (.cells #[.int .i64 0, .slice none 0 0] 24)), Calls Try.prog 48 #[.agg #[.int .i64 m, .slice a (ints L).length cap]] v.val (RetP v.val.heap.size v.val (ListO v.val.heap.size (ints (those m (circP L))) 0))) := Lib.hid (fun v => by
    have := c_axCircO (Later.self v.val) m hm (ints L) a cap (hIY.to v) hlen he
    rw [toN_ints] at this
    exact this)
  have K2 : Hid (∀ v : Later ((u.val.alloc (.cells #[.int .i64 m, .slice a (ints L).length cap] 24)).alloc (.cells #[.int .i64 0, .slice none 0 0] 24)).heap.size ((u.val.alloc (.cells #[.int .i64 m, .slice a (ints L).length cap] 24)).alloc (.cells #[.int .i64 0, .slice none 0 0] 24)), Calls Try.prog 49 #[.agg #[.int .i64 m, .slice a (ints L).length cap]] v.val (RetP v.val.heap.size v.val (ListO v.val.heap.size (ints (those m (hypP m L))) 0))) := Lib.hid (fun v => by
    have := c_axHypO (Later.self v.val) m hm (ints L) a cap (hIY.to v) hlen he
    rw [toN_ints] at this
    exact this)
  have z0 : ∀ w : Later ((u.val.alloc (.cells #[.int .i64 m, .slice a (ints L).length cap] 24)).alloc (.cells #[.int .i64 0, .slice none 0 0] 24)).heap.size ((u.val.alloc (.cells #[.int .i64 m, .slice a (ints L).length cap] 24)).alloc (.cells #[.int .i64 0, .slice none 0 0] 24)), w.val.cell? ⟨u.val.heap.size, 0, none⟩ = some (.int .i64 m) := fun w => q0 (((Later.self (u.val.alloc (.cells #[.int .i64 m, .slice a (ints L).length cap] 24))).alloc _).up w)
  have z1 : ∀ w : Later ((u.val.alloc (.cells #[.int .i64 m, .slice a (ints L).length cap] 24)).alloc (.cells #[.int .i64 0, .slice none 0 0] 24)).heap.size ((u.val.alloc (.cells #[.int .i64 m, .slice a (ints L).length cap] 24)).alloc (.cells #[.int .i64 0, .slice none 0 0] 24)), w.val.cell? ⟨u.val.heap.size, 1, none⟩ = some (.slice a (ints L).length cap) := fun w => q1 (((Later.self (u.val.alloc (.cells #[.int .i64 m, .slice a (ints L).length cap] 24))).alloc _).up w)
  have x0 : ((u.val.alloc (.cells #[.int .i64 m, .slice a (ints L).length cap] 24)).alloc (.cells #[.int .i64 0, .slice none 0 0] 24)).cell? ⟨u.val.heap.size, 0, none⟩ = some (.int .i64 m) := z0 (Later.self _)
  have x1 : ((u.val.alloc (.cells #[.int .i64 m, .slice a (ints L).length cap] 24)).alloc (.cells #[.int .i64 0, .slice none 0 0] 24)).cell? ⟨u.val.heap.size, 1, none⟩ = some (.slice a (ints L).length cap) := z1 (Later.self _)
  have HVY : Hid (∀ v : Later ((u.val.alloc (.cells #[.int .i64 m, .slice a (ints L).length cap] 24)).alloc (.cells #[.int .i64 0, .slice none 0 0] 24)).heap.size ((u.val.alloc (.cells #[.int .i64 m, .slice a (ints L).length cap] 24)).alloc (.cells #[.int .i64 0, .slice none 0 0] 24)), ∃ w : Later B W, w.val = v.val) := Lib.hid (fun v => ⟨((u.alloc _).alloc _).up v, rfl⟩)
  have HI := Lib.hid hIY
  have HN : Hid (∀ t, t ∈ L ++ [s] → t < bit m) := Lib.hid (fun t ht => by
    rw [List.mem_append] at ht
    rcases ht with h | h
    · exact hL t h
    · simp at h; omega)
  have hA1 : (ints (those m (circP L))).length ≤ 256 := by rw [ints_len]; have := thoseTo_len (circP L) (bit m); have e : those m (circP L) = thoseTo (circP L) (bit m) := rfl; rw [e]; omega
  have hA2 : (ints (those m (hypP m L))).length ≤ 256 := by rw [ints_len]; have := thoseTo_len (hypP m L) (bit m); have e : those m (hypP m L) = thoseTo (hypP m L) (bit m) := rfl; rw [e]; omega
  have HC := Lib.hid hc
  clear h hI he XM q0 q1 p0 p1 T0 HV hM1 hIY hL hlen hset hc
  go_enter Try.func19, Try.ntmps19
  go_upto_region 1 with fail
  generalize ((u.val.alloc (.cells #[.int .i64 m, .slice a (ints L).length cap] 24)).alloc (.cells #[.int .i64 0, .slice none 0 0] 24)) = Y at *
  generalize u.val.heap.size = gu at *
  have hBg : B ≤ gu + 1 := by omega
  go_upto_region 4 with (first | (go_at_call 47; ((with_reducible refine (KC.out).mono ?_); rintro e _ ⟨rfl, y, rfl⟩)))
  clear x0 x1 KC
  have r0 := z0 y
  have r1 := z1 y
  have HS1 : Hid ((decide ((s : Int) ∈ ints (those m (circP L)))) = decide (s ∈ those m (circP L))) := Lib.hid (by simp only [mem_ints])
  have HS2 : Hid ((decide ((s : Int) ∈ ints (those m (hypP m L)))) = decide (s ∈ those m (hypP m L))) := Lib.hid (by simp only [mem_ints])
  generalize those m (circP L) = C1 at *
  generalize those m (hypP m L) = C2 at *
  go_upto_region 5 with (first | (go_at_call 48; ((with_reducible refine (K1.out y).mono ?_); rintro e _ ⟨_, rfl, ⟨ad1, cp1, rfl, hO1⟩, v1, rfl⟩)))
  have r0' := z0 (y.up v1)
  have r1' := z1 (y.up v1)
  change v1.val.cell? _ = _ at r0' r1'
  have KH1 : Hid (∀ w : Later v1.val.heap.size v1.val, Calls Try.prog 29 #[.slice ad1 (ints C1).length cp1, .int .i64 s] w.val (Ret w.val.heap.size w.val (.bool (decide (s ∈ C1))))) := Lib.hid (fun w => by
    have := c_contains (Later.self w.val) (ints C1) (s : Int) ad1 cp1 (hO1.reads.to w) (by omega)
    rwa [HS1.out] at this)
  clear K1 r0 r1 hO1
  have K2v := Lib.hid (K2.out (y.up v1))
  change Hid (Calls _ _ _ v1.val _) at K2v
  clear K2
  go_upto_region 6 with (first | (go_at_call 49; ((with_reducible refine (K2v.out).mono ?_); rintro e _ ⟨_, rfl, ⟨ad2, cp2, rfl, hO2⟩, v2, rfl⟩)))
  have KH2 : Hid (∀ w : Later v2.val.heap.size v2.val, Calls Try.prog 29 #[.slice ad2 (ints C2).length cp2, .int .i64 s] w.val (Ret w.val.heap.size w.val (.bool (decide (s ∈ C2))))) := Lib.hid (fun w => by
    have := c_contains (Later.self w.val) (ints C2) (s : Int) ad2 cp2 (hO2.reads.to w) (by omega)
    rwa [HS2.out] at this)
  have KH1v := Lib.hid (KH1.out v2)
  have HZ : Hid (∃ z : Later Y.heap.size Y, z.val = v2.val) := Lib.hid ⟨(y.up v1).up v2, rfl⟩
  clear KH1 r0' r1' K2v hO2
  generalize (ints C1).length = l1 at *
  generalize (ints C2).length = l2 at *
  rcases btf (decide (s ∈ C1)) with g1 | g1
  · rw [g1] at KH1v
    rcases btf (decide (s ∈ C2)) with g2 | g2
    · rw [g2] at KH2
      have hcc : n' = m ∧ xs' = ints (those m (memB (L ++ [s]))) ∧ er = 0 := by
        rcases HC.out with ⟨_, _, h⟩ | ⟨h, _⟩
        · exact h
        · exact absurd ⟨of_decide_eq_true g1, of_decide_eq_true g2⟩ h
      obtain ⟨rfl, rfl, rfl⟩ := hcc
      clear HC g1 g2
      go_upto_region 8 with (first | (go_at_call 29; first | ((with_reducible refine (KH1v.out).mono ?_); rintro e _ ⟨rfl, v3, rfl⟩) | ((with_reducible refine (KH2.out v3).mono ?_); rintro e _ ⟨rfl, v4, rfl⟩)))
      obtain ⟨z, hz⟩ := later_up (later_up HZ.out v3) v4
      rw [← hz]
      have r0z := z0 z.drew
      have r1z := z1 z.drew
      have y0 := z0
      have y1 := z1
      have KLd : Hid (Calls Try.prog 46 #[.slice a (ints L).length cap] z.val.drew (RetOwn Y.heap.size Y (ints L))) := Lib.hid (c_clone z.drew (ints L) a cap HI.out (by rw [ints_len]; omega))
      have KLa : Hid (Calls Try.prog 46 #[.slice a (ints L).length cap] ((z.val.alloc (.cells #[.int .i64 s] 3)).drew) (RetOwn ((z.val.alloc (.cells #[.int .i64 s] 3)).drew).heap.size ((z.val.alloc (.cells #[.int .i64 s] 3)).drew) (ints L))) := Lib.hid (c_clone (Later.self _) (ints L) a cap (HI.out.to ((z.alloc _).drew)) (by rw [ints_len]; omega))
      have HZA : Hid (∀ w : Later ((z.val.alloc (.cells #[.int .i64 s] 3)).drew).heap.size ((z.val.alloc (.cells #[.int .i64 s] 3)).drew), ∃ w2 : Later Y.heap.size Y, w2.val = w.val) := Lib.hid (fun w => ⟨((z.alloc _).drew).up w, rfl⟩)
      have ya : ((z.val.alloc (.cells #[.int .i64 s] 3)).drew).cell? ⟨gu, 0, none⟩ = some (.int .i64 m) ∧ ((z.val.alloc (.cells #[.int .i64 s] 3)).drew).cell? ⟨gu, 1, none⟩ = some (.slice a (ints L).length cap) := ⟨y0 ((z.alloc _).drew), y1 ((z.alloc _).drew)⟩
      have yb : ∀ w : Later ((z.val.alloc (.cells #[.int .i64 s] 3)).drew).heap.size ((z.val.alloc (.cells #[.int .i64 s] 3)).drew), w.val.cell? ⟨gu, 0, none⟩ = some (.int .i64 m) ∧ w.val.cell? ⟨gu, 1, none⟩ = some (.slice a (ints L).length cap) := fun w => ⟨y0 (((z.alloc _).drew).up w), y1 (((z.alloc _).drew).up w)⟩
      have se : ∀ (w : Later Y.heap.size Y) (p q : Value), ((w.val.setCell ⟨gu + 1, 0, none⟩ p).setCell ⟨gu + 1, 1, none⟩ q).cell? ⟨gu, 0, none⟩ = some (.int .i64 m) ∧ ((w.val.setCell ⟨gu + 1, 0, none⟩ p).setCell ⟨gu + 1, 1, none⟩ q).cell? ⟨gu, 1, none⟩ = some (.slice a (ints L).length cap) := fun w p q => by
        constructor
        · rw [World.cell?_setCell_far _ _ _ _ (show gu + 1 ≠ gu by omega), World.cell?_setCell_far _ _ _ _ (show gu + 1 ≠ gu by omega)]; exact y0 w
        · rw [World.cell?_setCell_far _ _ _ _ (show gu + 1 ≠ gu by omega), World.cell?_setCell_far _ _ _ _ (show gu + 1 ≠ gu by omega)]; exact y1 w
      have hZs : Y.heap.size ≤ ((z.val.alloc (.cells #[.int .i64 s] 3)).drew).heap.size := (z.alloc _).drew.size
      have hcA : ∀ w : Later ((z.val.alloc (.cells #[.int .i64 s] 3)).drew).heap.size ((z.val.alloc (.cells #[.int .i64 s] 3)).drew), w.val.cell? ⟨z.val.heap.size, 0, none⟩ = some (.int .i64 s) := fun w => by
        rw [w.cell (show z.val.heap.size < ((z.val.alloc (.cells #[.int .i64 s] 3)).drew).heap.size by simp)]
        exact cell_one_new z.val (.int .i64 s) 3 0 _ rfl
      have KM : Hid (∀ (w : Later Y.heap.size Y) (ad : Option Addr) (cp : Nat), Own Y.heap.size w.val ad cp (ints L ++ [(s : Int)]) → Calls Try.prog 45 #[.int .i64 m, .slice ad ((ints L).length + 1) cp] w.val (RetP Y.heap.size Y (MatO w.val.heap.size m (ints (those m (memB (L ++ [s]))))))) := Lib.hid (fun w ad cp ho => by
        rw [← ints_snoc] at ho
        have e : (ints L).length + 1 = (ints (L ++ [s])).length := by rw [ints_snoc, List.length_append]; rfl
        rw [e]
        exact c_made w m m (L ++ [s]) HN.out hm (by rw [List.length_append]; simp; omega) ad cp ho)
      have hTl : (ints L).length + 1 ≤ 1099511627776 := by rw [ints_len]; omega
      have s0 : z.val.drew.cell? ⟨gu, 0, none⟩ = some (.int .i64 m) ∧ z.val.drew.cell? ⟨gu, 1, none⟩ = some (.slice a (ints L).length cap) := ⟨r0z, r1z⟩
      clear hz v3 v4 KH1v KH2 HZ HS1 HS2 r0z r1z
      have f0 : ∀ (w : Later Y.heap.size Y), w.val.cell? ⟨gu + 1, 0, none⟩ = some (.int .i64 0) := fun w => (HX.out.keep_at w.below hgr).cell rfl
      have z0 : ∀ (w : Later Y.heap.size Y), w.val.frozen? ⟨gu + 1, 0, none⟩ = false := fun w => (HX.out.keep_at w.below hgr).fz 0
      have f1 : ∀ (w : Later Y.heap.size Y) (x0 : Value), (w.val.setCell ⟨gu + 1, 0, none⟩ x0).cell? ⟨gu + 1, 1, none⟩ = some (.slice none 0 0) := fun w x0 => ((HX.out.keep_at w.below hgr).set 0 x0).cell rfl
      have z1 : ∀ (w : Later Y.heap.size Y) (x0 : Value), (w.val.setCell ⟨gu + 1, 0, none⟩ x0).frozen? ⟨gu + 1, 1, none⟩ = false := fun w x0 => ((HX.out.keep_at w.below hgr).set 0 x0).fz 1
      go_wp2_with fail
      go_region_held3 (fun w' => w'.cell? ⟨gu, 0, none⟩ = some (.int .i64 m) ∧ w'.cell? ⟨gu, 1, none⟩ = some (.slice a (ints L).length cap)) (first | exact s0 | exact ya | exact ⟨y0 v5, y1 v5⟩ | exact ⟨y0 (v5.alloc _), y1 (v5.alloc _)⟩ | exact ⟨y0 u2, y1 u2⟩ | exact yb v6 | exact ⟨y0 v8, y1 v8⟩ | exact se v8 _ _ | fail) (first | (go_at_call 46; (with_reducible refine (KLd.out).mono ?_); rintro e _ ⟨_, rfl, ⟨ad5, cp5, rfl, hO5⟩, v5, rfl⟩) | (go_at_call 46; (with_reducible refine (KLa.out).mono ?_); rintro e _ ⟨_, rfl, ⟨ad5, cp5, rfl, hO5⟩, v6, rfl⟩) | (refine step_push (B := Y.heap.size) (W := Y) (w := v5.val) v5.below v5.size (by rfl) _ _ (by rfl) (ints L) ad5 cp5 (s : Int) (by rfl) hO5 (by rfl) hTl ?_; intro u2 ad7 cp7 hown) | (refine step_pushAt (B := Y.heap.size) (W := Y) (w := v6.val) ((z.alloc _).drew.up v6).below ((z.alloc _).drew.up v6).size (by rfl) _ _ (by rfl) (ints L) ad5 cp5 (s : Int) (by rfl) (hO5.mono hZs) z.val.heap.size (by rfl) (hcA v6) hTl ?_; intro u2 ad7 cp7 hown) | (go_at_call 45; (with_reducible refine (KM.out u2 ad7 cp7 hown).mono ?_); rintro e _ ⟨_, rfl, ⟨ad3, cp3, rfl, hO3⟩, v8, rfl⟩) | fail)
      all_goals
        go_wp2
        refine bodyPost_ret (results_row (vs := [.int .i64 m, .slice ad3 (ints (those m (memB (L ++ [s])))).length cp3]) rfl _ _ (gu + 1) rfl (((HX.out.keep v8.below).set 0 _).set 1 _) Try.underlying24 (by kernel_rfl)) rfl ?_
        obtain ⟨x1, hx1⟩ := later_set (HVY.out v8) (g := gu + 1) (i := 0) hBg (.int .i64 m)
        obtain ⟨x2, hx2⟩ := later_set ⟨x1, hx1⟩ (g := gu + 1) (i := 1) hBg (.slice ad3 (ints (those m (memB (L ++ [s])))).length cp3)
        have hus := u2.size
        have hgu2 : gu + 1 < u2.val.heap.size := by omega
        exact RetP.of ⟨x2, hx2⟩ ⟨_, _, rfl, ((hO3.set hgu2 _).set hgu2 _).mono (Nat.le_trans hB (Nat.le_trans (by omega) hus))⟩
    · rw [g2] at KH2
      have hcc : n' = 0 ∧ xs' = [] ∧ er = 3 := by
        rcases HC.out with ⟨_, h2, _⟩ | ⟨_, h⟩
        · rw [decide_eq_true h2] at g2; cases g2
        · exact h
      obtain ⟨rfl, rfl, rfl⟩ := hcc
      clear HC g1 g2
      have y0 := z0
      have f0 : ∀ (w : Later Y.heap.size Y), w.val.cell? ⟨gu + 1, 0, none⟩ = some (.int .i64 0) := fun w => (HX.out.keep_at w.below hgr).cell rfl
      have z0 : ∀ (w : Later Y.heap.size Y), w.val.frozen? ⟨gu + 1, 0, none⟩ = false := fun w => (HX.out.keep_at w.below hgr).fz 0
      have f1 : ∀ (w : Later Y.heap.size Y) (x0 : Value), (w.val.setCell ⟨gu + 1, 0, none⟩ x0).cell? ⟨gu + 1, 1, none⟩ = some (.slice none 0 0) := fun w x0 => ((HX.out.keep_at w.below hgr).set 0 x0).cell rfl
      have z1 : ∀ (w : Later Y.heap.size Y) (x0 : Value), (w.val.setCell ⟨gu + 1, 0, none⟩ x0).frozen? ⟨gu + 1, 1, none⟩ = false := fun w x0 => ((HX.out.keep_at w.below hgr).set 0 x0).fz 1
      go_upto_region 7 with (first | (go_at_call 29; first | ((with_reducible refine (KH1v.out).mono ?_); rintro e _ ⟨rfl, v3, rfl⟩) | ((with_reducible refine (KH2.out v3).mono ?_); rintro e _ ⟨rfl, v4, rfl⟩)))
      obtain ⟨z, hz⟩ := later_up (later_up HZ.out v3) v4
      rw [← hz]
      clear hz
      go_wp2
      refine bodyPost_ret (results_row (vs := [.int .i64 0, .slice none 0 0]) rfl _ _ (gu + 1) rfl (((HX.out.keep z.below).set 0 _).set 1 _) Try.underlying24 (by kernel_rfl)) rfl ?_
      obtain ⟨y1, hy1⟩ := later_set (HVY.out z) (g := gu + 1) (i := 0) hBg (.int .i64 0)
      obtain ⟨y2, hy2⟩ := later_set ⟨y1, hy1⟩ (g := gu + 1) (i := 1) hBg (.slice none 0 0)
      exact RetP.of ⟨y2, hy2⟩ MatTO.no
  · rw [g1] at KH1v
    have hcc : n' = 0 ∧ xs' = [] ∧ er = 3 := by
      rcases HC.out with ⟨h2, _⟩ | ⟨_, h⟩
      · rw [decide_eq_true h2] at g1; cases g1
      · exact h
    obtain ⟨rfl, rfl, rfl⟩ := hcc
    clear HC g1
    have f0 : ∀ (w : Later Y.heap.size Y), w.val.cell? ⟨gu + 1, 0, none⟩ = some (.int .i64 0) := fun w => (HX.out.keep_at w.below hgr).cell rfl
    have z0 : ∀ (w : Later Y.heap.size Y), w.val.frozen? ⟨gu + 1, 0, none⟩ = false := fun w => (HX.out.keep_at w.below hgr).fz 0
    have f1 : ∀ (w : Later Y.heap.size Y) (x0 : Value), (w.val.setCell ⟨gu + 1, 0, none⟩ x0).cell? ⟨gu + 1, 1, none⟩ = some (.slice none 0 0) := fun w x0 => ((HX.out.keep_at w.below hgr).set 0 x0).cell rfl
    have z1 : ∀ (w : Later Y.heap.size Y) (x0 : Value), (w.val.setCell ⟨gu + 1, 0, none⟩ x0).frozen? ⟨gu + 1, 1, none⟩ = false := fun w x0 => ((HX.out.keep_at w.below hgr).set 0 x0).fz 1
    go_upto_region 7 with (first | (go_at_call 29; first | ((with_reducible refine (KH1v.out).mono ?_); rintro e _ ⟨rfl, v3, rfl⟩)))
    obtain ⟨z, hz⟩ := later_up HZ.out v3
    rw [← hz]
    clear hz
    go_wp2
    refine bodyPost_ret (results_row (vs := [.int .i64 0, .slice none 0 0]) rfl _ _ (gu + 1) rfl (((HX.out.keep z.below).set 0 _).set 1 _) Try.underlying24 (by kernel_rfl)) rfl ?_
    obtain ⟨y1, hy1⟩ := later_set (HVY.out z) (g := gu + 1) (i := 0) hBg (.int .i64 0)
    obtain ⟨y2, hy2⟩ := later_set ⟨y1, hy1⟩ (g := gu + 1) (i := 1) hBg (.slice none 0 0)
    exact RetP.of ⟨y2, hy2⟩ MatTO.no

end Go.Proofs.Ytefkhnibempibaa
