
/-
  same.Rename.
-/
import Derived.Test.YtdcdhdlklppalaaPk32
import Derived.Deep.RegionLaw
namespace Go.Proofs.Ytdcdhdlklppalaa
open Go.RowKit
set_option linter.unusedVariables false

theorem toN_intsS (L : List Nat) : toN (ints L) = L := by unfold toN ints; rw [List.map_map]; exact (List.map_congr_left (fun x _ => by rfl)).trans (List.map_id _)
noncomputable def rnmN (m : Nat) (p : List Int) : Int := if isOrd m p then (m : Int) else 0
noncomputable def rnmX (m : Nat) (p : List Int) (L : List Nat) : List Int := if isOrd m p then ren (toN p) L else []
noncomputable def rnmE (m : Nat) (p : List Int) : Int := if isOrd m p then 0 else 1

set_option maxRecDepth 100000 in
set_option maxHeartbeats 4000000 in
theorem c_sameRename_no {B : Nat} {W : World} (u : Later B W) (n : Int) (l : List Int) (a : Option Addr) (cap : Nat) (e : Int) (h : IntsAt B W a l) (hlen : l.length ≤ 4611686018427387904) (he : MatIs n l e) (h0 : e ≠ 0) (x : Value) :
    Calls Try.prog 11 #[.agg #[.int .i64 n, .slice a l.length cap], x] u.val (RetP B W (MatTO B 0 [] e)) := by
  have hB := u.size
  have T0 : Hid (Two (u.val.alloc (.cells #[.int .i64 n, .slice a l.length cap] 24)) u.val.heap.size 24 (.int .i64 n) (.slice a l.length cap)) := Lib.hid (Two.new _ _ _ _)
  have hrr : u.val.heap.size < (u.val.alloc (.cells #[.int .i64 n, .slice a l.length cap] 24)).heap.size := by simp
  have hI : IntsAt (u.val.alloc (.cells #[.int .i64 n, .slice a l.length cap] 24)).heap.size (u.val.alloc (.cells #[.int .i64 n, .slice a l.length cap] 24)) a l := h.to (u.alloc _)
  have HV : Hid (∀ v : Later (u.val.alloc (.cells #[.int .i64 n, .slice a l.length cap] 24)).heap.size (u.val.alloc (.cells #[.int .i64 n, .slice a l.length cap] 24)), ∃ w : Later B W, w.val = v.val) := Lib.hid (fun v => ⟨(u.alloc _).up v, rfl⟩)
  have q0 : ∀ w : Later (u.val.alloc (.cells #[.int .i64 n, .slice a l.length cap] 24)).heap.size (u.val.alloc (.cells #[.int .i64 n, .slice a l.length cap] 24)), w.val.cell? ⟨u.val.heap.size, 0, none⟩ = some (.int .i64 n) := fun w => (T0.out.keep w.below).c0
  have q1 : ∀ w : Later (u.val.alloc (.cells #[.int .i64 n, .slice a l.length cap] 24)).heap.size (u.val.alloc (.cells #[.int .i64 n, .slice a l.length cap] 24)), w.val.cell? ⟨u.val.heap.size, 1, none⟩ = some (.slice a l.length cap) := fun w => (T0.out.keep w.below).c1
  have p0 : (u.val.alloc (.cells #[.int .i64 n, .slice a l.length cap] 24)).cell? ⟨u.val.heap.size, 0, none⟩ = some (.int .i64 n) := T0.out.c0
  have p1 : (u.val.alloc (.cells #[.int .i64 n, .slice a l.length cap] 24)).cell? ⟨u.val.heap.size, 1, none⟩ = some (.slice a l.length cap) := T0.out.c1
  have hM1 : (u.val.alloc (.cells #[.int .i64 n, .slice a l.length cap] 24)).heap.size = u.val.heap.size + 1 := by simp
  have XM : RowL ((u.val.alloc (.cells #[.int .i64 n, .slice a l.length cap] 24)).alloc (.cells #[.int .i64 0, .slice none 0 0] 24)) (u.val.alloc (.cells #[.int .i64 n, .slice a l.length cap] 24)).heap.size 24 [.int .i64 0, .slice none 0 0] := RowL.new _ _ _
  rw [hM1] at XM
  have HX := Lib.hid XM
  have hgr : u.val.heap.size + 1 < ((u.val.alloc (.cells #[.int .i64 n, .slice a l.length cap] 24)).alloc (.cells #[.int .i64 0, .slice none 0 0] 24)).heap.size := XM.lt
  have KC : Hid (Calls Try.prog 33 #[.agg #[.int .i64 n, .slice a l.length cap]] ((u.val.alloc (.cells #[.int .i64 n, .slice a l.length cap] 24)).alloc (.cells #[.int .i64 0, .slice none 0 0] 24)) (Ret ((u.val.alloc (.cells #[.int .i64 n, .slice a l.length cap] 24)).alloc (.cells #[.int .i64 0, .slice none 0 0] 24)).heap.size ((u.val.alloc (.cells #[.int .i64 n, .slice a l.length cap] 24)).alloc (.cells #[.int .i64 0, .slice none 0 0] 24)) (.int .i64 e))) := Lib.hid (c_axCheck (Later.self _) n l a cap e (hI.to ((Later.self (u.val.alloc (.cells #[.int .i64 n, .slice a l.length cap] 24))).alloc _)) hlen he)
  have d0 : (e != 0) = true := by rw [bne_iff_ne]; exact h0
  have z0 : ((u.val.alloc (.cells #[.int .i64 n, .slice a l.length cap] 24)).alloc (.cells #[.int .i64 0, .slice none 0 0] 24)).cell? ⟨u.val.heap.size, 0, none⟩ = some (.int .i64 n) := q0 ((Later.self (u.val.alloc (.cells #[.int .i64 n, .slice a l.length cap] 24))).alloc _)
  have z1 : ((u.val.alloc (.cells #[.int .i64 n, .slice a l.length cap] 24)).alloc (.cells #[.int .i64 0, .slice none 0 0] 24)).cell? ⟨u.val.heap.size, 1, none⟩ = some (.slice a l.length cap) := q1 ((Later.self (u.val.alloc (.cells #[.int .i64 n, .slice a l.length cap] 24))).alloc _)
  have HVY : Hid (∀ v : Later ((u.val.alloc (.cells #[.int .i64 n, .slice a l.length cap] 24)).alloc (.cells #[.int .i64 0, .slice none 0 0] 24)).heap.size ((u.val.alloc (.cells #[.int .i64 n, .slice a l.length cap] 24)).alloc (.cells #[.int .i64 0, .slice none 0 0] 24)), ∃ w : Later B W, w.val = v.val) := Lib.hid (fun v => ⟨((u.alloc _).alloc _).up v, rfl⟩)
  clear h hI he h0 XM q0 q1 p0 p1 T0 HV hM1
  go_enter Try.func11, Try.ntmps11
  go_upto_region 1 with fail
  generalize ((u.val.alloc (.cells #[.int .i64 n, .slice a l.length cap] 24)).alloc (.cells #[.int .i64 0, .slice none 0 0] 24)) = Y at *
  generalize u.val.heap.size = gu at *
  have hBg : B ≤ gu + 1 := by omega
  have f0 : ∀ (w : Later Y.heap.size Y), w.val.cell? ⟨gu + 1, 0, none⟩ = some (.int .i64 0) := fun w => (HX.out.keep_at w.below hgr).cell rfl
  have z0 : ∀ (w : Later Y.heap.size Y), w.val.frozen? ⟨gu + 1, 0, none⟩ = false := fun w => (HX.out.keep_at w.below hgr).fz 0
  have f1 : ∀ (w : Later Y.heap.size Y) (x0 : Value), (w.val.setCell ⟨gu + 1, 0, none⟩ x0).cell? ⟨gu + 1, 1, none⟩ = some (.slice none 0 0) := fun w x0 => ((HX.out.keep_at w.below hgr).set 0 x0).cell rfl
  have z1 : ∀ (w : Later Y.heap.size Y) (x0 : Value), (w.val.setCell ⟨gu + 1, 0, none⟩ x0).frozen? ⟨gu + 1, 1, none⟩ = false := fun w x0 => ((HX.out.keep_at w.below hgr).set 0 x0).fz 1
  go_wp2_with (first | (go_at_call 33; (with_reducible refine (KC.out).mono ?_); rintro e _ ⟨rfl, v1, rfl⟩))
  refine bodyPost_ret (results_row (vs := [.int .i64 0, .slice none 0 0]) rfl _ _ (gu + 1) rfl (((HX.out.keep v1.below).set 0 _).set 1 _) Try.underlying24 (by kernel_rfl)) rfl ?_
  obtain ⟨y1, hy1⟩ := later_set (HVY.out v1) (g := gu + 1) (i := 0) hBg (.int .i64 0)
  obtain ⟨y2, hy2⟩ := later_set ⟨y1, hy1⟩ (g := gu + 1) (i := 1) hBg (.slice none 0 0)
  exact RetP.of ⟨y2, hy2⟩ MatTO.no

set_option maxRecDepth 100000 in
set_option maxHeartbeats 8000000 in
theorem c_sameRename {B : Nat} {W : World} (u : Later B W) (m : Nat) (hm : m ≤ 8) (L : List Nat) (hL : ∀ b, b ∈ L → b < bit m) (hL2 : L.length ≤ 1048576) (a b : Option Addr) (cap capb : Nat) (h : IntsAt B W a (ints L)) (he : MatIs (m : Int) (ints L) 0) (p : List Int) (hp : IntsAt B W b p) (hpl : p.length ≤ 4611686018427387904) (hcap : p.length ≤ capb) :
    Calls Try.prog 11 #[.agg #[.int .i64 m, .slice a L.length cap], .slice b p.length capb] u.val (RetP B W (MatTO B (rnmN m p) (rnmX m p L) (rnmE m p))) := by
  have hB := u.size
  have hb := bit_le m hm
  have hil : (ints L).length = L.length := ints_len L
  have hM1 : (u.val.alloc (.cells #[.int .i64 m, .slice a L.length cap] 24)).heap.size = u.val.heap.size + 1 := by simp
  have XM : RowL ((u.val.alloc (.cells #[.int .i64 m, .slice a L.length cap] 24)).alloc (.cells #[.int .i64 0, .slice none 0 0] 24)) (u.val.alloc (.cells #[.int .i64 m, .slice a L.length cap] 24)).heap.size 24 [.int .i64 0, .slice none 0 0] := RowL.new _ _ _
  have XA : RowL ((u.val.alloc (.cells #[.int .i64 m, .slice a L.length cap] 24)).alloc (.cells #[.int .i64 0, .slice none 0 0] 24)) u.val.heap.size 24 [.int .i64 m, .slice a L.length cap] := (RowL.new _ _ _).keep ((Below.refl _ _).alloc (Nat.le_refl _) _)
  rw [hM1] at XM
  have HX := Lib.hid XM
  have hgr : u.val.heap.size + 1 < ((u.val.alloc (.cells #[.int .i64 m, .slice a L.length cap] 24)).alloc (.cells #[.int .i64 0, .slice none 0 0] 24)).heap.size := XM.lt
  have hIY : IntsAt ((u.val.alloc (.cells #[.int .i64 m, .slice a L.length cap] 24)).alloc (.cells #[.int .i64 0, .slice none 0 0] 24)).heap.size ((u.val.alloc (.cells #[.int .i64 m, .slice a L.length cap] 24)).alloc (.cells #[.int .i64 0, .slice none 0 0] 24)) a (ints L) := h.to ((u.alloc _).alloc _)
  have hPY : IntsAt ((u.val.alloc (.cells #[.int .i64 m, .slice a L.length cap] 24)).alloc (.cells #[.int .i64 0, .slice none 0 0] 24)).heap.size ((u.val.alloc (.cells #[.int .i64 m, .slice a L.length cap] 24)).alloc (.cells #[.int .i64 0, .slice none 0 0] 24)) b p := hp.to ((u.alloc _).alloc _)
  have KC : Hid (Calls Try.prog 33 #[.agg #[.int .i64 m, .slice a L.length cap]] ((u.val.alloc (.cells #[.int .i64 m, .slice a L.length cap] 24)).alloc (.cells #[.int .i64 0, .slice none 0 0] 24)) (Ret ((u.val.alloc (.cells #[.int .i64 m, .slice a L.length cap] 24)).alloc (.cells #[.int .i64 0, .slice none 0 0] 24)).heap.size ((u.val.alloc (.cells #[.int .i64 m, .slice a L.length cap] 24)).alloc (.cells #[.int .i64 0, .slice none 0 0] 24)) (.int .i64 0))) := Lib.hid (by
    have := c_axCheck (Later.self ((u.val.alloc (.cells #[.int .i64 m, .slice a L.length cap] 24)).alloc (.cells #[.int .i64 0, .slice none 0 0] 24))) m (ints L) a cap 0 hIY (by omega) he
    rwa [hil] at this)
  have KO : Hid (∀ v : Later ((u.val.alloc (.cells #[.int .i64 m, .slice a L.length cap] 24)).alloc (.cells #[.int .i64 0, .slice none 0 0] 24)).heap.size ((u.val.alloc (.cells #[.int .i64 m, .slice a L.length cap] 24)).alloc (.cells #[.int .i64 0, .slice none 0 0] 24)), Calls Try.prog 34 #[.slice b p.length capb, .int .i64 m] v.val (Ret ((u.val.alloc (.cells #[.int .i64 m, .slice a L.length cap] 24)).alloc (.cells #[.int .i64 0, .slice none 0 0] 24)).heap.size ((u.val.alloc (.cells #[.int .i64 m, .slice a L.length cap] 24)).alloc (.cells #[.int .i64 0, .slice none 0 0] 24)) (.bool (decide (isOrd m p))))) := Lib.hid (fun v => c_sameOrder v m hm p b capb hPY hpl hcap)
  have KR : Hid (isOrd m p → ∀ v : Later ((u.val.alloc (.cells #[.int .i64 m, .slice a L.length cap] 24)).alloc (.cells #[.int .i64 0, .slice none 0 0] 24)).heap.size ((u.val.alloc (.cells #[.int .i64 m, .slice a L.length cap] 24)).alloc (.cells #[.int .i64 0, .slice none 0 0] 24)), Calls Try.prog 35 #[.agg #[.int .i64 m, .slice a L.length cap], .slice b p.length capb] v.val (RetOwn ((u.val.alloc (.cells #[.int .i64 m, .slice a L.length cap] 24)).alloc (.cells #[.int .i64 0, .slice none 0 0] 24)).heap.size ((u.val.alloc (.cells #[.int .i64 m, .slice a L.length cap] 24)).alloc (.cells #[.int .i64 0, .slice none 0 0] 24)) (ren (toN p) L))) := Lib.hid (fun ho v => by
    obtain ⟨O, hO, hOl, hO2, _⟩ := isOrd_open hm ho
    have e1 : toN p = O := by rw [hO]; exact toN_intsS O
    have e2 : p.length = O.length := by rw [hO, ints_len]
    rw [e1, e2]
    rw [hO] at hPY
    exact c_sameRenamed v m L O (fun x hx => by have := hL x hx; omega) hL2 a b cap capb hIY hPY (fun i hi => by have := hO2 i (by omega); omega) (by omega))
  have k0 : ∀ w : Later ((u.val.alloc (.cells #[.int .i64 m, .slice a L.length cap] 24)).alloc (.cells #[.int .i64 0, .slice none 0 0] 24)).heap.size ((u.val.alloc (.cells #[.int .i64 m, .slice a L.length cap] 24)).alloc (.cells #[.int .i64 0, .slice none 0 0] 24)), w.val.cell? ⟨u.val.heap.size, 0, none⟩ = some (.int .i64 m) := fun w => (XA.keep w.below).cell rfl
  have k1 : ∀ w : Later ((u.val.alloc (.cells #[.int .i64 m, .slice a L.length cap] 24)).alloc (.cells #[.int .i64 0, .slice none 0 0] 24)).heap.size ((u.val.alloc (.cells #[.int .i64 m, .slice a L.length cap] 24)).alloc (.cells #[.int .i64 0, .slice none 0 0] 24)), w.val.cell? ⟨u.val.heap.size, 1, none⟩ = some (.slice a L.length cap) := fun w => (XA.keep w.below).cell rfl
  have x0 : ((u.val.alloc (.cells #[.int .i64 m, .slice a L.length cap] 24)).alloc (.cells #[.int .i64 0, .slice none 0 0] 24)).cell? ⟨u.val.heap.size, 0, none⟩ = some (.int .i64 m) := k0 (Later.self _)
  have x1 : ((u.val.alloc (.cells #[.int .i64 m, .slice a L.length cap] 24)).alloc (.cells #[.int .i64 0, .slice none 0 0] 24)).cell? ⟨u.val.heap.size, 1, none⟩ = some (.slice a L.length cap) := k1 (Later.self _)
  have HVY : Hid (∀ v : Later ((u.val.alloc (.cells #[.int .i64 m, .slice a L.length cap] 24)).alloc (.cells #[.int .i64 0, .slice none 0 0] 24)).heap.size ((u.val.alloc (.cells #[.int .i64 m, .slice a L.length cap] 24)).alloc (.cells #[.int .i64 0, .slice none 0 0] 24)), ∃ w : Later B W, w.val = v.val) := Lib.hid (fun v => ⟨((u.alloc _).alloc _).up v, rfl⟩)
  have HN1 : Hid (isOrd m p → rnmN m p = m ∧ rnmX m p L = ren (toN p) L ∧ rnmE m p = 0) := Lib.hid (fun h => ⟨if_pos h, if_pos h, if_pos h⟩)
  have HN2 : Hid (¬ isOrd m p → rnmN m p = 0 ∧ rnmX m p L = [] ∧ rnmE m p = 1) := Lib.hid (fun h => ⟨if_neg h, if_neg h, if_neg h⟩)
  have hsY : u.val.heap.size + 2 ≤ ((u.val.alloc (.cells #[.int .i64 m, .slice a L.length cap] 24)).alloc (.cells #[.int .i64 0, .slice none 0 0] 24)).heap.size := by simp
  clear h hp he XM XA hM1 hIY hPY hL hil hpl hcap
  generalize rnmN m p = rN at *
  generalize rnmX m p L = rX at *
  generalize rnmE m p = rE at *
  generalize ren (toN p) L = A at *
  go_enter Try.func11, Try.ntmps11
  go_upto_region 1 with fail
  generalize ((u.val.alloc (.cells #[.int .i64 m, .slice a L.length cap] 24)).alloc (.cells #[.int .i64 0, .slice none 0 0] 24)) = Y at *
  generalize u.val.heap.size = gu at *
  have hBg : B ≤ gu + 1 := by omega
  have hg2 : gu + 1 < Y.heap.size := by omega
  have f0 : ∀ (w : Later Y.heap.size Y), w.val.cell? ⟨gu + 1, 0, none⟩ = some (.int .i64 0) := fun w => (HX.out.keep_at w.below hg2).cell rfl
  have z0 : ∀ (w : Later Y.heap.size Y), w.val.frozen? ⟨gu + 1, 0, none⟩ = false := fun w => (HX.out.keep_at w.below hg2).fz 0
  have f1 : ∀ (w : Later Y.heap.size Y) (x0 : Value), (w.val.setCell ⟨gu + 1, 0, none⟩ x0).cell? ⟨gu + 1, 1, none⟩ = some (.slice none 0 0) := fun w x0 => ((HX.out.keep_at w.below hg2).set 0 x0).cell rfl
  have z1 : ∀ (w : Later Y.heap.size Y) (x0 : Value), (w.val.setCell ⟨gu + 1, 0, none⟩ x0).frozen? ⟨gu + 1, 1, none⟩ = false := fun w x0 => ((HX.out.keep_at w.below hg2).set 0 x0).fz 1
  go_upto_region 4 with (first | (go_at_call 33; ((with_reducible refine (KC.out).mono ?_); rintro e _ ⟨rfl, y, rfl⟩)))
  clear x0 x1 KC
  have y0 := k0 y
  by_cases ho : isOrd m p
  case neg =>
    obtain ⟨rfl, rfl, rfl⟩ := HN2.out ho
    have K2 := Lib.hid (KO.out y)
    rw [decide_eq_false ho] at K2
    clear HN1 HN2 KO KR ho
    go_wp2_with (first | (go_at_call 34; (with_reducible refine (K2.out).mono ?_); rintro e _ ⟨rfl, v1, rfl⟩))
    refine bodyPost_ret (results_row (vs := [.int .i64 0, .slice none 0 0]) rfl _ _ (gu + 1) rfl (((HX.out.keep v1.below).set 0 _).set 1 _) Try.underlying24 (by kernel_rfl)) rfl ?_
    obtain ⟨y1, hy1⟩ := later_set (HVY.out v1) (g := gu + 1) (i := 0) hBg (.int .i64 0)
    obtain ⟨y2, hy2⟩ := later_set ⟨y1, hy1⟩ (g := gu + 1) (i := 1) hBg (.slice none 0 0)
    exact RetP.of ⟨y2, hy2⟩ MatTO.no
  obtain ⟨e1, e2, e3⟩ := HN1.out ho
  subst e1 e3
  have e2 := e2.symm
  subst e2
  have K2 := Lib.hid (KO.out y)
  rw [decide_eq_true ho] at K2
  have KR2 := Lib.hid (KR.out ho)
  clear HN1 HN2 KO KR ho
  go_upto_region 6 with (first | (go_at_call 34; ((with_reducible refine (K2.out).mono ?_); rintro e _ ⟨rfl, y2, rfl⟩)))
  clear K2 y0
  have KRd : Hid (Calls Try.prog 35 #[.agg #[.int .i64 m, .slice a L.length cap], .slice b p.length capb] y2.val.drew (RetOwn Y.heap.size Y A)) := Lib.hid (KR2.out y2.drew)
  have s0 : y2.val.drew.cell? ⟨gu, 0, none⟩ = some (.int .i64 m) ∧ y2.val.drew.cell? ⟨gu, 1, none⟩ = some (.slice a L.length cap) := ⟨k0 y2.drew, k1 y2.drew⟩
  have se : ∀ (w : Later Y.heap.size Y) (x z : Value), ((w.val.setCell ⟨gu + 1, 0, none⟩ x).setCell ⟨gu + 1, 1, none⟩ z).cell? ⟨gu, 0, none⟩ = some (.int .i64 m) ∧ ((w.val.setCell ⟨gu + 1, 0, none⟩ x).setCell ⟨gu + 1, 1, none⟩ z).cell? ⟨gu, 1, none⟩ = some (.slice a L.length cap) := fun w x z => by
    rw [World.cell?_setCell_far _ _ _ _ (show gu + 1 ≠ gu by omega), World.cell?_setCell_far _ _ _ _ (show gu + 1 ≠ gu by omega), World.cell?_setCell_far _ _ _ _ (show gu + 1 ≠ gu by omega), World.cell?_setCell_far _ _ _ _ (show gu + 1 ≠ gu by omega)]
    exact ⟨k0 w, k1 w⟩
  go_region_held3 (fun w' => w'.cell? ⟨gu, 0, none⟩ = some (.int .i64 m) ∧ w'.cell? ⟨gu, 1, none⟩ = some (.slice a L.length cap)) (first | exact s0 | exact ⟨k0 y3, k1 y3⟩ | exact se y3 _ _ | fail) (first | (go_at_call 35; (with_reducible refine (KRd.out).mono ?_); rintro e _ ⟨_, rfl, ⟨ad, cp, rfl, hO⟩, y3, rfl⟩) | fail)
  go_wp2
  refine bodyPost_ret (results_row (vs := [.int .i64 m, .slice ad A.length cp]) rfl _ _ (gu + 1) rfl (((HX.out.keep y3.below).set 0 _).set 1 _) Try.underlying24 (by kernel_rfl)) rfl ?_
  obtain ⟨k1', hz1⟩ := later_set (HVY.out y3) (g := gu + 1) (i := 0) hBg (.int .i64 m)
  obtain ⟨z2', hz2⟩ := later_set ⟨k1', hz1⟩ (g := gu + 1) (i := 1) hBg (.slice ad A.length cp)
  exact RetP.of ⟨z2', hz2⟩ ⟨_, _, rfl, ((hO.set hg2 _).set hg2 _).mono (by omega)⟩
end Go.Proofs.Ytdcdhdlklppalaa
