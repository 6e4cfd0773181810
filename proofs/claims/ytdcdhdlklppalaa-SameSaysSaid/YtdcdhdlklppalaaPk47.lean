
/-
  same.Canon.
-/
import Derived.Test.YtdcdhdlklppalaaPk45
import Derived.Test.YtdcdhdlklppalaaPk46
import Derived.Test.YtdcdhdlklppalaaPk34
namespace Go.Proofs.Ytdcdhdlklppalaa
open Go.RowKit
set_option linter.unusedVariables false

def madeS (w : World) (ba bb n : Nat) : World := ((w.alloc (.cells (madeCells #[.int .i64 0] n) 3)).alloc (.cells #[.slice (some ⟨w.heap.size, 0, none⟩) n n] 22)).alloc (.cells #[.func (.func 42) #[] #[.pointer (some ⟨ba, 0, none⟩), .pointer (some ⟨w.heap.size + 1, 0, none⟩), .pointer (some ⟨bb, 0, none⟩), .pointer (some ⟨w.heap.size + 2, 0, none⟩)]] 59)
theorem madeS_size (w : World) (ba bb n : Nat) : (madeS w ba bb n).heap.size = w.heap.size + 3 := by simp [madeS]
theorem madeS_below (w : World) (ba bb n : Nat) : Below w.heap.size w (madeS w ba bb n) := by
  unfold madeS
  refine Below.alloc (Below.alloc (Below.alloc (Below.refl _ _) ?_ _) ?_ _) ?_ _ <;> simp <;> omega
theorem madeS_cells (w : World) (ba bb n : Nat) : ITab (madeS w ba bb n) w.heap.size n (fun _ => 0) ∧ RowAt1 (madeS w ba bb n) (w.heap.size + 1) 22 (.slice (some ⟨w.heap.size, 0, none⟩) n n) ∧ RowAt1 (madeS w ba bb n) (w.heap.size + 2) 59 (.func (.func 42) #[] #[.pointer (some ⟨ba, 0, none⟩), .pointer (some ⟨w.heap.size + 1, 0, none⟩), .pointer (some ⟨bb, 0, none⟩), .pointer (some ⟨w.heap.size + 2, 0, none⟩)]) := by
  refine ⟨?_, ?_, ?_⟩
  · exact ((ITab.made w n).keep ((Below.refl _ _).alloc (Nat.le_refl _) _)).keep ((Below.refl _ _).alloc (Nat.le_refl _) _)
  · have h := heap_alloc_new (w.alloc (.cells (madeCells #[.int .i64 0] n) 3)) (.cells #[.slice (some ⟨w.heap.size, 0, none⟩) n n] 22)
    rw [show (w.alloc (.cells (madeCells #[.int .i64 0] n) 3)).heap.size = w.heap.size + 1 by simp] at h
    exact row1_under h _
  · have h := heap_alloc_new ((w.alloc (.cells (madeCells #[.int .i64 0] n) 3)).alloc (.cells #[.slice (some ⟨w.heap.size, 0, none⟩) n n] 22)) (.cells #[.func (.func 42) #[] #[.pointer (some ⟨ba, 0, none⟩), .pointer (some ⟨w.heap.size + 1, 0, none⟩), .pointer (some ⟨bb, 0, none⟩), .pointer (some ⟨w.heap.size + 2, 0, none⟩)]] 59)
    rw [show ((w.alloc (.cells (madeCells #[.int .i64 0] n) 3)).alloc (.cells #[.slice (some ⟨w.heap.size, 0, none⟩) n n] 22)).heap.size = w.heap.size + 2 by simp] at h
    exact h

set_option maxRecDepth 100000 in
set_option maxHeartbeats 4000000 in
theorem c_sameCanon_no {B : Nat} {W : World} (u : Later B W) (n : Int) (l : List Int) (a : Option Addr) (cap : Nat) (e : Int) (h : IntsAt B W a l) (hlen : l.length ≤ 4611686018427387904) (he : MatIs n l e) (h0 : e ≠ 0) :
    Calls Try.prog 15 #[.agg #[.int .i64 n, .slice a l.length cap]] u.val (RetP B W (MatTO B 0 [] e)) := by
  have hB := u.size
  have T0 : Hid (Two (u.val.alloc (.cells #[.int .i64 n, .slice a l.length cap] 24)) u.val.heap.size 24 (.int .i64 n) (.slice a l.length cap)) := Lib.hid (Two.new _ _ _ _)
  have hrr : u.val.heap.size < (u.val.alloc (.cells #[.int .i64 n, .slice a l.length cap] 24)).heap.size := by simp
  have hI : IntsAt (u.val.alloc (.cells #[.int .i64 n, .slice a l.length cap] 24)).heap.size (u.val.alloc (.cells #[.int .i64 n, .slice a l.length cap] 24)) a l := h.to (u.alloc _)
  have HV : Hid (∀ v : Later (u.val.alloc (.cells #[.int .i64 n, .slice a l.length cap] 24)).heap.size (u.val.alloc (.cells #[.int .i64 n, .slice a l.length cap] 24)), ∃ w : Later B W, w.val = v.val) := Lib.hid (fun v => ⟨(u.alloc _).up v, rfl⟩)
  have q0 : ∀ w : Later (u.val.alloc (.cells #[.int .i64 n, .slice a l.length cap] 24)).heap.size (u.val.alloc (.cells #[.int .i64 n, .slice a l.length cap] 24)), w.val.cell? ⟨u.val.heap.size, 0, none⟩ = some (.int .i64 n) := fun w => (T0.out.keep w.below).c0
  have q1 : ∀ w : Later (u.val.alloc (.cells #[.int .i64 n, .slice a l.length cap] 24)).heap.size (u.val.alloc (.cells #[.int .i64 n, .slice a l.length cap] 24)), w.val.cell? ⟨u.val.heap.size, 1, none⟩ = some (.slice a l.length cap) := fun w => (T0.out.keep w.below).c1
  have p0 : (u.val.alloc (.cells #[.int .i64 n, .slice a l.length cap] 24)).cell? ⟨u.val.heap.size, 0, none⟩ = some (.int .i64 n) := T0.out.c0
  have p1 : (u.val.alloc (.cells #[.int .i64 n, .slice a l.length cap] 24)).cell? ⟨u.val.heap.size, 1, none⟩ = some (.slice a l.length cap) := T0.out.c1
  have hM1 : (u.val.alloc (.cells #[.int .i64 n, .slice a l.length cap] 24)).heap.size = u.val.heap.size + 1 := by simp
  have XM : RowL ((u.val.alloc (.cells #[.int .i64 n, .slice a l.length cap] 24)).alloc (.cells #[.int .i64 0, .slice none 0 0] 24)) (u.val.alloc (.cells #[.int .i64 n, .slice a l.length cap] 24)).heap.size 24 [.int .i64 0, .slice none 0 0] := RowL.new _ _ _
  rw [hM1] at XM
  have HX := Lib.hid XM
  have hgr : u.val.heap.size + 1 < ((u.val.alloc (.cells #[.int .i64 n, .slice a l.length cap] 24)).alloc (.cells #[.int .i64 0, .slice none 0 0] 24)).heap.size := XM.lt
  have KC : Hid (Calls Try.prog 33 #[.agg #[.int .i64 n, .slice a l.length cap]] ((u.val.alloc (.cells #[.int .i64 n, .slice a l.length cap] 24)).alloc (.cells #[.int .i64 0, .slice none 0 0] 24)) (Ret ((u.val.alloc (.cells #[.int .i64 n, .slice a l.length cap] 24)).alloc (.cells #[.int .i64 0, .slice none 0 0] 24)).heap.size ((u.val.alloc (.cells #[.int .i64 n, .slice a l.length cap] 24)).alloc (.cells #[.int .i64 0, .slice none 0 0] 24)) (.int .i64 e))) := Lib.hid (c_axCheck (Later.self _) n l a cap e (hI.to ((Later.self (u.val.alloc (.cells #[.int .i64 n, .slice a l.length cap] 24))).alloc _)) hlen he)
  have d0 : (e != 0) = true := by rw [bne_iff_ne]; exact h0
  have z0 : ((u.val.alloc (.cells #[.int .i64 n, .slice a l.length cap] 24)).alloc (.cells #[.int .i64 0, .slice none 0 0] 24)).cell? ⟨u.val.heap.size, 0, none⟩ = some (.int .i64 n) := q0 ((Later.self (u.val.alloc (.cells #[.int .i64 n, .slice a l.length cap] 24))).alloc _)
  have z1 : ((u.val.alloc (.cells #[.int .i64 n, .slice a l.length cap] 24)).alloc (.cells #[.int .i64 0, .slice none 0 0] 24)).cell? ⟨u.val.heap.size, 1, none⟩ = some (.slice a l.length cap) := q1 ((Later.self (u.val.alloc (.cells #[.int .i64 n, .slice a l.length cap] 24))).alloc _)
  have HVY : Hid (∀ v : Later ((u.val.alloc (.cells #[.int .i64 n, .slice a l.length cap] 24)).alloc (.cells #[.int .i64 0, .slice none 0 0] 24)).heap.size ((u.val.alloc (.cells #[.int .i64 n, .slice a l.length cap] 24)).alloc (.cells #[.int .i64 0, .slice none 0 0] 24)), ∃ w : Later B W, w.val = v.val) := Lib.hid (fun v => ⟨((u.alloc _).alloc _).up v, rfl⟩)
  clear h hI he h0 XM q0 q1 p0 p1 T0 HV hM1
  go_enter Try.func15, Try.ntmps15
  go_upto_region 1 with fail
  generalize ((u.val.alloc (.cells #[.int .i64 n, .slice a l.length cap] 24)).alloc (.cells #[.int .i64 0, .slice none 0 0] 24)) = Y at *
  generalize u.val.heap.size = gu at *
  have hBg : B ≤ gu + 1 := by omega
  have f0 : ∀ (w : Later Y.heap.size Y), w.val.cell? ⟨gu + 1, 0, none⟩ = some (.int .i64 0) := fun w => (HX.out.keep_at w.below hgr).cell rfl
  have z0 : ∀ (w : Later Y.heap.size Y), w.val.frozen? ⟨gu + 1, 0, none⟩ = false := fun w => (HX.out.keep_at w.below hgr).fz 0
  have f1 : ∀ (w : Later Y.heap.size Y) (x0 : Value), (w.val.setCell ⟨gu + 1, 0, none⟩ x0).cell? ⟨gu + 1, 1, none⟩ = some (.slice none 0 0) := fun w x0 => ((HX.out.keep_at w.below hgr).set 0 x0).cell rfl
  have z1 : ∀ (w : Later Y.heap.size Y) (x0 : Value), (w.val.setCell ⟨gu + 1, 0, none⟩ x0).frozen? ⟨gu + 1, 1, none⟩ = false := fun w x0 => ((HX.out.keep_at w.below hgr).set 0 x0).fz 1
  go_wp2_with (first | (go_at_call 33; (with_reducible refine (KC.out).mono ?_); rintro e _ ⟨rfl, v1, rfl⟩))
  refine bodyPost_ret (results_row (vs := [.int .i64 0, .slice none 0 0]) rfl _ _ (gu + 1) rfl (((HX.out.keep v1.below).set 0 _).set 1 _) Try.underlying24 (by kernel_rfl)) rfl ?_
  obtain ⟨y1, hy1⟩ := later_set (HVY.out v1) (g := gu + 1) (i := 0) hBg (.int .i64 0)
  obtain ⟨y2, hy2⟩ := later_set ⟨y1, hy1⟩ (g := gu + 1) (i := 1) hBg (.slice none 0 0)
  exact RetP.of ⟨y2, hy2⟩ MatTO.no

set_option maxRecDepth 100000 in
set_option maxHeartbeats 20000000 in
theorem c_sameCanon {B : Nat} {W : World} (u : Later B W) (n : Nat) (hn : n ≤ 8) (L : List Nat) (a : Option Addr) (cap : Nat) (h : IntsAt B W a (ints L)) (he : MatIs (n : Int) (ints L) 0) (hlen : L.length ≤ 256) (hlt : ∀ x, x ∈ L → x < bit n) :
    Calls Try.prog 15 #[.agg #[.int .i64 n, .slice a L.length cap]] u.val (RetP B W (fun v w => ∃ X ad cp, CanAns n L X ∧ v = .tuple #[.agg #[.int .i64 n, .slice ad X.length cp], .int .i64 0] ∧ IntsAt w.heap.size w ad X)) := by
  have hB := u.size
  have e1 : (u.val.alloc (.cells #[.int .i64 n, .slice a L.length cap] 24)).heap.size = u.val.heap.size + 1 := by simp
  have hYs : Hid (((u.val.alloc (.cells #[.int .i64 n, .slice a L.length cap] 24)).alloc (.cells #[.int .i64 0, .slice none 0 0] 24)).heap.size = u.val.heap.size + 2) := Lib.hid (by simp)
  have XA : Hid (RowL ((u.val.alloc (.cells #[.int .i64 n, .slice a L.length cap] 24)).alloc (.cells #[.int .i64 0, .slice none 0 0] 24)) u.val.heap.size 24 [.int .i64 n, .slice a L.length cap]) := Lib.hid ((RowL.new _ _ _).keep ((Below.refl _ _).alloc (Nat.le_refl _) _))
  have XB : Hid (RowL ((u.val.alloc (.cells #[.int .i64 n, .slice a L.length cap] 24)).alloc (.cells #[.int .i64 0, .slice none 0 0] 24)) (u.val.heap.size + 1) 24 [.int .i64 0, .slice none 0 0]) := Lib.hid (by
    have h := RowL.new (u.val.alloc (.cells #[.int .i64 n, .slice a L.length cap] 24)) 24 [.int .i64 0, .slice none 0 0]
    rwa [e1] at h)
  have HV : Hid (∀ v : Later ((u.val.alloc (.cells #[.int .i64 n, .slice a L.length cap] 24)).alloc (.cells #[.int .i64 0, .slice none 0 0] 24)).heap.size ((u.val.alloc (.cells #[.int .i64 n, .slice a L.length cap] 24)).alloc (.cells #[.int .i64 0, .slice none 0 0] 24)), ∃ w : Later B W, w.val = v.val) := Lib.hid (fun v => ⟨((u.alloc _).alloc _).up v, rfl⟩)
  have HI : Hid (IntsAt ((u.val.alloc (.cells #[.int .i64 n, .slice a L.length cap] 24)).alloc (.cells #[.int .i64 0, .slice none 0 0] 24)).heap.size ((u.val.alloc (.cells #[.int .i64 n, .slice a L.length cap] 24)).alloc (.cells #[.int .i64 0, .slice none 0 0] 24)) a (ints L)) := Lib.hid (h.to ((u.alloc _).alloc _))
  have HL := Lib.hid hlt
  have hil : Hid ((ints L).length = L.length) := Lib.hid (ints_len L)
  have HM := Lib.hid he
  have hmk := mk_tab n (by omega)
  clear e1 h hlt he
  go_enter Try.func15, Try.ntmps15
  go_upto_region 1 with fail
  generalize u.val.heap.size = g at *
  generalize ((u.val.alloc (.cells #[.int .i64 n, .slice a L.length cap] 24)).alloc (.cells #[.int .i64 0, .slice none 0 0] 24)) = Y at *
  obtain ⟨y0, hy0⟩ : ∃ y : Later Y.heap.size Y, y.val = Y := ⟨Later.self _, rfl⟩
  rw [← hy0]
  clear hy0
  have q0 : ∀ w : Later Y.heap.size Y, w.val.cell? ⟨g, 0, none⟩ = some (.int .i64 n) := fun w => (XA.out.keep w.below).cell rfl
  have q1 : ∀ w : Later Y.heap.size Y, w.val.cell? ⟨g, 1, none⟩ = some (.slice a L.length cap) := fun w => (XA.out.keep w.below).cell rfl
  have q0y := q0 y0
  have q1y := q1 y0
  have KC : Hid (Calls Try.prog 33 #[.agg #[.int .i64 n, .slice a L.length cap]] y0.val (Ret y0.val.heap.size y0.val (.int .i64 0))) := Lib.hid (by
    have h1 := c_axCheck (Later.self y0.val) n (ints L) a cap 0 (HI.out.to y0) (by rw [hil.out]; omega) HM.out
    rwa [hil.out] at h1)
  have KL : Hid (∀ w : Later y0.val.heap.size y0.val, Calls Try.prog 38 #[.slice a L.length cap] w.val (RetOwn w.val.heap.size w.val (ints L))) := Lib.hid (fun w => by
    have h1 := c_clone (Later.self w.val) (ints L) a cap ((HI.out.to y0).to w) (by rw [hil.out]; omega)
    rwa [hil.out] at h1)
  have hsf := fun (a : Addr) (c : Array Value) (w : World) => run_store Try.prog w a (.func (.func 42) #[] c) .plain rfl
  have hp1 : ∀ (args : Array Value) (w : World), (callFunc 42 args).run Try.prog w = .ok (.enter 42 args) w := fun _ _ => by kernel_rfl
  go_upto_region 4 with (first | (go_at_call 33; (with_reducible refine (KC.out).mono ?_); rintro e _ ⟨rfl, y, rfl⟩) | fail)
  have KL1 := Lib.hid (KL.out y)
  have q1z : y.val.cell? ⟨g, 1, none⟩ = some (.slice a L.length cap) := q1 (y0.up y)
  clear KC KL q0y q1y
  go_upto_region 5 with (first | (go_at_call 38; (with_reducible refine (KL1.out).mono ?_); rintro e _ ⟨_, rfl, ⟨ar, cr, rfl, hO⟩, y2, rfl⟩; have HO := Lib.hid hO; clear hO) | fail)
  obtain ⟨w1, hw1⟩ : ∃ w1 : Later y2.val.heap.size y2.val, w1.val = y2.val.alloc (.cells #[.slice ar (ints L).length cr] 22) := ⟨(Later.self y2.val).alloc _, rfl⟩
  have HBb : Hid (RowAt1 w1.val y2.val.heap.size 22 (.slice ar (ints L).length cr)) := Lib.hid (by rw [hw1]; exact heap_alloc_new _ _)
  have Hw1s : Hid (w1.val.heap.size = y2.val.heap.size + 1) := Lib.hid (by rw [hw1]; simp)
  rw [← hw1]
  clear hw1
  have hyy : Hid (Y.heap.size ≤ y.val.heap.size ∧ y.val.heap.size ≤ y2.val.heap.size) := Lib.hid ⟨by have := y0.size; have := y.size; omega, y2.size⟩
  obtain ⟨z, hz⟩ : ∃ z : Later Y.heap.size Y, z.val = w1.val := ⟨((y0.up y).up y2).up w1, rfl⟩
  have HO2 : Hid (Own (g + 2) z.val ar cr (ints L) ∧ ∀ x, ar = some x → x.block < y2.val.heap.size) := Lib.hid (by
    have h1 := HO.out.keep w1.below
    rw [hz]
    exact ⟨h1.mono (by have := hyy.out; have := hYs.out; omega), fun x hx => (HO.out.blk x hx).2⟩)
  have HI2 : Hid (IntsAt Y.heap.size z.val a (ints L)) := Lib.hid (HI.out.later z.below)
  rw [← hz] at HBb Hw1s ⊢
  have hY2 := hYs.out
  have hyb : Y.heap.size ≤ y2.val.heap.size := by have := hyy.out; omega
  clear hz HI HO hyy KL1 q1z w1
  generalize y2.val.heap.size = bb at *
  clear y2 y y0
  have q0z := q0 z
  go_upto_region 8 with fail
  rw [show (((z.val.alloc (.cells (madeCells #[.int .i64 0] n) 3)).alloc (.cells #[.slice (some ⟨z.val.heap.size, 0, none⟩) n n] 22)).alloc (.cells #[.func (.func 42) #[] #[.pointer (some ⟨g, 0, none⟩), .pointer (some ⟨z.val.heap.size + 1, 0, none⟩), .pointer (some ⟨bb, 0, none⟩), .pointer (some ⟨z.val.heap.size + 1 + 1, 0, none⟩)]] 59)) = madeS z.val g bb n from rfl]
  have C3 := Lib.hid (madeS_cells z.val g bb n)
  have S3 := Lib.hid (madeS_size z.val g bb n)
  have B3 := Lib.hid (madeS_below z.val g bb n)
  generalize madeS z.val g bb n = M at *
  have hz1 := Hw1s.out
  have hs3 := S3.out
  have HXM : Hid (RowL M g 24 [.int .i64 n, .slice a L.length cap]) := Lib.hid ((XA.out.keep z.below).keep B3.out)
  have HYM : Hid (RowL M (g + 1) 24 [.int .i64 0, .slice none 0 0]) := Lib.hid ((XB.out.keep z.below).keep B3.out)
  have HIM : Hid (IntsAt Y.heap.size M a (ints L)) := Lib.hid (HI2.out.later (B3.out.mono (by omega)))
  have HBM : Hid (RowAt1 M bb 22 (.slice ar (ints L).length cr)) := Lib.hid (HBb.out.keep B3.out)
  have HVy : Hid (∀ v : Later Y.heap.size z.val, ∃ w : Later B W, w.val = v.val) := Lib.hid (fun v => HV.out (z.to v.val v.below))
  have HOk : Hid (CcOk M.heap.size z.val.heap.size M n L a cap g (z.val.heap.size + 1) n bb (z.val.heap.size + 2)) := Lib.hid
    { n8 := hn
      hbt := by omega
      hbb := by omega
      hne := by omega
      len := hlen
      lt := HL.out
      ca := fun v => by rw [v.cell (a := ⟨g, 0, none⟩) (show g < M.heap.size by omega) (by show ¬ (g = _ ∨ g = _); omega)]; exact HXM.out.cell rfl
      ca1 := fun v => by rw [v.cell (a := ⟨g, 1, none⟩) (show g < M.heap.size by omega) (by show ¬ (g = _ ∨ g = _); omega)]; exact HXM.out.cell rfl
      li := fun v => (HIM.out.later (v.below (B0 := Y.heap.size) (by omega) (fun k hk => by omega))).mono (by have := v.size; omega)
      cp := fun v => by rw [v.cell (a := ⟨z.val.heap.size + 1, 0, none⟩) (show z.val.heap.size + 1 < M.heap.size by omega) (by show ¬ (z.val.heap.size + 1 = _ ∨ z.val.heap.size + 1 = _); omega)]; exact C3.out.2.1.c0
      cf := fun v => by rw [v.cell (a := ⟨z.val.heap.size + 2, 0, none⟩) (show z.val.heap.size + 2 < M.heap.size by omega) (by show ¬ (z.val.heap.size + 2 = _ ∨ z.val.heap.size + 2 = _); omega)]; exact C3.out.2.2.c0 }
  have HBI : Hid (BstI (g + 2) bb (fun k => k = z.val.heap.size) (ints L) M) := Lib.hid ⟨⟨ar, cr, HBM.out, (HO2.out.1.reads.later B3.out).mono (by omega), HO2.out.1.cap, fun x hx => by
      have h := HO2.out.1.blk x hx
      have h2 := HO2.out.2 x hx
      exact ⟨by omega, by omega, by omega, by omega⟩⟩, (by omega), by rw [hil.out]; exact hlen⟩
  have K := Lib.hid (c_ccFrom (g + 2) M.heap.size z.val.heap.size (by omega) M n L a cap g (z.val.heap.size + 1) n bb (z.val.heap.size + 2) HOk.out n [] 0 (ints L) (Off.self M _ (Nat.le_refl _)) (pre_nil n) (by simp) (by omega) (fun k _ => by simp) ⟨fun _ => 0, C3.out.1, fun j hj => by simp at hj⟩ HBI.out)
  have HVM : Hid (∀ v' : Off M.heap.size (fun k => k = z.val.heap.size ∨ k = bb) M, ∃ w : Later B W, w.val = v'.val) := Lib.hid (fun v' => by
    have hb := v'.below (B0 := Y.heap.size) (by omega) (fun k hk => by omega)
    have hb2 := (B3.out.mono (show Y.heap.size ≤ z.val.heap.size by omega)).trans hb
    obtain ⟨w, hw⟩ := HVy.out ⟨v'.val, hb2, by have := v'.size; omega⟩
    exact ⟨w, hw⟩)
  have HYv : Hid (∀ v' : Off M.heap.size (fun k => k = z.val.heap.size ∨ k = bb) M, RowL v'.val (g + 1) 24 [.int .i64 0, .slice none 0 0] ∧ v'.val.cell? ⟨g, 0, none⟩ = some (.int .i64 n)) := Lib.hid (fun v' => ⟨by
    show v'.val.heap[g + 1]? = _
    rw [v'.block (g + 1) (by omega) (by omega)]; exact HYM.out, HOk.out.ca v'⟩)
  have r2 := C3.out.2.2.c0
  clear HO2 HI2 HVy C3 S3 B3 HXM HYM HIM HOk HBI hs3 HBM HBb XA XB q0 q1 q0z HV hmk hsf
  dsimp only [Off.self] at K
  rw [show (([] : List Nat).length : Int) = 0 from rfl, show ((0 : Nat) : Int) = 0 from rfl] at K
  generalize z.val.heap.size = bt at *
  rw [show bt + 1 + 1 = bt + 2 from rfl]
  clear hz1
  go_upto_region 9 with (first | (go_at_call 42; (with_reducible refine (K.out).mono ?_); rintro e _ ⟨rfl, v', rfl, hP, X, hI, hB4⟩; have HBX := Lib.hid hB4; have HIX := Lib.hid hI; clear hP hI hB4) | fail)
  obtain ⟨ab, cb, r1, r3, r4, r5⟩ := HIX.out.ex
  obtain ⟨r6, r7⟩ := HYv.out v'
  have HR6 := Lib.hid r6
  have t1 := r1.c0
  have HR3 := Lib.hid r3
  have HR5 := Lib.hid r5
  have d0 : v'.val.cell? ⟨g + 1, 0, none⟩ = some (.int .i64 0) := r6.cell rfl
  have d1 : v'.val.frozen? ⟨g + 1, 0, none⟩ = false := r6.fz 0
  have d2 : ∀ x : Value, (v'.val.setCell ⟨g + 1, 0, none⟩ x).cell? ⟨g + 1, 1, none⟩ = some (.slice none 0 0) := fun x => (HR6.out.set 0 x).cell rfl
  have d3 : ∀ x : Value, (v'.val.setCell ⟨g + 1, 0, none⟩ x).frozen? ⟨g + 1, 1, none⟩ = false := fun x => (HR6.out.set 0 x).fz 1
  clear K r2 r1 r3 r4 r5 r6 HYv
  go_wp2
  refine bodyPost_ret (results_row (vs := [.int .i64 n, .slice ab X.length cb]) rfl _ _ (g + 1) rfl ((HR6.out.set 0 _).set 1 _) Try.underlying24 (by kernel_rfl)) rfl ?_
  obtain ⟨z1, hz1⟩ := later_set (HVM.out v') (g := g + 1) (i := 0) (by omega) (.int .i64 n)
  obtain ⟨z2, hz2⟩ := later_set ⟨z1, hz1⟩ (g := g + 1) (i := 1) (by omega) (.slice ab X.length cb)
  refine RetP.of ⟨z2, hz2⟩ ⟨X, ab, cb, ⟨HIX.out.len, HBX.out.congr ext_nil⟩, rfl, ?_⟩
  intro hne
  obtain ⟨gb, off, rfl, hlt, hc⟩ := HR3.out hne
  have hgb := (HR5.out _ rfl).1
  have hgb2 : g + 1 ≠ gb := by have : g + 2 ≤ gb := hgb; omega
  refine ⟨gb, off, rfl, by simpa using hlt, fun i hi => ?_⟩
  rw [World.cell?_setCell_far _ _ _ _ hgb2, World.cell?_setCell_far _ _ _ _ hgb2]
  exact hc i hi
end Go.Proofs.Ytdcdhdlklppalaa
