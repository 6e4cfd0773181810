
/-
  rotalaw.MinorsSays.
-/
import Derived.Test.YtjpcelldbhdneaaMinD
import Derived.Test.YtjpcelldbhdneaaMinH
import Derived.Test.YtjpcelldbhdneaaMinJ
import Derived.Test.YtjpcelldbhdneaaTold
import Derived.Test.YtjpcelldbhdneaaMatOpen
namespace Go.Proofs.Ytjpcelldbhdneaa
open Go.RowKit
set_option linter.unusedVariables false

/-- of an error, nothing -/
def ZIf (e n : Int) (xs : List Int) : Prop := e ≠ 0 → n = 0 ∧ xs = []
theorem told_ok {e n : Int} {xs : List Int} (h : ZIf e n xs) : if e = 0 then n = n ∧ xs = xs else n = 0 ∧ xs = [] := by
  split
  · exact ⟨rfl, rfl⟩
  · rename_i c; exact h c
theorem RowL.other {w : World} {g : Nat} {t : TypeId} {vs : List Value} (h : RowL w g t vs) {g' : Nat} (hne : g' ≠ g) (i : Nat) (x : Value) : RowL (w.setCell ⟨g', i, none⟩ x) g t vs := by
  have h' : w.heap[g]? = _ := h
  simp only [RowL, World.setCell, Array.getElem?_modify, h']
  simp [hne]
/-- a matroid in a box, its bases in a row of the call's own -/
def MO (bx : Nat) (w : World) (g : Nat) (n : Int) (ad : Option Addr) (cp : Nat) (xs : List Int) : Prop := RowL w g 24 [.int .i64 n, .slice ad xs.length cp] ∧ Own bx w ad cp xs
theorem MO.later {bx : Nat} {w : World} {g : Nat} {n : Int} {ad : Option Addr} {cp : Nat} {xs : List Int} (h : MO bx w g n ad cp xs) (y : Later w.heap.size w) : MO bx y.val g n ad cp xs := ⟨h.1.keep y.below, h.2.keep y.below⟩
theorem MO.stored {bx : Nat} {w : World} {g : Nat} {n : Int} {ad : Option Addr} {cp : Nat} {xs : List Int} (h : MO bx w g n ad cp xs) {g' : Nat} (hne : g' ≠ g) (hb : g' < bx) (x z : Value) : MO bx ((w.setCell ⟨g', 0, none⟩ x).setCell ⟨g', 1, none⟩ z) g n ad cp xs := ⟨(h.1.other hne 0 x).other hne 1 z, (h.2.set hb x).set hb z⟩
/-- a box is filled -/
theorem MO.fill {bx : Nat} {w : World} {g : Nat} {v0 v1 : Value} {n : Int} {ad : Option Addr} {cp : Nat} {xs : List Int} (h : RowL w g 24 [v0, v1]) (ho : Own bx w ad cp xs) (hb : g < bx) : MO bx ((w.setCell ⟨g, 0, none⟩ (.int .i64 n)).setCell ⟨g, 1, none⟩ (.slice ad xs.length cp)) g n ad cp xs := ⟨(h.set 0 _).set 1 _, (ho.set hb _).set hb _⟩

/-- a matroid in a box, its bases in memory -/
def MB (w : World) (g : Nat) (n : Int) (ad : Option Addr) (cp : Nat) (xs : List Int) : Prop := RowL w g 24 [.int .i64 n, .slice ad xs.length cp] ∧ IntsAt w.heap.size w ad xs
theorem MB.later {w : World} {g : Nat} {n : Int} {ad : Option Addr} {cp : Nat} {xs : List Int} (h : MB w g n ad cp xs) (y : Later w.heap.size w) : MB y.val g n ad cp xs := ⟨h.1.keep y.below, h.2.to y⟩

set_option maxRecDepth 100000 in
set_option maxHeartbeats 20000000 in
theorem law_min_no {B : Nat} {W : World} (u : Later B W) (n s k : Int) (l : List Int) (a : Option Addr) (cap : Nat) (h : IntsAt B W a l) (hlen : l.length ≤ 4611686018427387904) (e1 : Int) (he : MatIs n l e1) (h0 : e1 ≠ 0) (n1 n2 n3 n4 : Int) (xs1 xs2 xs3 xs4 : List Int) (HL0 : Hid (xs1.length ≤ 4611686018427387904)) (HL1 : Hid (xs2.length ≤ 4611686018427387904)) (HL2 : Hid (xs3.length ≤ 4611686018427387904)) (HL3 : Hid (xs4.length ≤ 4611686018427387904)) (HZ0 : Hid (ZIf e1 n1 xs1)) (HZ1 : Hid (ZIf e1 n2 xs2)) (HZ2 : Hid (ZIf e1 n3 xs3)) (HZ3 : Hid (ZIf e1 n4 xs4)) (hP1 : ∀ (B : Nat) (W : World) (v : Later B W), IntsAt B W a l → Calls Try.prog 48 #[.agg #[.int .i64 n, .slice a l.length cap]] v.val (RetP B W (MatTO B n1 xs1 e1))) (hP2 : ∀ (B : Nat) (W : World) (v : Later B W), IntsAt B W a l → Calls Try.prog 49 #[.agg #[.int .i64 n, .slice a l.length cap], .int .i64 s] v.val (RetP B W (MatTO B n2 xs2 e1))) (hP3 : ∀ (B : Nat) (W : World) (v : Later B W), IntsAt B W a l → Calls Try.prog 50 #[.agg #[.int .i64 n, .slice a l.length cap], .int .i64 s] v.val (RetP B W (MatTO B n3 xs3 e1))) (hP4 : ∀ (B : Nat) (W : World) (v : Later B W), IntsAt B W a l → Calls Try.prog 51 #[.agg #[.int .i64 n, .slice a l.length cap], .int .i64 k] v.val (RetP B W (MatTO B n4 xs4 e1))) :
    Calls Try.prog 5 #[.agg #[.int .i64 n, .slice a l.length cap], .int .i64 s, .int .i64 k] u.val (Ret B W (.bool true)) := by
  have T0 : Hid (Two (u.val.alloc (.cells #[.int .i64 n, .slice a l.length cap] 24)) u.val.heap.size 24 (.int .i64 n) (.slice a l.length cap)) := Lib.hid (Two.new _ _ _ _)
  have hrr : u.val.heap.size < (u.val.alloc (.cells #[.int .i64 n, .slice a l.length cap] 24)).heap.size := by simp
  have hI : IntsAt (u.val.alloc (.cells #[.int .i64 n, .slice a l.length cap] 24)).heap.size (u.val.alloc (.cells #[.int .i64 n, .slice a l.length cap] 24)) a l := h.to (u.alloc _)
  have HV : Hid (∀ v : Later (u.val.alloc (.cells #[.int .i64 n, .slice a l.length cap] 24)).heap.size (u.val.alloc (.cells #[.int .i64 n, .slice a l.length cap] 24)), ∃ w : Later B W, w.val = v.val) := Lib.hid (fun v => ⟨(u.alloc _).up v, rfl⟩)
  have q0 : ∀ w : Later (u.val.alloc (.cells #[.int .i64 n, .slice a l.length cap] 24)).heap.size (u.val.alloc (.cells #[.int .i64 n, .slice a l.length cap] 24)), w.val.cell? ⟨u.val.heap.size, 0, none⟩ = some (.int .i64 n) := fun w => (T0.out.keep w.below).c0
  have q1 : ∀ w : Later (u.val.alloc (.cells #[.int .i64 n, .slice a l.length cap] 24)).heap.size (u.val.alloc (.cells #[.int .i64 n, .slice a l.length cap] 24)), w.val.cell? ⟨u.val.heap.size, 1, none⟩ = some (.slice a l.length cap) := fun w => (T0.out.keep w.below).c1
  have p0 : (u.val.alloc (.cells #[.int .i64 n, .slice a l.length cap] 24)).cell? ⟨u.val.heap.size, 0, none⟩ = some (.int .i64 n) := T0.out.c0
  have p1 : (u.val.alloc (.cells #[.int .i64 n, .slice a l.length cap] 24)).cell? ⟨u.val.heap.size, 1, none⟩ = some (.slice a l.length cap) := T0.out.c1
  have KM : Hid (Calls Try.prog 13 #[.agg #[.int .i64 n, .slice a l.length cap]] (u.val.alloc (.cells #[.int .i64 n, .slice a l.length cap] 24)) (Ret (u.val.alloc (.cells #[.int .i64 n, .slice a l.length cap] 24)).heap.size (u.val.alloc (.cells #[.int .i64 n, .slice a l.length cap] 24)) (.int .i64 e1))) := Lib.hid (c_refMatroid (Later.self _) n l a cap e1 hI hlen he)
  go_enter Try.func5, Try.ntmps5
  go_upto_region 3 with (first | (go_at_call 13; ((with_reducible refine (KM.out).mono ?_); rintro e _ ⟨rfl, v1, rfl⟩)))
  have hIV : IntsAt v1.val.heap.size v1.val a l := hI.to v1
  have r0 : ∀ w : Later v1.val.heap.size v1.val, w.val.cell? ⟨u.val.heap.size, 0, none⟩ = some (.int .i64 n) := fun w => q0 (v1.up w)
  have r1 : ∀ w : Later v1.val.heap.size v1.val, w.val.cell? ⟨u.val.heap.size, 1, none⟩ = some (.slice a l.length cap) := fun w => q1 (v1.up w)
  have HVB : Hid (∀ v : Later v1.val.heap.size v1.val, ∃ w : Later B W, w.val = v.val) := Lib.hid (fun v => HV.out (v1.up v))
  have hgu0 : u.val.heap.size < v1.val.heap.size := Nat.lt_of_lt_of_le hrr v1.size
  clear KM q0 q1 p0 p1 HV T0 hrr hI h
  generalize u.val.heap.size = gu at *
  generalize v1.val = V at *
  have P1 : Hid (∀ v : Later V.heap.size V, Calls Try.prog 48 #[.agg #[.int .i64 n, .slice a l.length cap]] v.val (RetP v.val.heap.size v.val (MatTO v.val.heap.size n1 xs1 e1))) := Lib.hid (fun v => hP1 _ _ (Later.self v.val) (hIV.to v))
  have P2 : Hid (∀ v : Later V.heap.size V, Calls Try.prog 49 #[.agg #[.int .i64 n, .slice a l.length cap], .int .i64 s] v.val (RetP v.val.heap.size v.val (MatTO v.val.heap.size n2 xs2 e1))) := Lib.hid (fun v => hP2 _ _ (Later.self v.val) (hIV.to v))
  have P3 : Hid (∀ v : Later V.heap.size V, Calls Try.prog 50 #[.agg #[.int .i64 n, .slice a l.length cap], .int .i64 s] v.val (RetP v.val.heap.size v.val (MatTO v.val.heap.size n3 xs3 e1))) := Lib.hid (fun v => hP3 _ _ (Later.self v.val) (hIV.to v))
  have P4 : Hid (∀ v : Later V.heap.size V, Calls Try.prog 51 #[.agg #[.int .i64 n, .slice a l.length cap], .int .i64 k] v.val (RetP v.val.heap.size v.val (MatTO v.val.heap.size n4 xs4 e1))) := Lib.hid (fun v => hP4 _ _ (Later.self v.val) (hIV.to v))
  clear hP1 hP2 hP3 hP4
  go_upto_region 4 with fail
  have hx1 : (V.alloc (.cells #[.int .i64 0, .slice none 0 0] 24)).heap.size = V.heap.size + 1 := by simp
  have hx2 : ((V.alloc (.cells #[.int .i64 0, .slice none 0 0] 24)).alloc (.cells #[.int .i64 0, .slice none 0 0] 24)).heap.size = V.heap.size + 2 := by simp
  have hx3 : (((V.alloc (.cells #[.int .i64 0, .slice none 0 0] 24)).alloc (.cells #[.int .i64 0, .slice none 0 0] 24)).alloc (.cells #[.int .i64 0, .slice none 0 0] 24)).heap.size = V.heap.size + 3 := by simp
  have hx4 : Hid (((((V.alloc (.cells #[.int .i64 0, .slice none 0 0] 24)).alloc (.cells #[.int .i64 0, .slice none 0 0] 24)).alloc (.cells #[.int .i64 0, .slice none 0 0] 24)).alloc (.cells #[.int .i64 0, .slice none 0 0] 24)).heap.size = V.heap.size + 4) := Lib.hid (by simp)
  have A0 : RowL (V.alloc (.cells #[.int .i64 0, .slice none 0 0] 24)) V.heap.size 24 [.int .i64 0, .slice none 0 0] := RowL.new _ _ _
  have A1 : RowL ((V.alloc (.cells #[.int .i64 0, .slice none 0 0] 24)).alloc (.cells #[.int .i64 0, .slice none 0 0] 24)) (V.alloc (.cells #[.int .i64 0, .slice none 0 0] 24)).heap.size 24 [.int .i64 0, .slice none 0 0] := RowL.new _ _ _
  have A2 : RowL (((V.alloc (.cells #[.int .i64 0, .slice none 0 0] 24)).alloc (.cells #[.int .i64 0, .slice none 0 0] 24)).alloc (.cells #[.int .i64 0, .slice none 0 0] 24)) ((V.alloc (.cells #[.int .i64 0, .slice none 0 0] 24)).alloc (.cells #[.int .i64 0, .slice none 0 0] 24)).heap.size 24 [.int .i64 0, .slice none 0 0] := RowL.new _ _ _
  have A3 : RowL ((((V.alloc (.cells #[.int .i64 0, .slice none 0 0] 24)).alloc (.cells #[.int .i64 0, .slice none 0 0] 24)).alloc (.cells #[.int .i64 0, .slice none 0 0] 24)).alloc (.cells #[.int .i64 0, .slice none 0 0] 24)) (((V.alloc (.cells #[.int .i64 0, .slice none 0 0] 24)).alloc (.cells #[.int .i64 0, .slice none 0 0] 24)).alloc (.cells #[.int .i64 0, .slice none 0 0] 24)).heap.size 24 [.int .i64 0, .slice none 0 0] := RowL.new _ _ _
  rw [hx1] at A1
  rw [hx2] at A2
  rw [hx3] at A3
  have R0 : Hid (RowL ((((V.alloc (.cells #[.int .i64 0, .slice none 0 0] 24)).alloc (.cells #[.int .i64 0, .slice none 0 0] 24)).alloc (.cells #[.int .i64 0, .slice none 0 0] 24)).alloc (.cells #[.int .i64 0, .slice none 0 0] 24)) V.heap.size 24 [.int .i64 0, .slice none 0 0]) := Lib.hid (((A0.keep ((Below.refl _ _).alloc (Nat.le_refl _) _)).keep ((Below.refl _ _).alloc (Nat.le_refl _) _)).keep ((Below.refl _ _).alloc (Nat.le_refl _) _))
  have R1 : Hid (RowL ((((V.alloc (.cells #[.int .i64 0, .slice none 0 0] 24)).alloc (.cells #[.int .i64 0, .slice none 0 0] 24)).alloc (.cells #[.int .i64 0, .slice none 0 0] 24)).alloc (.cells #[.int .i64 0, .slice none 0 0] 24)) (V.heap.size + 1) 24 [.int .i64 0, .slice none 0 0]) := Lib.hid ((A1.keep ((Below.refl _ _).alloc (Nat.le_refl _) _)).keep ((Below.refl _ _).alloc (Nat.le_refl _) _))
  have R2 : Hid (RowL ((((V.alloc (.cells #[.int .i64 0, .slice none 0 0] 24)).alloc (.cells #[.int .i64 0, .slice none 0 0] 24)).alloc (.cells #[.int .i64 0, .slice none 0 0] 24)).alloc (.cells #[.int .i64 0, .slice none 0 0] 24)) (V.heap.size + 2) 24 [.int .i64 0, .slice none 0 0]) := Lib.hid (A2.keep ((Below.refl _ _).alloc (Nat.le_refl _) _))
  have R3 : Hid (RowL ((((V.alloc (.cells #[.int .i64 0, .slice none 0 0] 24)).alloc (.cells #[.int .i64 0, .slice none 0 0] 24)).alloc (.cells #[.int .i64 0, .slice none 0 0] 24)).alloc (.cells #[.int .i64 0, .slice none 0 0] 24)) (V.heap.size + 3) 24 [.int .i64 0, .slice none 0 0]) := Lib.hid A3
  obtain ⟨v, hv⟩ : ∃ v : Later V.heap.size V, v.val = ((((V.alloc (.cells #[.int .i64 0, .slice none 0 0] 24)).alloc (.cells #[.int .i64 0, .slice none 0 0] 24)).alloc (.cells #[.int .i64 0, .slice none 0 0] 24)).alloc (.cells #[.int .i64 0, .slice none 0 0] 24)) := ⟨((((Later.self V).alloc _).alloc _).alloc _).alloc _, rfl⟩
  rw [← hv] at R0 R1 R2 R3 hx4 ⊢
  clear hv A0 A1 A2 A3 hx1 hx2 hx3
  obtain ⟨g0, e0⟩ : ∃ g, V.heap.size = g := ⟨_, rfl⟩
  obtain ⟨g1, eg1⟩ : ∃ g, V.heap.size + 1 = g := ⟨_, rfl⟩
  obtain ⟨g2, eg2⟩ : ∃ g, V.heap.size + 2 = g := ⟨_, rfl⟩
  obtain ⟨g3, eg3⟩ : ∃ g, V.heap.size + 3 = g := ⟨_, rfl⟩
  try rw [show V.heap.size + 1 + 1 + 1 = V.heap.size + 3 from rfl]
  try rw [show V.heap.size + 1 + 1 = V.heap.size + 2 from rfl]
  rw [eg1] at R1
  rw [eg2] at R2
  rw [eg3] at R3
  rw [eg3, eg2, eg1]
  have y0 : n1 = 0 ∧ xs1 = [] := HZ0.out h0
  obtain ⟨ad0, hd0⟩ : ∃ x : Option Addr, x = none := ⟨_, rfl⟩
  obtain ⟨cp0, hc0⟩ : ∃ x : Nat, x = 0 := ⟨_, rfl⟩
  have M0 : Hid (MB v.val V.heap.size n1 ad0 cp0 xs1) := Lib.hid (by rw [y0.1, y0.2, hd0, hc0]; exact ⟨R0.out, IntsAt.nil⟩)
  have y1 : n2 = 0 ∧ xs2 = [] := HZ1.out h0
  obtain ⟨ad1, hd1⟩ : ∃ x : Option Addr, x = none := ⟨_, rfl⟩
  obtain ⟨cp1, hc1⟩ : ∃ x : Nat, x = 0 := ⟨_, rfl⟩
  have M1 : Hid (MB v.val g1 n2 ad1 cp1 xs2) := Lib.hid (by rw [y1.1, y1.2, hd1, hc1]; exact ⟨R1.out, IntsAt.nil⟩)
  have y2 : n3 = 0 ∧ xs3 = [] := HZ2.out h0
  obtain ⟨ad2, hd2⟩ : ∃ x : Option Addr, x = none := ⟨_, rfl⟩
  obtain ⟨cp2, hc2⟩ : ∃ x : Nat, x = 0 := ⟨_, rfl⟩
  have M2 : Hid (MB v.val g2 n3 ad2 cp2 xs3) := Lib.hid (by rw [y2.1, y2.2, hd2, hc2]; exact ⟨R2.out, IntsAt.nil⟩)
  have y3 : n4 = 0 ∧ xs4 = [] := HZ3.out h0
  obtain ⟨ad3, hd3⟩ : ∃ x : Option Addr, x = none := ⟨_, rfl⟩
  obtain ⟨cp3, hc3⟩ : ∃ x : Nat, x = 0 := ⟨_, rfl⟩
  have M3 : Hid (MB v.val g3 n4 ad3 cp3 xs4) := Lib.hid (by rw [y3.1, y3.2, hd3, hc3]; exact ⟨R3.out, IntsAt.nil⟩)
  have d0 : (e1 == 0) = false := by rw [beq_eq_false_iff_ne]; exact h0
  clear y0 y1 y2 y3 hd0 hd1 hd2 hd3 hc0 hc1 hc2 hc3 R0 R1 R2 R3 h0 he
  have HG := Lib.hid (And.intro eg1 (And.intro eg2 eg3))
  clear eg1 eg2 eg3 e0 g0
  have KP := Lib.hid (P1.out v)
  go_upto_region 13 with (first | (go_at_call 48; (with_reducible refine (KP.out).mono ?_); rintro e _ ⟨_, rfl, ⟨aa0, cc0, rfl, hO⟩, y, rfl⟩))
  have N0 : Hid (MB (y.val.alloc (.cells #[.int .i64 n1, .slice aa0 xs1.length cc0] 24)) y.val.heap.size n1 aa0 cc0 xs1) := Lib.hid ⟨RowL.new _ _ _, (hO.reads).to ((Later.self y.val).alloc _)⟩
  have M0x := Lib.hid (M0.out.later (y.alloc (.cells #[.int .i64 n1, .slice aa0 xs1.length cc0] 24)))
  have M1x := Lib.hid (M1.out.later (y.alloc (.cells #[.int .i64 n1, .slice aa0 xs1.length cc0] 24)))
  have M2x := Lib.hid (M2.out.later (y.alloc (.cells #[.int .i64 n1, .slice aa0 xs1.length cc0] 24)))
  have M3x := Lib.hid (M3.out.later (y.alloc (.cells #[.int .i64 n1, .slice aa0 xs1.length cc0] 24)))
  obtain ⟨v', hv'⟩ : ∃ v' : Later V.heap.size V, v'.val = (y.val.alloc (.cells #[.int .i64 n1, .slice aa0 xs1.length cc0] 24)) := ⟨v.up (y.alloc _), rfl⟩
  rw [show ((y.alloc (.cells #[.int .i64 n1, .slice aa0 xs1.length cc0] 24)).val) = (y.val.alloc (.cells #[.int .i64 n1, .slice aa0 xs1.length cc0] 24)) from rfl, ← hv'] at M0x
  rw [show ((y.alloc (.cells #[.int .i64 n1, .slice aa0 xs1.length cc0] 24)).val) = (y.val.alloc (.cells #[.int .i64 n1, .slice aa0 xs1.length cc0] 24)) from rfl, ← hv'] at M1x
  rw [show ((y.alloc (.cells #[.int .i64 n1, .slice aa0 xs1.length cc0] 24)).val) = (y.val.alloc (.cells #[.int .i64 n1, .slice aa0 xs1.length cc0] 24)) from rfl, ← hv'] at M2x
  rw [show ((y.alloc (.cells #[.int .i64 n1, .slice aa0 xs1.length cc0] 24)).val) = (y.val.alloc (.cells #[.int .i64 n1, .slice aa0 xs1.length cc0] 24)) from rfl, ← hv'] at M3x
  rw [← hv'] at N0 ⊢
  clear M0 M1 M2 M3 KP hv' hO
  have M0 := M0x
  have M1 := M1x
  have M2 := M2x
  have M3 := M3x
  clear M0x M1x M2x M3x
  generalize y.val.heap.size = h0 at *
  clear y
  obtain ⟨v, hv⟩ : ∃ x : Later V.heap.size V, x = v' := ⟨_, rfl⟩
  rw [← hv] at M0 M1 M2 M3 N0 ⊢
  clear hv v'
  have KP := Lib.hid (P2.out v)
  go_upto_region 14 with (first | (go_at_call 49; (with_reducible refine (KP.out).mono ?_); rintro e _ ⟨_, rfl, ⟨aa1, cc1, rfl, hO⟩, y, rfl⟩))
  have N1 : Hid (MB (y.val.alloc (.cells #[.int .i64 n2, .slice aa1 xs2.length cc1] 24)) y.val.heap.size n2 aa1 cc1 xs2) := Lib.hid ⟨RowL.new _ _ _, (hO.reads).to ((Later.self y.val).alloc _)⟩
  have M0x := Lib.hid (M0.out.later (y.alloc (.cells #[.int .i64 n2, .slice aa1 xs2.length cc1] 24)))
  have M1x := Lib.hid (M1.out.later (y.alloc (.cells #[.int .i64 n2, .slice aa1 xs2.length cc1] 24)))
  have M2x := Lib.hid (M2.out.later (y.alloc (.cells #[.int .i64 n2, .slice aa1 xs2.length cc1] 24)))
  have M3x := Lib.hid (M3.out.later (y.alloc (.cells #[.int .i64 n2, .slice aa1 xs2.length cc1] 24)))
  have N0x := Lib.hid (N0.out.later (y.alloc (.cells #[.int .i64 n2, .slice aa1 xs2.length cc1] 24)))
  obtain ⟨v', hv'⟩ : ∃ v' : Later V.heap.size V, v'.val = (y.val.alloc (.cells #[.int .i64 n2, .slice aa1 xs2.length cc1] 24)) := ⟨v.up (y.alloc _), rfl⟩
  rw [show ((y.alloc (.cells #[.int .i64 n2, .slice aa1 xs2.length cc1] 24)).val) = (y.val.alloc (.cells #[.int .i64 n2, .slice aa1 xs2.length cc1] 24)) from rfl, ← hv'] at M0x
  rw [show ((y.alloc (.cells #[.int .i64 n2, .slice aa1 xs2.length cc1] 24)).val) = (y.val.alloc (.cells #[.int .i64 n2, .slice aa1 xs2.length cc1] 24)) from rfl, ← hv'] at M1x
  rw [show ((y.alloc (.cells #[.int .i64 n2, .slice aa1 xs2.length cc1] 24)).val) = (y.val.alloc (.cells #[.int .i64 n2, .slice aa1 xs2.length cc1] 24)) from rfl, ← hv'] at M2x
  rw [show ((y.alloc (.cells #[.int .i64 n2, .slice aa1 xs2.length cc1] 24)).val) = (y.val.alloc (.cells #[.int .i64 n2, .slice aa1 xs2.length cc1] 24)) from rfl, ← hv'] at M3x
  rw [show ((y.alloc (.cells #[.int .i64 n2, .slice aa1 xs2.length cc1] 24)).val) = (y.val.alloc (.cells #[.int .i64 n2, .slice aa1 xs2.length cc1] 24)) from rfl, ← hv'] at N0x
  rw [← hv'] at N1 ⊢
  clear M0 M1 M2 M3 N0 KP hv' hO
  have M0 := M0x
  have M1 := M1x
  have M2 := M2x
  have M3 := M3x
  have N0 := N0x
  clear M0x M1x M2x M3x N0x
  generalize y.val.heap.size = h1 at *
  clear y
  obtain ⟨v, hv⟩ : ∃ x : Later V.heap.size V, x = v' := ⟨_, rfl⟩
  rw [← hv] at M0 M1 M2 M3 N0 N1 ⊢
  clear hv v'
  have KP := Lib.hid (P3.out v)
  go_upto_region 15 with (first | (go_at_call 50; (with_reducible refine (KP.out).mono ?_); rintro e _ ⟨_, rfl, ⟨aa2, cc2, rfl, hO⟩, y, rfl⟩))
  have N2 : Hid (MB (y.val.alloc (.cells #[.int .i64 n3, .slice aa2 xs3.length cc2] 24)) y.val.heap.size n3 aa2 cc2 xs3) := Lib.hid ⟨RowL.new _ _ _, (hO.reads).to ((Later.self y.val).alloc _)⟩
  have M0x := Lib.hid (M0.out.later (y.alloc (.cells #[.int .i64 n3, .slice aa2 xs3.length cc2] 24)))
  have M1x := Lib.hid (M1.out.later (y.alloc (.cells #[.int .i64 n3, .slice aa2 xs3.length cc2] 24)))
  have M2x := Lib.hid (M2.out.later (y.alloc (.cells #[.int .i64 n3, .slice aa2 xs3.length cc2] 24)))
  have M3x := Lib.hid (M3.out.later (y.alloc (.cells #[.int .i64 n3, .slice aa2 xs3.length cc2] 24)))
  have N0x := Lib.hid (N0.out.later (y.alloc (.cells #[.int .i64 n3, .slice aa2 xs3.length cc2] 24)))
  have N1x := Lib.hid (N1.out.later (y.alloc (.cells #[.int .i64 n3, .slice aa2 xs3.length cc2] 24)))
  obtain ⟨v', hv'⟩ : ∃ v' : Later V.heap.size V, v'.val = (y.val.alloc (.cells #[.int .i64 n3, .slice aa2 xs3.length cc2] 24)) := ⟨v.up (y.alloc _), rfl⟩
  rw [show ((y.alloc (.cells #[.int .i64 n3, .slice aa2 xs3.length cc2] 24)).val) = (y.val.alloc (.cells #[.int .i64 n3, .slice aa2 xs3.length cc2] 24)) from rfl, ← hv'] at M0x
  rw [show ((y.alloc (.cells #[.int .i64 n3, .slice aa2 xs3.length cc2] 24)).val) = (y.val.alloc (.cells #[.int .i64 n3, .slice aa2 xs3.length cc2] 24)) from rfl, ← hv'] at M1x
  rw [show ((y.alloc (.cells #[.int .i64 n3, .slice aa2 xs3.length cc2] 24)).val) = (y.val.alloc (.cells #[.int .i64 n3, .slice aa2 xs3.length cc2] 24)) from rfl, ← hv'] at M2x
  rw [show ((y.alloc (.cells #[.int .i64 n3, .slice aa2 xs3.length cc2] 24)).val) = (y.val.alloc (.cells #[.int .i64 n3, .slice aa2 xs3.length cc2] 24)) from rfl, ← hv'] at M3x
  rw [show ((y.alloc (.cells #[.int .i64 n3, .slice aa2 xs3.length cc2] 24)).val) = (y.val.alloc (.cells #[.int .i64 n3, .slice aa2 xs3.length cc2] 24)) from rfl, ← hv'] at N0x
  rw [show ((y.alloc (.cells #[.int .i64 n3, .slice aa2 xs3.length cc2] 24)).val) = (y.val.alloc (.cells #[.int .i64 n3, .slice aa2 xs3.length cc2] 24)) from rfl, ← hv'] at N1x
  rw [← hv'] at N2 ⊢
  clear M0 M1 M2 M3 N0 N1 KP hv' hO
  have M0 := M0x
  have M1 := M1x
  have M2 := M2x
  have M3 := M3x
  have N0 := N0x
  have N1 := N1x
  clear M0x M1x M2x M3x N0x N1x
  generalize y.val.heap.size = h2 at *
  clear y
  obtain ⟨v, hv⟩ : ∃ x : Later V.heap.size V, x = v' := ⟨_, rfl⟩
  rw [← hv] at M0 M1 M2 M3 N0 N1 N2 ⊢
  clear hv v'
  have KP := Lib.hid (P4.out v)
  go_upto_region 16 with (first | (go_at_call 51; (with_reducible refine (KP.out).mono ?_); rintro e _ ⟨_, rfl, ⟨aa3, cc3, rfl, hO⟩, y, rfl⟩))
  have N3 : Hid (MB (y.val.alloc (.cells #[.int .i64 n4, .slice aa3 xs4.length cc3] 24)) y.val.heap.size n4 aa3 cc3 xs4) := Lib.hid ⟨RowL.new _ _ _, (hO.reads).to ((Later.self y.val).alloc _)⟩
  have M0x := Lib.hid (M0.out.later (y.alloc (.cells #[.int .i64 n4, .slice aa3 xs4.length cc3] 24)))
  have M1x := Lib.hid (M1.out.later (y.alloc (.cells #[.int .i64 n4, .slice aa3 xs4.length cc3] 24)))
  have M2x := Lib.hid (M2.out.later (y.alloc (.cells #[.int .i64 n4, .slice aa3 xs4.length cc3] 24)))
  have M3x := Lib.hid (M3.out.later (y.alloc (.cells #[.int .i64 n4, .slice aa3 xs4.length cc3] 24)))
  have N0x := Lib.hid (N0.out.later (y.alloc (.cells #[.int .i64 n4, .slice aa3 xs4.length cc3] 24)))
  have N1x := Lib.hid (N1.out.later (y.alloc (.cells #[.int .i64 n4, .slice aa3 xs4.length cc3] 24)))
  have N2x := Lib.hid (N2.out.later (y.alloc (.cells #[.int .i64 n4, .slice aa3 xs4.length cc3] 24)))
  obtain ⟨v', hv'⟩ : ∃ v' : Later V.heap.size V, v'.val = (y.val.alloc (.cells #[.int .i64 n4, .slice aa3 xs4.length cc3] 24)) := ⟨v.up (y.alloc _), rfl⟩
  rw [show ((y.alloc (.cells #[.int .i64 n4, .slice aa3 xs4.length cc3] 24)).val) = (y.val.alloc (.cells #[.int .i64 n4, .slice aa3 xs4.length cc3] 24)) from rfl, ← hv'] at M0x
  rw [show ((y.alloc (.cells #[.int .i64 n4, .slice aa3 xs4.length cc3] 24)).val) = (y.val.alloc (.cells #[.int .i64 n4, .slice aa3 xs4.length cc3] 24)) from rfl, ← hv'] at M1x
  rw [show ((y.alloc (.cells #[.int .i64 n4, .slice aa3 xs4.length cc3] 24)).val) = (y.val.alloc (.cells #[.int .i64 n4, .slice aa3 xs4.length cc3] 24)) from rfl, ← hv'] at M2x
  rw [show ((y.alloc (.cells #[.int .i64 n4, .slice aa3 xs4.length cc3] 24)).val) = (y.val.alloc (.cells #[.int .i64 n4, .slice aa3 xs4.length cc3] 24)) from rfl, ← hv'] at M3x
  rw [show ((y.alloc (.cells #[.int .i64 n4, .slice aa3 xs4.length cc3] 24)).val) = (y.val.alloc (.cells #[.int .i64 n4, .slice aa3 xs4.length cc3] 24)) from rfl, ← hv'] at N0x
  rw [show ((y.alloc (.cells #[.int .i64 n4, .slice aa3 xs4.length cc3] 24)).val) = (y.val.alloc (.cells #[.int .i64 n4, .slice aa3 xs4.length cc3] 24)) from rfl, ← hv'] at N1x
  rw [show ((y.alloc (.cells #[.int .i64 n4, .slice aa3 xs4.length cc3] 24)).val) = (y.val.alloc (.cells #[.int .i64 n4, .slice aa3 xs4.length cc3] 24)) from rfl, ← hv'] at N2x
  rw [← hv'] at N3 ⊢
  clear M0 M1 M2 M3 N0 N1 N2 KP hv' hO
  have M0 := M0x
  have M1 := M1x
  have M2 := M2x
  have M3 := M3x
  have N0 := N0x
  have N1 := N1x
  have N2 := N2x
  clear M0x M1x M2x M3x N0x N1x N2x
  generalize y.val.heap.size = h3 at *
  clear y
  obtain ⟨v, hv⟩ : ∃ x : Later V.heap.size V, x = v' := ⟨_, rfl⟩
  rw [← hv] at M0 M1 M2 M3 N0 N1 N2 N3 ⊢
  clear hv v'
  have KT0 : Hid (∀ w : Later v.val.heap.size v.val, Calls Try.prog 40 #[.agg #[.int .i64 n1, .slice aa0 xs1.length cc0], .int .i64 e1, .agg #[.int .i64 n1, .slice ad0 xs1.length cp0], .int .i64 e1] w.val (Ret v.val.heap.size v.val (.bool true))) := Lib.hid (fun w => c_told w n1 n1 xs1 xs1 aa0 ad0 cc0 cp0 e1 e1 N0.out.2 M0.out.2 HL0.out rfl (told_ok HZ0.out))
  have a00 : ∀ w : Later v.val.heap.size v.val, w.val.cell? ⟨h0, 0, none⟩ = some (.int .i64 n1) := fun w => (N0.out.1.keep w.below).cell rfl
  have a01 : ∀ w : Later v.val.heap.size v.val, w.val.cell? ⟨h0, 1, none⟩ = some (.slice aa0 xs1.length cc0) := fun w => (N0.out.1.keep w.below).cell rfl
  have b00 : ∀ w : Later v.val.heap.size v.val, w.val.cell? ⟨V.heap.size, 0, none⟩ = some (.int .i64 n1) := fun w => (M0.out.1.keep w.below).cell rfl
  have b01 : ∀ w : Later v.val.heap.size v.val, w.val.cell? ⟨V.heap.size, 1, none⟩ = some (.slice ad0 xs1.length cp0) := fun w => (M0.out.1.keep w.below).cell rfl
  have KT1 : Hid (∀ w : Later v.val.heap.size v.val, Calls Try.prog 40 #[.agg #[.int .i64 n2, .slice aa1 xs2.length cc1], .int .i64 e1, .agg #[.int .i64 n2, .slice ad1 xs2.length cp1], .int .i64 e1] w.val (Ret v.val.heap.size v.val (.bool true))) := Lib.hid (fun w => c_told w n2 n2 xs2 xs2 aa1 ad1 cc1 cp1 e1 e1 N1.out.2 M1.out.2 HL1.out rfl (told_ok HZ1.out))
  have a10 : ∀ w : Later v.val.heap.size v.val, w.val.cell? ⟨h1, 0, none⟩ = some (.int .i64 n2) := fun w => (N1.out.1.keep w.below).cell rfl
  have a11 : ∀ w : Later v.val.heap.size v.val, w.val.cell? ⟨h1, 1, none⟩ = some (.slice aa1 xs2.length cc1) := fun w => (N1.out.1.keep w.below).cell rfl
  have b10 : ∀ w : Later v.val.heap.size v.val, w.val.cell? ⟨g1, 0, none⟩ = some (.int .i64 n2) := fun w => (M1.out.1.keep w.below).cell rfl
  have b11 : ∀ w : Later v.val.heap.size v.val, w.val.cell? ⟨g1, 1, none⟩ = some (.slice ad1 xs2.length cp1) := fun w => (M1.out.1.keep w.below).cell rfl
  have KT2 : Hid (∀ w : Later v.val.heap.size v.val, Calls Try.prog 40 #[.agg #[.int .i64 n3, .slice aa2 xs3.length cc2], .int .i64 e1, .agg #[.int .i64 n3, .slice ad2 xs3.length cp2], .int .i64 e1] w.val (Ret v.val.heap.size v.val (.bool true))) := Lib.hid (fun w => c_told w n3 n3 xs3 xs3 aa2 ad2 cc2 cp2 e1 e1 N2.out.2 M2.out.2 HL2.out rfl (told_ok HZ2.out))
  have a20 : ∀ w : Later v.val.heap.size v.val, w.val.cell? ⟨h2, 0, none⟩ = some (.int .i64 n3) := fun w => (N2.out.1.keep w.below).cell rfl
  have a21 : ∀ w : Later v.val.heap.size v.val, w.val.cell? ⟨h2, 1, none⟩ = some (.slice aa2 xs3.length cc2) := fun w => (N2.out.1.keep w.below).cell rfl
  have b20 : ∀ w : Later v.val.heap.size v.val, w.val.cell? ⟨g2, 0, none⟩ = some (.int .i64 n3) := fun w => (M2.out.1.keep w.below).cell rfl
  have b21 : ∀ w : Later v.val.heap.size v.val, w.val.cell? ⟨g2, 1, none⟩ = some (.slice ad2 xs3.length cp2) := fun w => (M2.out.1.keep w.below).cell rfl
  have KT3 : Hid (∀ w : Later v.val.heap.size v.val, Calls Try.prog 40 #[.agg #[.int .i64 n4, .slice aa3 xs4.length cc3], .int .i64 e1, .agg #[.int .i64 n4, .slice ad3 xs4.length cp3], .int .i64 e1] w.val (Ret v.val.heap.size v.val (.bool true))) := Lib.hid (fun w => c_told w n4 n4 xs4 xs4 aa3 ad3 cc3 cp3 e1 e1 N3.out.2 M3.out.2 HL3.out rfl (told_ok HZ3.out))
  have a30 : ∀ w : Later v.val.heap.size v.val, w.val.cell? ⟨h3, 0, none⟩ = some (.int .i64 n4) := fun w => (N3.out.1.keep w.below).cell rfl
  have a31 : ∀ w : Later v.val.heap.size v.val, w.val.cell? ⟨h3, 1, none⟩ = some (.slice aa3 xs4.length cc3) := fun w => (N3.out.1.keep w.below).cell rfl
  have b30 : ∀ w : Later v.val.heap.size v.val, w.val.cell? ⟨g3, 0, none⟩ = some (.int .i64 n4) := fun w => (M3.out.1.keep w.below).cell rfl
  have b31 : ∀ w : Later v.val.heap.size v.val, w.val.cell? ⟨g3, 1, none⟩ = some (.slice ad3 xs4.length cp3) := fun w => (M3.out.1.keep w.below).cell rfl
  clear M0 M1 M2 M3 N0 N1 N2 N3 P1 P2 P3 P4 HZ0 HZ1 HZ2 HZ3
  obtain ⟨w, hw⟩ : ∃ w : Later v.val.heap.size v.val, w.val = v.val := ⟨Later.self _, rfl⟩
  rw [← hw]
  clear hw
  go_wp2_with (first | (go_at_call 40; (with_reducible refine (KT0.out _).mono ?_); rintro e _ ⟨rfl, w, rfl⟩) | (go_at_call 40; (with_reducible refine (KT1.out _).mono ?_); rintro e _ ⟨rfl, w, rfl⟩) | (go_at_call 40; (with_reducible refine (KT2.out _).mono ?_); rintro e _ ⟨rfl, w, rfl⟩) | (go_at_call 40; (with_reducible refine (KT3.out _).mono ?_); rintro e _ ⟨rfl, w, rfl⟩))
  go_ret
  exact Ret.of (HVB.out (v.up w)) rfl

set_option maxRecDepth 100000 in
set_option maxHeartbeats 40000000 in
theorem law_min_yes {B : Nat} {W : World} (u : Later B W) (n s k : Int) (l : List Int) (a : Option Addr) (cap : Nat) (h : IntsAt B W a l) (hlen : l.length ≤ 4611686018427387904) (e1 e8 e9 : Int) (he : MatIs n l e1) (h0 : e1 = 0) (n1 n2 n3 n4 : Int) (xs1 xs2 xs3 xs4 : List Int) (HL0 : Hid (xs1.length ≤ 4611686018427387904)) (HL1 : Hid (xs2.length ≤ 4611686018427387904)) (HL2 : Hid (xs3.length ≤ 4611686018427387904)) (HL3 : Hid (xs4.length ≤ 4611686018427387904)) (HZ0 : Hid (ZIf e1 n1 xs1)) (HZ1 : Hid (ZIf e8 n2 xs2)) (HZ2 : Hid (ZIf e8 n3 xs3)) (HZ3 : Hid (ZIf e9 n4 xs4)) (hP1 : ∀ (B : Nat) (W : World) (v : Later B W), IntsAt B W a l → Calls Try.prog 48 #[.agg #[.int .i64 n, .slice a l.length cap]] v.val (RetP B W (MatTO B n1 xs1 e1))) (hP2 : ∀ (B : Nat) (W : World) (v : Later B W), IntsAt B W a l → Calls Try.prog 49 #[.agg #[.int .i64 n, .slice a l.length cap], .int .i64 s] v.val (RetP B W (MatTO B n2 xs2 e8))) (hP3 : ∀ (B : Nat) (W : World) (v : Later B W), IntsAt B W a l → Calls Try.prog 50 #[.agg #[.int .i64 n, .slice a l.length cap], .int .i64 s] v.val (RetP B W (MatTO B n3 xs3 e8))) (hP4 : ∀ (B : Nat) (W : World) (v : Later B W), IntsAt B W a l → Calls Try.prog 51 #[.agg #[.int .i64 n, .slice a l.length cap], .int .i64 k] v.val (RetP B W (MatTO B n4 xs4 e9)))
    (b8 b9 : Bool) (he8 : e8 = errno b8 1) (he9 : e9 = errno b9 1) (L0 r : Nat) (hl0 : 0 < l.length) (hL0 : l.getD 0 0 = (L0 : Int)) (hr : r ≤ 8) (hb9 : b9 = decide (0 ≤ k ∧ k ≤ (r : Int)))
    (hS : ∀ (B : Nat) (W : World) (v : Later B W), Calls Try.prog 20 #[.int .i64 n, .int .i64 s] v.val (Ret B W (.bool b8)))
    (hSz : ∀ (B : Nat) (W : World) (v : Later B W), Calls Try.prog 44 #[.int .i64 L0] v.val (Ret B W (.int .i64 r)))
    (hQ1 : ∀ (B : Nat) (W : World) (v : Later B W), IntsAt B W a l → Calls Try.prog 43 #[.agg #[.int .i64 n, .slice a l.length cap]] v.val (RetP B W (MatO B n1 xs1)))
    (hQ2 : b8 = true → ∀ (B : Nat) (W : World) (v : Later B W), IntsAt B W a l → Calls Try.prog 45 #[.agg #[.int .i64 n, .slice a l.length cap], .int .i64 s] v.val (RetP B W (MatO B n2 xs2)))
    (hQ3 : b8 = true → ∀ (B : Nat) (W : World) (v : Later B W), IntsAt B W a l → Calls Try.prog 46 #[.agg #[.int .i64 n, .slice a l.length cap], .int .i64 s] v.val (RetP B W (MatO B n3 xs3)))
    (hQ4 : b9 = true → ∀ (B : Nat) (W : World) (v : Later B W), IntsAt B W a l → Calls Try.prog 47 #[.agg #[.int .i64 n, .slice a l.length cap], .int .i64 k] v.val (RetP B W (MatO B n4 xs4))) :
    Calls Try.prog 5 #[.agg #[.int .i64 n, .slice a l.length cap], .int .i64 s, .int .i64 k] u.val (Ret B W (.bool true)) := by
  have T0 : Hid (Two (u.val.alloc (.cells #[.int .i64 n, .slice a l.length cap] 24)) u.val.heap.size 24 (.int .i64 n) (.slice a l.length cap)) := Lib.hid (Two.new _ _ _ _)
  have hrr : u.val.heap.size < (u.val.alloc (.cells #[.int .i64 n, .slice a l.length cap] 24)).heap.size := by simp
  have hI : IntsAt (u.val.alloc (.cells #[.int .i64 n, .slice a l.length cap] 24)).heap.size (u.val.alloc (.cells #[.int .i64 n, .slice a l.length cap] 24)) a l := h.to (u.alloc _)
  have HV : Hid (∀ v : Later (u.val.alloc (.cells #[.int .i64 n, .slice a l.length cap] 24)).heap.size (u.val.alloc (.cells #[.int .i64 n, .slice a l.length cap] 24)), ∃ w : Later B W, w.val = v.val) := Lib.hid (fun v => ⟨(u.alloc _).up v, rfl⟩)
  have q0 : ∀ w : Later (u.val.alloc (.cells #[.int .i64 n, .slice a l.length cap] 24)).heap.size (u.val.alloc (.cells #[.int .i64 n, .slice a l.length cap] 24)), w.val.cell? ⟨u.val.heap.size, 0, none⟩ = some (.int .i64 n) := fun w => (T0.out.keep w.below).c0
  have q1 : ∀ w : Later (u.val.alloc (.cells #[.int .i64 n, .slice a l.length cap] 24)).heap.size (u.val.alloc (.cells #[.int .i64 n, .slice a l.length cap] 24)), w.val.cell? ⟨u.val.heap.size, 1, none⟩ = some (.slice a l.length cap) := fun w => (T0.out.keep w.below).c1
  have p0 : (u.val.alloc (.cells #[.int .i64 n, .slice a l.length cap] 24)).cell? ⟨u.val.heap.size, 0, none⟩ = some (.int .i64 n) := T0.out.c0
  have p1 : (u.val.alloc (.cells #[.int .i64 n, .slice a l.length cap] 24)).cell? ⟨u.val.heap.size, 1, none⟩ = some (.slice a l.length cap) := T0.out.c1
  have KM : Hid (Calls Try.prog 13 #[.agg #[.int .i64 n, .slice a l.length cap]] (u.val.alloc (.cells #[.int .i64 n, .slice a l.length cap] 24)) (Ret (u.val.alloc (.cells #[.int .i64 n, .slice a l.length cap] 24)).heap.size (u.val.alloc (.cells #[.int .i64 n, .slice a l.length cap] 24)) (.int .i64 e1))) := Lib.hid (c_refMatroid (Later.self _) n l a cap e1 hI hlen he)
  go_enter Try.func5, Try.ntmps5
  go_upto_region 3 with (first | (go_at_call 13; ((with_reducible refine (KM.out).mono ?_); rintro e _ ⟨rfl, v1, rfl⟩)))
  have hIV : IntsAt v1.val.heap.size v1.val a l := hI.to v1
  have r0 : ∀ w : Later v1.val.heap.size v1.val, w.val.cell? ⟨u.val.heap.size, 0, none⟩ = some (.int .i64 n) := fun w => q0 (v1.up w)
  have r1 : ∀ w : Later v1.val.heap.size v1.val, w.val.cell? ⟨u.val.heap.size, 1, none⟩ = some (.slice a l.length cap) := fun w => q1 (v1.up w)
  have HVB : Hid (∀ v : Later v1.val.heap.size v1.val, ∃ w : Later B W, w.val = v.val) := Lib.hid (fun v => HV.out (v1.up v))
  have hgu0 : u.val.heap.size < v1.val.heap.size := Nat.lt_of_lt_of_le hrr v1.size
  clear KM q0 q1 p0 p1 HV T0 hrr hI h
  generalize u.val.heap.size = gu at *
  generalize v1.val = V at *
  have P1 : Hid (∀ v : Later V.heap.size V, Calls Try.prog 48 #[.agg #[.int .i64 n, .slice a l.length cap]] v.val (RetP v.val.heap.size v.val (MatTO v.val.heap.size n1 xs1 e1))) := Lib.hid (fun v => hP1 _ _ (Later.self v.val) (hIV.to v))
  have P2 : Hid (∀ v : Later V.heap.size V, Calls Try.prog 49 #[.agg #[.int .i64 n, .slice a l.length cap], .int .i64 s] v.val (RetP v.val.heap.size v.val (MatTO v.val.heap.size n2 xs2 e8))) := Lib.hid (fun v => hP2 _ _ (Later.self v.val) (hIV.to v))
  have P3 : Hid (∀ v : Later V.heap.size V, Calls Try.prog 50 #[.agg #[.int .i64 n, .slice a l.length cap], .int .i64 s] v.val (RetP v.val.heap.size v.val (MatTO v.val.heap.size n3 xs3 e8))) := Lib.hid (fun v => hP3 _ _ (Later.self v.val) (hIV.to v))
  have P4 : Hid (∀ v : Later V.heap.size V, Calls Try.prog 51 #[.agg #[.int .i64 n, .slice a l.length cap], .int .i64 k] v.val (RetP v.val.heap.size v.val (MatTO v.val.heap.size n4 xs4 e9))) := Lib.hid (fun v => hP4 _ _ (Later.self v.val) (hIV.to v))
  clear hP1 hP2 hP3 hP4
  go_upto_region 4 with fail
  have hx1 : (V.alloc (.cells #[.int .i64 0, .slice none 0 0] 24)).heap.size = V.heap.size + 1 := by simp
  have hx2 : ((V.alloc (.cells #[.int .i64 0, .slice none 0 0] 24)).alloc (.cells #[.int .i64 0, .slice none 0 0] 24)).heap.size = V.heap.size + 2 := by simp
  have hx3 : (((V.alloc (.cells #[.int .i64 0, .slice none 0 0] 24)).alloc (.cells #[.int .i64 0, .slice none 0 0] 24)).alloc (.cells #[.int .i64 0, .slice none 0 0] 24)).heap.size = V.heap.size + 3 := by simp
  have hx4 : Hid (((((V.alloc (.cells #[.int .i64 0, .slice none 0 0] 24)).alloc (.cells #[.int .i64 0, .slice none 0 0] 24)).alloc (.cells #[.int .i64 0, .slice none 0 0] 24)).alloc (.cells #[.int .i64 0, .slice none 0 0] 24)).heap.size = V.heap.size + 4) := Lib.hid (by simp)
  have A0 : RowL (V.alloc (.cells #[.int .i64 0, .slice none 0 0] 24)) V.heap.size 24 [.int .i64 0, .slice none 0 0] := RowL.new _ _ _
  have A1 : RowL ((V.alloc (.cells #[.int .i64 0, .slice none 0 0] 24)).alloc (.cells #[.int .i64 0, .slice none 0 0] 24)) (V.alloc (.cells #[.int .i64 0, .slice none 0 0] 24)).heap.size 24 [.int .i64 0, .slice none 0 0] := RowL.new _ _ _
  have A2 : RowL (((V.alloc (.cells #[.int .i64 0, .slice none 0 0] 24)).alloc (.cells #[.int .i64 0, .slice none 0 0] 24)).alloc (.cells #[.int .i64 0, .slice none 0 0] 24)) ((V.alloc (.cells #[.int .i64 0, .slice none 0 0] 24)).alloc (.cells #[.int .i64 0, .slice none 0 0] 24)).heap.size 24 [.int .i64 0, .slice none 0 0] := RowL.new _ _ _
  have A3 : RowL ((((V.alloc (.cells #[.int .i64 0, .slice none 0 0] 24)).alloc (.cells #[.int .i64 0, .slice none 0 0] 24)).alloc (.cells #[.int .i64 0, .slice none 0 0] 24)).alloc (.cells #[.int .i64 0, .slice none 0 0] 24)) (((V.alloc (.cells #[.int .i64 0, .slice none 0 0] 24)).alloc (.cells #[.int .i64 0, .slice none 0 0] 24)).alloc (.cells #[.int .i64 0, .slice none 0 0] 24)).heap.size 24 [.int .i64 0, .slice none 0 0] := RowL.new _ _ _
  rw [hx1] at A1
  rw [hx2] at A2
  rw [hx3] at A3
  have R0 : Hid (RowL ((((V.alloc (.cells #[.int .i64 0, .slice none 0 0] 24)).alloc (.cells #[.int .i64 0, .slice none 0 0] 24)).alloc (.cells #[.int .i64 0, .slice none 0 0] 24)).alloc (.cells #[.int .i64 0, .slice none 0 0] 24)) V.heap.size 24 [.int .i64 0, .slice none 0 0]) := Lib.hid (((A0.keep ((Below.refl _ _).alloc (Nat.le_refl _) _)).keep ((Below.refl _ _).alloc (Nat.le_refl _) _)).keep ((Below.refl _ _).alloc (Nat.le_refl _) _))
  have R1 : Hid (RowL ((((V.alloc (.cells #[.int .i64 0, .slice none 0 0] 24)).alloc (.cells #[.int .i64 0, .slice none 0 0] 24)).alloc (.cells #[.int .i64 0, .slice none 0 0] 24)).alloc (.cells #[.int .i64 0, .slice none 0 0] 24)) (V.heap.size + 1) 24 [.int .i64 0, .slice none 0 0]) := Lib.hid ((A1.keep ((Below.refl _ _).alloc (Nat.le_refl _) _)).keep ((Below.refl _ _).alloc (Nat.le_refl _) _))
  have R2 : Hid (RowL ((((V.alloc (.cells #[.int .i64 0, .slice none 0 0] 24)).alloc (.cells #[.int .i64 0, .slice none 0 0] 24)).alloc (.cells #[.int .i64 0, .slice none 0 0] 24)).alloc (.cells #[.int .i64 0, .slice none 0 0] 24)) (V.heap.size + 2) 24 [.int .i64 0, .slice none 0 0]) := Lib.hid (A2.keep ((Below.refl _ _).alloc (Nat.le_refl _) _))
  have R3 : Hid (RowL ((((V.alloc (.cells #[.int .i64 0, .slice none 0 0] 24)).alloc (.cells #[.int .i64 0, .slice none 0 0] 24)).alloc (.cells #[.int .i64 0, .slice none 0 0] 24)).alloc (.cells #[.int .i64 0, .slice none 0 0] 24)) (V.heap.size + 3) 24 [.int .i64 0, .slice none 0 0]) := Lib.hid A3
  obtain ⟨v, hv⟩ : ∃ v : Later V.heap.size V, v.val = ((((V.alloc (.cells #[.int .i64 0, .slice none 0 0] 24)).alloc (.cells #[.int .i64 0, .slice none 0 0] 24)).alloc (.cells #[.int .i64 0, .slice none 0 0] 24)).alloc (.cells #[.int .i64 0, .slice none 0 0] 24)) := ⟨((((Later.self V).alloc _).alloc _).alloc _).alloc _, rfl⟩
  rw [← hv] at R0 R1 R2 R3 hx4 ⊢
  clear hv A0 A1 A2 A3 hx1 hx2 hx3
  obtain ⟨g0, e0⟩ : ∃ g, V.heap.size = g := ⟨_, rfl⟩
  obtain ⟨g1, eg1⟩ : ∃ g, V.heap.size + 1 = g := ⟨_, rfl⟩
  obtain ⟨g2, eg2⟩ : ∃ g, V.heap.size + 2 = g := ⟨_, rfl⟩
  obtain ⟨g3, eg3⟩ : ∃ g, V.heap.size + 3 = g := ⟨_, rfl⟩
  try rw [show V.heap.size + 1 + 1 + 1 = V.heap.size + 3 from rfl]
  try rw [show V.heap.size + 1 + 1 = V.heap.size + 2 from rfl]
  rw [eg1] at R1
  rw [eg2] at R2
  rw [eg3] at R3
  rw [eg3, eg2, eg1]
  subst h0
  have Q1 : Hid (∀ v : Later V.heap.size V, Calls Try.prog 43 #[.agg #[.int .i64 n, .slice a l.length cap]] v.val (RetP v.val.heap.size v.val (MatO v.val.heap.size n1 xs1))) := Lib.hid (fun v => hQ1 _ _ (Later.self v.val) (hIV.to v))
  have Q2 : Hid (b8 = true → ∀ v : Later V.heap.size V, Calls Try.prog 45 #[.agg #[.int .i64 n, .slice a l.length cap], .int .i64 s] v.val (RetP v.val.heap.size v.val (MatO v.val.heap.size n2 xs2))) := Lib.hid (fun hb v => hQ2 hb _ _ (Later.self v.val) (hIV.to v))
  have Q3 : Hid (b8 = true → ∀ v : Later V.heap.size V, Calls Try.prog 46 #[.agg #[.int .i64 n, .slice a l.length cap], .int .i64 s] v.val (RetP v.val.heap.size v.val (MatO v.val.heap.size n3 xs3))) := Lib.hid (fun hb v => hQ3 hb _ _ (Later.self v.val) (hIV.to v))
  have Q4 : Hid (b9 = true → ∀ v : Later V.heap.size V, Calls Try.prog 47 #[.agg #[.int .i64 n, .slice a l.length cap], .int .i64 k] v.val (RetP v.val.heap.size v.val (MatO v.val.heap.size n4 xs4))) := Lib.hid (fun hb v => hQ4 hb _ _ (Later.self v.val) (hIV.to v))
  have QS : Hid (∀ (B : Nat) (W : World) (v : Later B W), Calls Try.prog 20 #[.int .i64 n, .int .i64 s] v.val (Ret B W (.bool b8))) := Lib.hid hS
  have QZ : Hid (∀ (B : Nat) (W : World) (v : Later B W), Calls Try.prog 44 #[.int .i64 L0] v.val (Ret B W (.int .i64 r))) := Lib.hid hSz
  have QB8 : Hid (∀ (B : Nat) (W : World) (v : Later B W), Calls Try.prog 19 #[.bool b8, .int .i64 1] v.val (Ret B W (.int .i64 e8))) := Lib.hid (fun B W v => by rw [he8]; exact c_bad v b8 1)
  have QB9 : Hid (∀ (B : Nat) (W : World) (v : Later B W), Calls Try.prog 19 #[.bool b9, .int .i64 1] v.val (Ret B W (.int .i64 e9))) := Lib.hid (fun B W v => by rw [he9]; exact c_bad v b9 1)
  obtain ⟨bl, ol, hae, hbl, hcl⟩ := hIV.at hl0
  subst hae
  have cl : ∀ w : Later V.heap.size V, w.val.cell? ⟨bl, ol, none⟩ = some (.int .i64 (L0 : Int)) := fun w => by
    have := hcl w 0 hl0
    rwa [hL0, Nat.add_zero] at this
  have HB9 := Lib.hid hb9
  have HE8 := Lib.hid he8
  have HE9 := Lib.hid he9
  clear hS hSz hQ1 hQ2 hQ3 hQ4 hcl hbl he8 he9 hL0 hb9
  have HG := Lib.hid (And.intro eg1 (And.intro eg2 eg3))
  have l0 : V.heap.size < v.val.heap.size := by have := hx4.out; omega
  have l01 : Hid (V.heap.size ≠ g1 ∧ V.heap.size ≠ g2 ∧ V.heap.size ≠ g3 ∧ g1 ≠ g2 ∧ g1 ≠ g3 ∧ g2 ≠ g3 ∧ V.heap.size < g3 + 1 ∧ g1 < g3 + 1 ∧ g2 < g3 + 1 ∧ V.heap.size ≤ g1 ∧ V.heap.size ≤ g2 ∧ V.heap.size ≤ g3) := Lib.hid (by omega)
  have hbx : Hid (g3 + 1 ≤ v.val.heap.size) := Lib.hid (by have := hx4.out; omega)
  clear eg1 eg2 eg3 e0 g0 hx4 HG
  have KQ1 := Lib.hid (Q1.out v)
  have f0 : ∀ (w : Later v.val.heap.size v.val), w.val.cell? ⟨V.heap.size, 0, none⟩ = some (.int .i64 0) := fun w => (R0.out.keep_at w.below l0).cell rfl
  have z0 : ∀ (w : Later v.val.heap.size v.val), w.val.frozen? ⟨V.heap.size, 0, none⟩ = false := fun w => (R0.out.keep_at w.below l0).fz 0
  have f1 : ∀ (w : Later v.val.heap.size v.val) (x0 : Value), (w.val.setCell ⟨V.heap.size, 0, none⟩ x0).cell? ⟨V.heap.size, 1, none⟩ = some (.slice none 0 0) := fun w x0 => ((R0.out.keep_at w.below l0).set 0 x0).cell rfl
  have z1 : ∀ (w : Later v.val.heap.size v.val) (x0 : Value), (w.val.setCell ⟨V.heap.size, 0, none⟩ x0).frozen? ⟨V.heap.size, 1, none⟩ = false := fun w x0 => ((R0.out.keep_at w.below l0).set 0 x0).fz 1
  go_upto_region 6 with (first | (go_at_call 43; (with_reducible refine (KQ1.out).mono ?_); rintro e _ ⟨_, rfl, ⟨ad0, cp0, rfl, hO⟩, y, rfl⟩))
  obtain ⟨na, nb, nc, nd, ne, nf, na1, nb1, nc1, ma, mb, mc⟩ := l01.out
  have T0 : Hid (MO (g3 + 1) ((y.val.setCell ⟨V.heap.size, 0, none⟩ (.int .i64 n1)).setCell ⟨V.heap.size, 1, none⟩ (.slice ad0 xs1.length cp0)) V.heap.size n1 ad0 cp0 xs1) := Lib.hid (MO.fill (R0.out.keep y.below) (hO.mono hbx.out) na1)
  have T1 : Hid (RowL ((y.val.setCell ⟨V.heap.size, 0, none⟩ (.int .i64 n1)).setCell ⟨V.heap.size, 1, none⟩ (.slice ad0 xs1.length cp0)) g1 24 [.int .i64 0, .slice none 0 0]) := Lib.hid (((R1.out.keep y.below).other na 0 _).other na 1 _)
  have T2 : Hid (RowL ((y.val.setCell ⟨V.heap.size, 0, none⟩ (.int .i64 n1)).setCell ⟨V.heap.size, 1, none⟩ (.slice ad0 xs1.length cp0)) g2 24 [.int .i64 0, .slice none 0 0]) := Lib.hid (((R2.out.keep y.below).other nb 0 _).other nb 1 _)
  have T3 : Hid (RowL ((y.val.setCell ⟨V.heap.size, 0, none⟩ (.int .i64 n1)).setCell ⟨V.heap.size, 1, none⟩ (.slice ad0 xs1.length cp0)) g3 24 [.int .i64 0, .slice none 0 0]) := Lib.hid (((R3.out.keep y.below).other nc 0 _).other nc 1 _)
  have hb1 : Hid (g3 + 1 ≤ (((y.val.setCell ⟨V.heap.size, 0, none⟩ (.int .i64 n1)).setCell ⟨V.heap.size, 1, none⟩ (.slice ad0 xs1.length cp0))).heap.size) := Lib.hid (by have := y.size; have := hbx.out; simp; omega)
  obtain ⟨vb, hvb⟩ : ∃ x : Later V.heap.size V, x.val = ((y.val.setCell ⟨V.heap.size, 0, none⟩ (.int .i64 n1)).setCell ⟨V.heap.size, 1, none⟩ (.slice ad0 xs1.length cp0)) := by
    obtain ⟨x1, hx1⟩ := later_set ⟨v.up y, rfl⟩ (g := V.heap.size) (i := 0) (Nat.le_refl _) (.int .i64 n1)
    exact later_set ⟨x1, hx1⟩ (g := V.heap.size) (i := 1) (Nat.le_refl _) (.slice ad0 xs1.length cp0)
  rw [← hvb] at T0 T1 T2 T3 hb1 ⊢
  clear hvb f0 z0 f1 z1 KQ1 hO R0 R1 R2 R3 hbx l0 na nb nc nd ne nf na1 nb1 nc1 ma mb mc Q1
  have KI := Lib.hid (fun w : Later vb.val.heap.size vb.val => QS.out _ _ w)
  have KB8 := Lib.hid (fun w : Later vb.val.heap.size vb.val => QB8.out _ _ w)
  have KB9 := Lib.hid (fun w : Later vb.val.heap.size vb.val => QB9.out _ _ w)
  have KZ := Lib.hid (fun w : Later vb.val.heap.size vb.val => QZ.out _ _ w)
  have t0 : ∀ w : Later vb.val.heap.size vb.val, w.val.cell? ⟨gu, 0, none⟩ = some (.int .i64 n) := fun w => r0 (vb.up w)
  have t1 : ∀ w : Later vb.val.heap.size vb.val, w.val.cell? ⟨gu, 1, none⟩ = some (.slice (some ⟨bl, ol, none⟩) l.length cap) := fun w => r1 (vb.up w)
  have t2 : ∀ w : Later vb.val.heap.size vb.val, w.val.cell? ⟨bl, ol, none⟩ = some (.int .i64 (L0 : Int)) := fun w => cl (vb.up w)
  clear cl QS QB8 QB9 QZ
  obtain ⟨w, hw⟩ : ∃ w : Later vb.val.heap.size vb.val, w.val = vb.val := ⟨Later.self _, rfl⟩
  rw [← hw]
  clear hw
  have hk3 : k < 0 ∨ (0 ≤ k ∧ (r : Int) < k) ∨ (0 ≤ k ∧ k ≤ (r : Int)) := by omega
  rcases hk3 with hk | hk | hk
  · have hb : b9 = false := by rw [HB9.out]; exact decide_eq_false (by omega)
    subst hb
    have he9 : e9 = 1 := HE9.out
    subst he9
    have KB9d := KB9
    go_upto_region 8 with (first | (go_at_call 20; (with_reducible refine (KI.out _).mono ?_); rintro e _ ⟨rfl, w, rfl⟩) | (go_at_call 44; go_loud ((with_reducible refine (KZ.out _).mono ?_); rintro e _ ⟨rfl, w, rfl⟩)) | (go_at_call 19; (with_reducible refine (KB8.out _).mono ?_); rintro e _ ⟨rfl, w, rfl⟩) | (go_at_call 19; (with_reducible refine (KB9.out _).mono ?_); rintro e _ ⟨rfl, w, rfl⟩) | (go_at_call 19; (with_reducible refine (KB9d.out _).mono ?_); rintro e _ ⟨rfl, w, rfl⟩))
    have U0 := Lib.hid (T0.out.later w)
    have U1 := Lib.hid (T1.out.keep w.below)
    have U2 := Lib.hid (T2.out.keep w.below)
    have U3 := Lib.hid (T3.out.keep w.below)
    have hb2 : Hid (g3 + 1 ≤ w.val.heap.size) := Lib.hid (Nat.le_trans hb1.out w.size)
    obtain ⟨v, hv⟩ : ∃ v : Later V.heap.size V, v.val = w.val := ⟨vb.up w, rfl⟩
    rw [← hv] at U0 U1 U2 U3 hb2 ⊢
    clear hv T0 T1 T2 T3 hb1 KI KB8 KB9 KB9d KZ t0 t1 t2 w HB9 HE9
    cases b8
    · have he8 : e8 = 1 := HE8.out
      subst he8
      have y1 : n2 = 0 ∧ xs2 = [] := HZ1.out (by decide)
      obtain ⟨ad1, hd1⟩ : ∃ x : Option Addr, x = none := ⟨_, rfl⟩
      obtain ⟨cp1, hc1⟩ : ∃ x : Nat, x = 0 := ⟨_, rfl⟩
      have O1 : Hid (MO (g3 + 1) v.val g1 n2 ad1 cp1 xs2) := Lib.hid (by rw [y1.1, y1.2, hd1, hc1]; exact ⟨U1.out, Own.nil _ _⟩)
      have y2 : n3 = 0 ∧ xs3 = [] := HZ2.out (by decide)
      obtain ⟨ad2, hd2⟩ : ∃ x : Option Addr, x = none := ⟨_, rfl⟩
      obtain ⟨cp2, hc2⟩ : ∃ x : Nat, x = 0 := ⟨_, rfl⟩
      have O2 : Hid (MO (g3 + 1) v.val g2 n3 ad2 cp2 xs3) := Lib.hid (by rw [y2.1, y2.2, hd2, hc2]; exact ⟨U2.out, Own.nil _ _⟩)
      have O0 := U0
      have O3 := U3
      clear U0 U1 U2 U3 y1 y2 hd1 hd2 hc1 hc2 Q2 Q3 HE8
      have y3 : n4 = 0 ∧ xs4 = [] := HZ3.out (by decide)
      obtain ⟨ad3, hd3⟩ : ∃ x : Option Addr, x = none := ⟨_, rfl⟩
      obtain ⟨cp3, hc3⟩ : ∃ x : Nat, x = 0 := ⟨_, rfl⟩
      have P3x : Hid (MO (g3 + 1) v.val g3 n4 ad3 cp3 xs4) := Lib.hid (by rw [y3.1, y3.2, hd3, hc3]; exact ⟨O3.out, Own.nil _ _⟩)
      clear O3 y3 hd3 hc3
      have O3 := P3x
      clear P3x
      have M0 : Hid (MB v.val V.heap.size n1 ad0 cp0 xs1) := Lib.hid ⟨O0.out.1, O0.out.2.reads⟩
      have M1 : Hid (MB v.val g1 n2 ad1 cp1 xs2) := Lib.hid ⟨O1.out.1, O1.out.2.reads⟩
      have M2 : Hid (MB v.val g2 n3 ad2 cp2 xs3) := Lib.hid ⟨O2.out.1, O2.out.2.reads⟩
      have M3 : Hid (MB v.val g3 n4 ad3 cp3 xs4) := Lib.hid ⟨O3.out.1, O3.out.2.reads⟩
      clear O0 O1 O2 O3
      have KP := Lib.hid (P1.out v)
      go_upto_region 13 with (first | (go_at_call 48; (with_reducible refine (KP.out).mono ?_); rintro e _ ⟨_, rfl, ⟨aa0, cc0, rfl, hO⟩, y, rfl⟩))
      have N0 : Hid (MB (y.val.alloc (.cells #[.int .i64 n1, .slice aa0 xs1.length cc0] 24)) y.val.heap.size n1 aa0 cc0 xs1) := Lib.hid ⟨RowL.new _ _ _, (hO.reads).to ((Later.self y.val).alloc _)⟩
      have M0x := Lib.hid (M0.out.later (y.alloc (.cells #[.int .i64 n1, .slice aa0 xs1.length cc0] 24)))
      have M1x := Lib.hid (M1.out.later (y.alloc (.cells #[.int .i64 n1, .slice aa0 xs1.length cc0] 24)))
      have M2x := Lib.hid (M2.out.later (y.alloc (.cells #[.int .i64 n1, .slice aa0 xs1.length cc0] 24)))
      have M3x := Lib.hid (M3.out.later (y.alloc (.cells #[.int .i64 n1, .slice aa0 xs1.length cc0] 24)))
      obtain ⟨v', hv'⟩ : ∃ v' : Later V.heap.size V, v'.val = (y.val.alloc (.cells #[.int .i64 n1, .slice aa0 xs1.length cc0] 24)) := ⟨v.up (y.alloc _), rfl⟩
      rw [show ((y.alloc (.cells #[.int .i64 n1, .slice aa0 xs1.length cc0] 24)).val) = (y.val.alloc (.cells #[.int .i64 n1, .slice aa0 xs1.length cc0] 24)) from rfl, ← hv'] at M0x
      rw [show ((y.alloc (.cells #[.int .i64 n1, .slice aa0 xs1.length cc0] 24)).val) = (y.val.alloc (.cells #[.int .i64 n1, .slice aa0 xs1.length cc0] 24)) from rfl, ← hv'] at M1x
      rw [show ((y.alloc (.cells #[.int .i64 n1, .slice aa0 xs1.length cc0] 24)).val) = (y.val.alloc (.cells #[.int .i64 n1, .slice aa0 xs1.length cc0] 24)) from rfl, ← hv'] at M2x
      rw [show ((y.alloc (.cells #[.int .i64 n1, .slice aa0 xs1.length cc0] 24)).val) = (y.val.alloc (.cells #[.int .i64 n1, .slice aa0 xs1.length cc0] 24)) from rfl, ← hv'] at M3x
      rw [← hv'] at N0 ⊢
      clear M0 M1 M2 M3 KP hv' hO
      have M0 := M0x
      have M1 := M1x
      have M2 := M2x
      have M3 := M3x
      clear M0x M1x M2x M3x
      generalize y.val.heap.size = h0 at *
      clear y
      obtain ⟨v, hv⟩ : ∃ x : Later V.heap.size V, x = v' := ⟨_, rfl⟩
      rw [← hv] at M0 M1 M2 M3 N0 ⊢
      clear hv v'
      have KP := Lib.hid (P2.out v)
      go_upto_region 14 with (first | (go_at_call 49; (with_reducible refine (KP.out).mono ?_); rintro e _ ⟨_, rfl, ⟨aa1, cc1, rfl, hO⟩, y, rfl⟩))
      have N1 : Hid (MB (y.val.alloc (.cells #[.int .i64 n2, .slice aa1 xs2.length cc1] 24)) y.val.heap.size n2 aa1 cc1 xs2) := Lib.hid ⟨RowL.new _ _ _, (hO.reads).to ((Later.self y.val).alloc _)⟩
      have M0x := Lib.hid (M0.out.later (y.alloc (.cells #[.int .i64 n2, .slice aa1 xs2.length cc1] 24)))
      have M1x := Lib.hid (M1.out.later (y.alloc (.cells #[.int .i64 n2, .slice aa1 xs2.length cc1] 24)))
      have M2x := Lib.hid (M2.out.later (y.alloc (.cells #[.int .i64 n2, .slice aa1 xs2.length cc1] 24)))
      have M3x := Lib.hid (M3.out.later (y.alloc (.cells #[.int .i64 n2, .slice aa1 xs2.length cc1] 24)))
      have N0x := Lib.hid (N0.out.later (y.alloc (.cells #[.int .i64 n2, .slice aa1 xs2.length cc1] 24)))
      obtain ⟨v', hv'⟩ : ∃ v' : Later V.heap.size V, v'.val = (y.val.alloc (.cells #[.int .i64 n2, .slice aa1 xs2.length cc1] 24)) := ⟨v.up (y.alloc _), rfl⟩
      rw [show ((y.alloc (.cells #[.int .i64 n2, .slice aa1 xs2.length cc1] 24)).val) = (y.val.alloc (.cells #[.int .i64 n2, .slice aa1 xs2.length cc1] 24)) from rfl, ← hv'] at M0x
      rw [show ((y.alloc (.cells #[.int .i64 n2, .slice aa1 xs2.length cc1] 24)).val) = (y.val.alloc (.cells #[.int .i64 n2, .slice aa1 xs2.length cc1] 24)) from rfl, ← hv'] at M1x
      rw [show ((y.alloc (.cells #[.int .i64 n2, .slice aa1 xs2.length cc1] 24)).val) = (y.val.alloc (.cells #[.int .i64 n2, .slice aa1 xs2.length cc1] 24)) from rfl, ← hv'] at M2x
      rw [show ((y.alloc (.cells #[.int .i64 n2, .slice aa1 xs2.length cc1] 24)).val) = (y.val.alloc (.cells #[.int .i64 n2, .slice aa1 xs2.length cc1] 24)) from rfl, ← hv'] at M3x
      rw [show ((y.alloc (.cells #[.int .i64 n2, .slice aa1 xs2.length cc1] 24)).val) = (y.val.alloc (.cells #[.int .i64 n2, .slice aa1 xs2.length cc1] 24)) from rfl, ← hv'] at N0x
      rw [← hv'] at N1 ⊢
      clear M0 M1 M2 M3 N0 KP hv' hO
      have M0 := M0x
      have M1 := M1x
      have M2 := M2x
      have M3 := M3x
      have N0 := N0x
      clear M0x M1x M2x M3x N0x
      generalize y.val.heap.size = h1 at *
      clear y
      obtain ⟨v, hv⟩ : ∃ x : Later V.heap.size V, x = v' := ⟨_, rfl⟩
      rw [← hv] at M0 M1 M2 M3 N0 N1 ⊢
      clear hv v'
      have KP := Lib.hid (P3.out v)
      go_upto_region 15 with (first | (go_at_call 50; (with_reducible refine (KP.out).mono ?_); rintro e _ ⟨_, rfl, ⟨aa2, cc2, rfl, hO⟩, y, rfl⟩))
      have N2 : Hid (MB (y.val.alloc (.cells #[.int .i64 n3, .slice aa2 xs3.length cc2] 24)) y.val.heap.size n3 aa2 cc2 xs3) := Lib.hid ⟨RowL.new _ _ _, (hO.reads).to ((Later.self y.val).alloc _)⟩
      have M0x := Lib.hid (M0.out.later (y.alloc (.cells #[.int .i64 n3, .slice aa2 xs3.length cc2] 24)))
      have M1x := Lib.hid (M1.out.later (y.alloc (.cells #[.int .i64 n3, .slice aa2 xs3.length cc2] 24)))
      have M2x := Lib.hid (M2.out.later (y.alloc (.cells #[.int .i64 n3, .slice aa2 xs3.length cc2] 24)))
      have M3x := Lib.hid (M3.out.later (y.alloc (.cells #[.int .i64 n3, .slice aa2 xs3.length cc2] 24)))
      have N0x := Lib.hid (N0.out.later (y.alloc (.cells #[.int .i64 n3, .slice aa2 xs3.length cc2] 24)))
      have N1x := Lib.hid (N1.out.later (y.alloc (.cells #[.int .i64 n3, .slice aa2 xs3.length cc2] 24)))
      obtain ⟨v', hv'⟩ : ∃ v' : Later V.heap.size V, v'.val = (y.val.alloc (.cells #[.int .i64 n3, .slice aa2 xs3.length cc2] 24)) := ⟨v.up (y.alloc _), rfl⟩
      rw [show ((y.alloc (.cells #[.int .i64 n3, .slice aa2 xs3.length cc2] 24)).val) = (y.val.alloc (.cells #[.int .i64 n3, .slice aa2 xs3.length cc2] 24)) from rfl, ← hv'] at M0x
      rw [show ((y.alloc (.cells #[.int .i64 n3, .slice aa2 xs3.length cc2] 24)).val) = (y.val.alloc (.cells #[.int .i64 n3, .slice aa2 xs3.length cc2] 24)) from rfl, ← hv'] at M1x
      rw [show ((y.alloc (.cells #[.int .i64 n3, .slice aa2 xs3.length cc2] 24)).val) = (y.val.alloc (.cells #[.int .i64 n3, .slice aa2 xs3.length cc2] 24)) from rfl, ← hv'] at M2x
      rw [show ((y.alloc (.cells #[.int .i64 n3, .slice aa2 xs3.length cc2] 24)).val) = (y.val.alloc (.cells #[.int .i64 n3, .slice aa2 xs3.length cc2] 24)) from rfl, ← hv'] at M3x
      rw [show ((y.alloc (.cells #[.int .i64 n3, .slice aa2 xs3.length cc2] 24)).val) = (y.val.alloc (.cells #[.int .i64 n3, .slice aa2 xs3.length cc2] 24)) from rfl, ← hv'] at N0x
      rw [show ((y.alloc (.cells #[.int .i64 n3, .slice aa2 xs3.length cc2] 24)).val) = (y.val.alloc (.cells #[.int .i64 n3, .slice aa2 xs3.length cc2] 24)) from rfl, ← hv'] at N1x
      rw [← hv'] at N2 ⊢
      clear M0 M1 M2 M3 N0 N1 KP hv' hO
      have M0 := M0x
      have M1 := M1x
      have M2 := M2x
      have M3 := M3x
      have N0 := N0x
      have N1 := N1x
      clear M0x M1x M2x M3x N0x N1x
      generalize y.val.heap.size = h2 at *
      clear y
      obtain ⟨v, hv⟩ : ∃ x : Later V.heap.size V, x = v' := ⟨_, rfl⟩
      rw [← hv] at M0 M1 M2 M3 N0 N1 N2 ⊢
      clear hv v'
      have KP := Lib.hid (P4.out v)
      go_upto_region 16 with (first | (go_at_call 51; (with_reducible refine (KP.out).mono ?_); rintro e _ ⟨_, rfl, ⟨aa3, cc3, rfl, hO⟩, y, rfl⟩))
      have N3 : Hid (MB (y.val.alloc (.cells #[.int .i64 n4, .slice aa3 xs4.length cc3] 24)) y.val.heap.size n4 aa3 cc3 xs4) := Lib.hid ⟨RowL.new _ _ _, (hO.reads).to ((Later.self y.val).alloc _)⟩
      have M0x := Lib.hid (M0.out.later (y.alloc (.cells #[.int .i64 n4, .slice aa3 xs4.length cc3] 24)))
      have M1x := Lib.hid (M1.out.later (y.alloc (.cells #[.int .i64 n4, .slice aa3 xs4.length cc3] 24)))
      have M2x := Lib.hid (M2.out.later (y.alloc (.cells #[.int .i64 n4, .slice aa3 xs4.length cc3] 24)))
      have M3x := Lib.hid (M3.out.later (y.alloc (.cells #[.int .i64 n4, .slice aa3 xs4.length cc3] 24)))
      have N0x := Lib.hid (N0.out.later (y.alloc (.cells #[.int .i64 n4, .slice aa3 xs4.length cc3] 24)))
      have N1x := Lib.hid (N1.out.later (y.alloc (.cells #[.int .i64 n4, .slice aa3 xs4.length cc3] 24)))
      have N2x := Lib.hid (N2.out.later (y.alloc (.cells #[.int .i64 n4, .slice aa3 xs4.length cc3] 24)))
      obtain ⟨v', hv'⟩ : ∃ v' : Later V.heap.size V, v'.val = (y.val.alloc (.cells #[.int .i64 n4, .slice aa3 xs4.length cc3] 24)) := ⟨v.up (y.alloc _), rfl⟩
      rw [show ((y.alloc (.cells #[.int .i64 n4, .slice aa3 xs4.length cc3] 24)).val) = (y.val.alloc (.cells #[.int .i64 n4, .slice aa3 xs4.length cc3] 24)) from rfl, ← hv'] at M0x
      rw [show ((y.alloc (.cells #[.int .i64 n4, .slice aa3 xs4.length cc3] 24)).val) = (y.val.alloc (.cells #[.int .i64 n4, .slice aa3 xs4.length cc3] 24)) from rfl, ← hv'] at M1x
      rw [show ((y.alloc (.cells #[.int .i64 n4, .slice aa3 xs4.length cc3] 24)).val) = (y.val.alloc (.cells #[.int .i64 n4, .slice aa3 xs4.length cc3] 24)) from rfl, ← hv'] at M2x
      rw [show ((y.alloc (.cells #[.int .i64 n4, .slice aa3 xs4.length cc3] 24)).val) = (y.val.alloc (.cells #[.int .i64 n4, .slice aa3 xs4.length cc3] 24)) from rfl, ← hv'] at M3x
      rw [show ((y.alloc (.cells #[.int .i64 n4, .slice aa3 xs4.length cc3] 24)).val) = (y.val.alloc (.cells #[.int .i64 n4, .slice aa3 xs4.length cc3] 24)) from rfl, ← hv'] at N0x
      rw [show ((y.alloc (.cells #[.int .i64 n4, .slice aa3 xs4.length cc3] 24)).val) = (y.val.alloc (.cells #[.int .i64 n4, .slice aa3 xs4.length cc3] 24)) from rfl, ← hv'] at N1x
      rw [show ((y.alloc (.cells #[.int .i64 n4, .slice aa3 xs4.length cc3] 24)).val) = (y.val.alloc (.cells #[.int .i64 n4, .slice aa3 xs4.length cc3] 24)) from rfl, ← hv'] at N2x
      rw [← hv'] at N3 ⊢
      clear M0 M1 M2 M3 N0 N1 N2 KP hv' hO
      have M0 := M0x
      have M1 := M1x
      have M2 := M2x
      have M3 := M3x
      have N0 := N0x
      have N1 := N1x
      have N2 := N2x
      clear M0x M1x M2x M3x N0x N1x N2x
      generalize y.val.heap.size = h3 at *
      clear y
      obtain ⟨v, hv⟩ : ∃ x : Later V.heap.size V, x = v' := ⟨_, rfl⟩
      rw [← hv] at M0 M1 M2 M3 N0 N1 N2 N3 ⊢
      clear hv v'
      have KT0 : Hid (∀ w : Later v.val.heap.size v.val, Calls Try.prog 40 #[.agg #[.int .i64 n1, .slice aa0 xs1.length cc0], .int .i64 0, .agg #[.int .i64 n1, .slice ad0 xs1.length cp0], .int .i64 0] w.val (Ret v.val.heap.size v.val (.bool true))) := Lib.hid (fun w => c_told w n1 n1 xs1 xs1 aa0 ad0 cc0 cp0 0 0 N0.out.2 M0.out.2 HL0.out rfl (told_ok HZ0.out))
      have a00 : ∀ w : Later v.val.heap.size v.val, w.val.cell? ⟨h0, 0, none⟩ = some (.int .i64 n1) := fun w => (N0.out.1.keep w.below).cell rfl
      have a01 : ∀ w : Later v.val.heap.size v.val, w.val.cell? ⟨h0, 1, none⟩ = some (.slice aa0 xs1.length cc0) := fun w => (N0.out.1.keep w.below).cell rfl
      have b00 : ∀ w : Later v.val.heap.size v.val, w.val.cell? ⟨V.heap.size, 0, none⟩ = some (.int .i64 n1) := fun w => (M0.out.1.keep w.below).cell rfl
      have b01 : ∀ w : Later v.val.heap.size v.val, w.val.cell? ⟨V.heap.size, 1, none⟩ = some (.slice ad0 xs1.length cp0) := fun w => (M0.out.1.keep w.below).cell rfl
      have KT1 : Hid (∀ w : Later v.val.heap.size v.val, Calls Try.prog 40 #[.agg #[.int .i64 n2, .slice aa1 xs2.length cc1], .int .i64 1, .agg #[.int .i64 n2, .slice ad1 xs2.length cp1], .int .i64 1] w.val (Ret v.val.heap.size v.val (.bool true))) := Lib.hid (fun w => c_told w n2 n2 xs2 xs2 aa1 ad1 cc1 cp1 1 1 N1.out.2 M1.out.2 HL1.out rfl (told_ok HZ1.out))
      have a10 : ∀ w : Later v.val.heap.size v.val, w.val.cell? ⟨h1, 0, none⟩ = some (.int .i64 n2) := fun w => (N1.out.1.keep w.below).cell rfl
      have a11 : ∀ w : Later v.val.heap.size v.val, w.val.cell? ⟨h1, 1, none⟩ = some (.slice aa1 xs2.length cc1) := fun w => (N1.out.1.keep w.below).cell rfl
      have b10 : ∀ w : Later v.val.heap.size v.val, w.val.cell? ⟨g1, 0, none⟩ = some (.int .i64 n2) := fun w => (M1.out.1.keep w.below).cell rfl
      have b11 : ∀ w : Later v.val.heap.size v.val, w.val.cell? ⟨g1, 1, none⟩ = some (.slice ad1 xs2.length cp1) := fun w => (M1.out.1.keep w.below).cell rfl
      have KT2 : Hid (∀ w : Later v.val.heap.size v.val, Calls Try.prog 40 #[.agg #[.int .i64 n3, .slice aa2 xs3.length cc2], .int .i64 1, .agg #[.int .i64 n3, .slice ad2 xs3.length cp2], .int .i64 1] w.val (Ret v.val.heap.size v.val (.bool true))) := Lib.hid (fun w => c_told w n3 n3 xs3 xs3 aa2 ad2 cc2 cp2 1 1 N2.out.2 M2.out.2 HL2.out rfl (told_ok HZ2.out))
      have a20 : ∀ w : Later v.val.heap.size v.val, w.val.cell? ⟨h2, 0, none⟩ = some (.int .i64 n3) := fun w => (N2.out.1.keep w.below).cell rfl
      have a21 : ∀ w : Later v.val.heap.size v.val, w.val.cell? ⟨h2, 1, none⟩ = some (.slice aa2 xs3.length cc2) := fun w => (N2.out.1.keep w.below).cell rfl
      have b20 : ∀ w : Later v.val.heap.size v.val, w.val.cell? ⟨g2, 0, none⟩ = some (.int .i64 n3) := fun w => (M2.out.1.keep w.below).cell rfl
      have b21 : ∀ w : Later v.val.heap.size v.val, w.val.cell? ⟨g2, 1, none⟩ = some (.slice ad2 xs3.length cp2) := fun w => (M2.out.1.keep w.below).cell rfl
      have KT3 : Hid (∀ w : Later v.val.heap.size v.val, Calls Try.prog 40 #[.agg #[.int .i64 n4, .slice aa3 xs4.length cc3], .int .i64 1, .agg #[.int .i64 n4, .slice ad3 xs4.length cp3], .int .i64 1] w.val (Ret v.val.heap.size v.val (.bool true))) := Lib.hid (fun w => c_told w n4 n4 xs4 xs4 aa3 ad3 cc3 cp3 1 1 N3.out.2 M3.out.2 HL3.out rfl (told_ok HZ3.out))
      have a30 : ∀ w : Later v.val.heap.size v.val, w.val.cell? ⟨h3, 0, none⟩ = some (.int .i64 n4) := fun w => (N3.out.1.keep w.below).cell rfl
      have a31 : ∀ w : Later v.val.heap.size v.val, w.val.cell? ⟨h3, 1, none⟩ = some (.slice aa3 xs4.length cc3) := fun w => (N3.out.1.keep w.below).cell rfl
      have b30 : ∀ w : Later v.val.heap.size v.val, w.val.cell? ⟨g3, 0, none⟩ = some (.int .i64 n4) := fun w => (M3.out.1.keep w.below).cell rfl
      have b31 : ∀ w : Later v.val.heap.size v.val, w.val.cell? ⟨g3, 1, none⟩ = some (.slice ad3 xs4.length cp3) := fun w => (M3.out.1.keep w.below).cell rfl
      clear M0 M1 M2 M3 N0 N1 N2 N3 P1 P2 P3 P4 HZ0 HZ1 HZ2 HZ3
      obtain ⟨w, hw⟩ : ∃ w : Later v.val.heap.size v.val, w.val = v.val := ⟨Later.self _, rfl⟩
      rw [← hw]
      clear hw
      go_wp2_with (first | (go_at_call 40; (with_reducible refine (KT0.out _).mono ?_); rintro e _ ⟨rfl, w, rfl⟩) | (go_at_call 40; (with_reducible refine (KT1.out _).mono ?_); rintro e _ ⟨rfl, w, rfl⟩) | (go_at_call 40; (with_reducible refine (KT2.out _).mono ?_); rintro e _ ⟨rfl, w, rfl⟩) | (go_at_call 40; (with_reducible refine (KT3.out _).mono ?_); rintro e _ ⟨rfl, w, rfl⟩))
      go_ret
      exact Ret.of (HVB.out (v.up w)) rfl
    · have he8 : e8 = 0 := HE8.out
      subst he8
      obtain ⟨na, nb, nc, nd, ne, nf, na1, nb1, nc1, ma, mb, mc⟩ := l01.out
      have lt1 : g1 < v.val.heap.size := U1.out.lt
      have lt2 : g2 < v.val.heap.size := U2.out.lt
      have K2d : Hid (Calls Try.prog 45 #[.agg #[.int .i64 n, .slice (some ⟨bl, ol, none⟩) l.length cap], .int .i64 s] v.val.drew (RetP v.val.heap.size v.val (MatO v.val.heap.size n2 xs2))) := Lib.hid ((Q2.out (by trivial) v.drew).mono (by
        rintro e _ ⟨_, rfl, ⟨ad, cp, rfl, hO⟩, y, rfl⟩
        exact RetP.mk ((Later.self v.val).drew.up y) ⟨ad, cp, rfl, hO⟩))
      have K3 : Hid (∀ w : Later v.val.heap.size v.val, Calls Try.prog 46 #[.agg #[.int .i64 n, .slice (some ⟨bl, ol, none⟩) l.length cap], .int .i64 s] w.val (RetP w.val.heap.size w.val (MatO w.val.heap.size n3 xs3))) := Lib.hid (fun w => Q3.out (by trivial) (v.up w))
      have f0 : ∀ (w : Later v.val.heap.size v.val), w.val.cell? ⟨g1, 0, none⟩ = some (.int .i64 0) := fun w => (U1.out.keep_at w.below lt1).cell rfl
      have z0 : ∀ (w : Later v.val.heap.size v.val), w.val.frozen? ⟨g1, 0, none⟩ = false := fun w => (U1.out.keep_at w.below lt1).fz 0
      have f1 : ∀ (w : Later v.val.heap.size v.val) (x0 : Value), (w.val.setCell ⟨g1, 0, none⟩ x0).cell? ⟨g1, 1, none⟩ = some (.slice none 0 0) := fun w x0 => ((U1.out.keep_at w.below lt1).set 0 x0).cell rfl
      have z1 : ∀ (w : Later v.val.heap.size v.val) (x0 : Value), (w.val.setCell ⟨g1, 0, none⟩ x0).frozen? ⟨g1, 1, none⟩ = false := fun w x0 => ((U1.out.keep_at w.below lt1).set 0 x0).fz 1
      have c20 : ∀ (w : Later v.val.heap.size v.val) (x z : Value), ((w.val.setCell ⟨g1, 0, none⟩ x).setCell ⟨g1, 1, none⟩ z).cell? ⟨g2, 0, none⟩ = some (.int .i64 0) := fun w x z => (((U2.out.keep w.below).other nd 0 x).other nd 1 z).cell rfl
      have c20z : ∀ (w : Later v.val.heap.size v.val) (x z : Value), ((w.val.setCell ⟨g1, 0, none⟩ x).setCell ⟨g1, 1, none⟩ z).frozen? ⟨g2, 0, none⟩ = false := fun w x z => (((U2.out.keep w.below).other nd 0 x).other nd 1 z).fz 0
      have c21 : ∀ (w : Later v.val.heap.size v.val) (x z q : Value), (((w.val.setCell ⟨g1, 0, none⟩ x).setCell ⟨g1, 1, none⟩ z).setCell ⟨g2, 0, none⟩ q).cell? ⟨g2, 1, none⟩ = some (.slice none 0 0) := fun w x z q => ((((U2.out.keep w.below).other nd 0 x).other nd 1 z).set 0 q).cell rfl
      have c21z : ∀ (w : Later v.val.heap.size v.val) (x z q : Value), (((w.val.setCell ⟨g1, 0, none⟩ x).setCell ⟨g1, 1, none⟩ z).setCell ⟨g2, 0, none⟩ q).frozen? ⟨g2, 1, none⟩ = false := fun w x z q => ((((U2.out.keep w.below).other nd 0 x).other nd 1 z).set 0 q).fz 1
      have s0 : v.val.drew.cell? ⟨gu, 0, none⟩ = some (.int .i64 n) ∧ v.val.drew.cell? ⟨gu, 1, none⟩ = some (.slice (some ⟨bl, ol, none⟩) l.length cap) := ⟨r0 v.drew, r1 v.drew⟩
      have hgu : gu < V.heap.size := hgu0
      have so : ∀ (X : World) (g i : Nat) (x : Value), V.heap.size ≤ g → (X.cell? ⟨gu, 0, none⟩ = some (.int .i64 n) ∧ X.cell? ⟨gu, 1, none⟩ = some (.slice (some ⟨bl, ol, none⟩) l.length cap)) → ((X.setCell ⟨g, i, none⟩ x).cell? ⟨gu, 0, none⟩ = some (.int .i64 n) ∧ (X.setCell ⟨g, i, none⟩ x).cell? ⟨gu, 1, none⟩ = some (.slice (some ⟨bl, ol, none⟩) l.length cap)) := fun X g i x hg h => ⟨by rw [World.cell?_setCell_far _ _ _ _ (by show g ≠ gu; omega)]; exact h.1, by rw [World.cell?_setCell_far _ _ _ _ (by show g ≠ gu; omega)]; exact h.2⟩
      have sv : ∀ w : Later V.heap.size V, w.val.cell? ⟨gu, 0, none⟩ = some (.int .i64 n) ∧ w.val.cell? ⟨gu, 1, none⟩ = some (.slice (some ⟨bl, ol, none⟩) l.length cap) := fun w => ⟨r0 w, r1 w⟩
      go_upto_region 9 with fail
      go_region_held3 (fun w' => w'.cell? ⟨gu, 0, none⟩ = some (.int .i64 n) ∧ w'.cell? ⟨gu, 1, none⟩ = some (.slice (some ⟨bl, ol, none⟩) l.length cap)) (first | exact s0 | exact sv (v.up y1) | exact sv (v.up y2) | exact so _ _ _ _ ma (so _ _ _ _ ma (sv (v.up y2))) | exact so _ _ _ _ mb (so _ _ _ _ mb (so _ _ _ _ ma (so _ _ _ _ ma (sv (v.up y2)))))) (first | (go_at_call 45; (with_reducible refine (K2d.out).mono ?_); rintro e _ ⟨_, rfl, ⟨ad1, cp1, rfl, hO2⟩, y1, rfl⟩) | (go_at_call 46; (with_reducible refine (threadP y1 (K3.out y1)).mono ?_); rintro e _ ⟨y2, _, rfl, rfl, ⟨ad2, cp2, rfl, hO3⟩, hbw⟩))
      have hb3 : g3 + 1 ≤ v.val.heap.size := hb2.out
      have hb4 : g3 + 1 ≤ y1.val.heap.size := Nat.le_trans hb3 y1.size
      have O0 : Hid (MO (g3 + 1) ((((y2.val.setCell ⟨g1, 0, none⟩ (.int .i64 n2)).setCell ⟨g1, 1, none⟩ (.slice ad1 xs2.length cp1)).setCell ⟨g2, 0, none⟩ (.int .i64 n3)).setCell ⟨g2, 1, none⟩ (.slice ad2 xs3.length cp2)) V.heap.size n1 ad0 cp0 xs1) := Lib.hid (((U0.out.later y2).stored (Ne.symm na) nb1 _ _).stored (Ne.symm nb) nc1 _ _)
      have O1 : Hid (MO (g3 + 1) ((((y2.val.setCell ⟨g1, 0, none⟩ (.int .i64 n2)).setCell ⟨g1, 1, none⟩ (.slice ad1 xs2.length cp1)).setCell ⟨g2, 0, none⟩ (.int .i64 n3)).setCell ⟨g2, 1, none⟩ (.slice ad2 xs3.length cp2)) g1 n2 ad1 cp1 xs2) := Lib.hid ((MO.fill (U1.out.keep y2.below) ((hO2.keep hbw).mono hb3) nb1).stored (Ne.symm nd) nc1 _ _)
      have O2 : Hid (MO (g3 + 1) ((((y2.val.setCell ⟨g1, 0, none⟩ (.int .i64 n2)).setCell ⟨g1, 1, none⟩ (.slice ad1 xs2.length cp1)).setCell ⟨g2, 0, none⟩ (.int .i64 n3)).setCell ⟨g2, 1, none⟩ (.slice ad2 xs3.length cp2)) g2 n3 ad2 cp2 xs3) := Lib.hid (MO.fill (((U2.out.keep y2.below).other nd 0 _).other nd 1 _) ((((hO3.mono hb4).set nb1 _).set nb1 _)) nc1)
      have O3 : Hid (RowL ((((y2.val.setCell ⟨g1, 0, none⟩ (.int .i64 n2)).setCell ⟨g1, 1, none⟩ (.slice ad1 xs2.length cp1)).setCell ⟨g2, 0, none⟩ (.int .i64 n3)).setCell ⟨g2, 1, none⟩ (.slice ad2 xs3.length cp2)) g3 24 [.int .i64 0, .slice none 0 0]) := Lib.hid (((((U3.out.keep y2.below).other ne 0 _).other ne 1 _).other nf 0 _).other nf 1 _)
      have hb5 : Hid (g3 + 1 ≤ (((((y2.val.setCell ⟨g1, 0, none⟩ (.int .i64 n2)).setCell ⟨g1, 1, none⟩ (.slice ad1 xs2.length cp1)).setCell ⟨g2, 0, none⟩ (.int .i64 n3)).setCell ⟨g2, 1, none⟩ (.slice ad2 xs3.length cp2))).heap.size) := Lib.hid (by have := y2.size; simp; omega)
      obtain ⟨vc, hvc⟩ : ∃ x : Later V.heap.size V, x.val = ((((y2.val.setCell ⟨g1, 0, none⟩ (.int .i64 n2)).setCell ⟨g1, 1, none⟩ (.slice ad1 xs2.length cp1)).setCell ⟨g2, 0, none⟩ (.int .i64 n3)).setCell ⟨g2, 1, none⟩ (.slice ad2 xs3.length cp2)) := by
        obtain ⟨x1, hx1⟩ := later_set ⟨v.up y2, rfl⟩ (g := g1) (i := 0) ma (.int .i64 n2)
        obtain ⟨x2, hx2⟩ := later_set ⟨x1, hx1⟩ (g := g1) (i := 1) ma (.slice ad1 xs2.length cp1)
        obtain ⟨x3, hx3⟩ := later_set ⟨x2, hx2⟩ (g := g2) (i := 0) mb (.int .i64 n3)
        exact later_set ⟨x3, hx3⟩ (g := g2) (i := 1) mb (.slice ad2 xs3.length cp2)
      rw [← hvc] at O0 O1 O2 O3 hb5 ⊢
      clear hvc hbw f0 z0 f1 z1 c20 c20z c21 c21z s0 so sv K2d K3 hO2 hO3 U0 U1 U2 U3 hb2 hb3 hb4 lt1 lt2 na nb nc nd ne nf na1 nb1 nc1 ma mb mc Q2 Q3 HE8
      have hb2 := hb5
      clear hb5
      obtain ⟨v, hv⟩ : ∃ x : Later V.heap.size V, x = vc := ⟨_, rfl⟩
      rw [← hv] at O0 O1 O2 O3 hb2 ⊢
      clear hv vc
      have y3 : n4 = 0 ∧ xs4 = [] := HZ3.out (by decide)
      obtain ⟨ad3, hd3⟩ : ∃ x : Option Addr, x = none := ⟨_, rfl⟩
      obtain ⟨cp3, hc3⟩ : ∃ x : Nat, x = 0 := ⟨_, rfl⟩
      have P3x : Hid (MO (g3 + 1) v.val g3 n4 ad3 cp3 xs4) := Lib.hid (by rw [y3.1, y3.2, hd3, hc3]; exact ⟨O3.out, Own.nil _ _⟩)
      clear O3 y3 hd3 hc3
      have O3 := P3x
      clear P3x
      have M0 : Hid (MB v.val V.heap.size n1 ad0 cp0 xs1) := Lib.hid ⟨O0.out.1, O0.out.2.reads⟩
      have M1 : Hid (MB v.val g1 n2 ad1 cp1 xs2) := Lib.hid ⟨O1.out.1, O1.out.2.reads⟩
      have M2 : Hid (MB v.val g2 n3 ad2 cp2 xs3) := Lib.hid ⟨O2.out.1, O2.out.2.reads⟩
      have M3 : Hid (MB v.val g3 n4 ad3 cp3 xs4) := Lib.hid ⟨O3.out.1, O3.out.2.reads⟩
      clear O0 O1 O2 O3
      have KP := Lib.hid (P1.out v)
      go_upto_region 13 with (first | (go_at_call 48; (with_reducible refine (KP.out).mono ?_); rintro e _ ⟨_, rfl, ⟨aa0, cc0, rfl, hO⟩, y, rfl⟩))
      have N0 : Hid (MB (y.val.alloc (.cells #[.int .i64 n1, .slice aa0 xs1.length cc0] 24)) y.val.heap.size n1 aa0 cc0 xs1) := Lib.hid ⟨RowL.new _ _ _, (hO.reads).to ((Later.self y.val).alloc _)⟩
      have M0x := Lib.hid (M0.out.later (y.alloc (.cells #[.int .i64 n1, .slice aa0 xs1.length cc0] 24)))
      have M1x := Lib.hid (M1.out.later (y.alloc (.cells #[.int .i64 n1, .slice aa0 xs1.length cc0] 24)))
      have M2x := Lib.hid (M2.out.later (y.alloc (.cells #[.int .i64 n1, .slice aa0 xs1.length cc0] 24)))
      have M3x := Lib.hid (M3.out.later (y.alloc (.cells #[.int .i64 n1, .slice aa0 xs1.length cc0] 24)))
      obtain ⟨v', hv'⟩ : ∃ v' : Later V.heap.size V, v'.val = (y.val.alloc (.cells #[.int .i64 n1, .slice aa0 xs1.length cc0] 24)) := ⟨v.up (y.alloc _), rfl⟩
      rw [show ((y.alloc (.cells #[.int .i64 n1, .slice aa0 xs1.length cc0] 24)).val) = (y.val.alloc (.cells #[.int .i64 n1, .slice aa0 xs1.length cc0] 24)) from rfl, ← hv'] at M0x
      rw [show ((y.alloc (.cells #[.int .i64 n1, .slice aa0 xs1.length cc0] 24)).val) = (y.val.alloc (.cells #[.int .i64 n1, .slice aa0 xs1.length cc0] 24)) from rfl, ← hv'] at M1x
      rw [show ((y.alloc (.cells #[.int .i64 n1, .slice aa0 xs1.length cc0] 24)).val) = (y.val.alloc (.cells #[.int .i64 n1, .slice aa0 xs1.length cc0] 24)) from rfl, ← hv'] at M2x
      rw [show ((y.alloc (.cells #[.int .i64 n1, .slice aa0 xs1.length cc0] 24)).val) = (y.val.alloc (.cells #[.int .i64 n1, .slice aa0 xs1.length cc0] 24)) from rfl, ← hv'] at M3x
      rw [← hv'] at N0 ⊢
      clear M0 M1 M2 M3 KP hv' hO
      have M0 := M0x
      have M1 := M1x
      have M2 := M2x
      have M3 := M3x
      clear M0x M1x M2x M3x
      generalize y.val.heap.size = h0 at *
      clear y
      obtain ⟨v, hv⟩ : ∃ x : Later V.heap.size V, x = v' := ⟨_, rfl⟩
      rw [← hv] at M0 M1 M2 M3 N0 ⊢
      clear hv v'
      have KP := Lib.hid (P2.out v)
      go_upto_region 14 with (first | (go_at_call 49; (with_reducible refine (KP.out).mono ?_); rintro e _ ⟨_, rfl, ⟨aa1, cc1, rfl, hO⟩, y, rfl⟩))
      have N1 : Hid (MB (y.val.alloc (.cells #[.int .i64 n2, .slice aa1 xs2.length cc1] 24)) y.val.heap.size n2 aa1 cc1 xs2) := Lib.hid ⟨RowL.new _ _ _, (hO.reads).to ((Later.self y.val).alloc _)⟩
      have M0x := Lib.hid (M0.out.later (y.alloc (.cells #[.int .i64 n2, .slice aa1 xs2.length cc1] 24)))
      have M1x := Lib.hid (M1.out.later (y.alloc (.cells #[.int .i64 n2, .slice aa1 xs2.length cc1] 24)))
      have M2x := Lib.hid (M2.out.later (y.alloc (.cells #[.int .i64 n2, .slice aa1 xs2.length cc1] 24)))
      have M3x := Lib.hid (M3.out.later (y.alloc (.cells #[.int .i64 n2, .slice aa1 xs2.length cc1] 24)))
      have N0x := Lib.hid (N0.out.later (y.alloc (.cells #[.int .i64 n2, .slice aa1 xs2.length cc1] 24)))
      obtain ⟨v', hv'⟩ : ∃ v' : Later V.heap.size V, v'.val = (y.val.alloc (.cells #[.int .i64 n2, .slice aa1 xs2.length cc1] 24)) := ⟨v.up (y.alloc _), rfl⟩
      rw [show ((y.alloc (.cells #[.int .i64 n2, .slice aa1 xs2.length cc1] 24)).val) = (y.val.alloc (.cells #[.int .i64 n2, .slice aa1 xs2.length cc1] 24)) from rfl, ← hv'] at M0x
      rw [show ((y.alloc (.cells #[.int .i64 n2, .slice aa1 xs2.length cc1] 24)).val) = (y.val.alloc (.cells #[.int .i64 n2, .slice aa1 xs2.length cc1] 24)) from rfl, ← hv'] at M1x
      rw [show ((y.alloc (.cells #[.int .i64 n2, .slice aa1 xs2.length cc1] 24)).val) = (y.val.alloc (.cells #[.int .i64 n2, .slice aa1 xs2.length cc1] 24)) from rfl, ← hv'] at M2x
      rw [show ((y.alloc (.cells #[.int .i64 n2, .slice aa1 xs2.length cc1] 24)).val) = (y.val.alloc (.cells #[.int .i64 n2, .slice aa1 xs2.length cc1] 24)) from rfl, ← hv'] at M3x
      rw [show ((y.alloc (.cells #[.int .i64 n2, .slice aa1 xs2.length cc1] 24)).val) = (y.val.alloc (.cells #[.int .i64 n2, .slice aa1 xs2.length cc1] 24)) from rfl, ← hv'] at N0x
      rw [← hv'] at N1 ⊢
      clear M0 M1 M2 M3 N0 KP hv' hO
      have M0 := M0x
      have M1 := M1x
      have M2 := M2x
      have M3 := M3x
      have N0 := N0x
      clear M0x M1x M2x M3x N0x
      generalize y.val.heap.size = h1 at *
      clear y
      obtain ⟨v, hv⟩ : ∃ x : Later V.heap.size V, x = v' := ⟨_, rfl⟩
      rw [← hv] at M0 M1 M2 M3 N0 N1 ⊢
      clear hv v'
      have KP := Lib.hid (P3.out v)
      go_upto_region 15 with (first | (go_at_call 50; (with_reducible refine (KP.out).mono ?_); rintro e _ ⟨_, rfl, ⟨aa2, cc2, rfl, hO⟩, y, rfl⟩))
      have N2 : Hid (MB (y.val.alloc (.cells #[.int .i64 n3, .slice aa2 xs3.length cc2] 24)) y.val.heap.size n3 aa2 cc2 xs3) := Lib.hid ⟨RowL.new _ _ _, (hO.reads).to ((Later.self y.val).alloc _)⟩
      have M0x := Lib.hid (M0.out.later (y.alloc (.cells #[.int .i64 n3, .slice aa2 xs3.length cc2] 24)))
      have M1x := Lib.hid (M1.out.later (y.alloc (.cells #[.int .i64 n3, .slice aa2 xs3.length cc2] 24)))
      have M2x := Lib.hid (M2.out.later (y.alloc (.cells #[.int .i64 n3, .slice aa2 xs3.length cc2] 24)))
      have M3x := Lib.hid (M3.out.later (y.alloc (.cells #[.int .i64 n3, .slice aa2 xs3.length cc2] 24)))
      have N0x := Lib.hid (N0.out.later (y.alloc (.cells #[.int .i64 n3, .slice aa2 xs3.length cc2] 24)))
      have N1x := Lib.hid (N1.out.later (y.alloc (.cells #[.int .i64 n3, .slice aa2 xs3.length cc2] 24)))
      obtain ⟨v', hv'⟩ : ∃ v' : Later V.heap.size V, v'.val = (y.val.alloc (.cells #[.int .i64 n3, .slice aa2 xs3.length cc2] 24)) := ⟨v.up (y.alloc _), rfl⟩
      rw [show ((y.alloc (.cells #[.int .i64 n3, .slice aa2 xs3.length cc2] 24)).val) = (y.val.alloc (.cells #[.int .i64 n3, .slice aa2 xs3.length cc2] 24)) from rfl, ← hv'] at M0x
      rw [show ((y.alloc (.cells #[.int .i64 n3, .slice aa2 xs3.length cc2] 24)).val) = (y.val.alloc (.cells #[.int .i64 n3, .slice aa2 xs3.length cc2] 24)) from rfl, ← hv'] at M1x
      rw [show ((y.alloc (.cells #[.int .i64 n3, .slice aa2 xs3.length cc2] 24)).val) = (y.val.alloc (.cells #[.int .i64 n3, .slice aa2 xs3.length cc2] 24)) from rfl, ← hv'] at M2x
      rw [show ((y.alloc (.cells #[.int .i64 n3, .slice aa2 xs3.length cc2] 24)).val) = (y.val.alloc (.cells #[.int .i64 n3, .slice aa2 xs3.length cc2] 24)) from rfl, ← hv'] at M3x
      rw [show ((y.alloc (.cells #[.int .i64 n3, .slice aa2 xs3.length cc2] 24)).val) = (y.val.alloc (.cells #[.int .i64 n3, .slice aa2 xs3.length cc2] 24)) from rfl, ← hv'] at N0x
      rw [show ((y.alloc (.cells #[.int .i64 n3, .slice aa2 xs3.length cc2] 24)).val) = (y.val.alloc (.cells #[.int .i64 n3, .slice aa2 xs3.length cc2] 24)) from rfl, ← hv'] at N1x
      rw [← hv'] at N2 ⊢
      clear M0 M1 M2 M3 N0 N1 KP hv' hO
      have M0 := M0x
      have M1 := M1x
      have M2 := M2x
      have M3 := M3x
      have N0 := N0x
      have N1 := N1x
      clear M0x M1x M2x M3x N0x N1x
      generalize y.val.heap.size = h2 at *
      clear y
      obtain ⟨v, hv⟩ : ∃ x : Later V.heap.size V, x = v' := ⟨_, rfl⟩
      rw [← hv] at M0 M1 M2 M3 N0 N1 N2 ⊢
      clear hv v'
      have KP := Lib.hid (P4.out v)
      go_upto_region 16 with (first | (go_at_call 51; (with_reducible refine (KP.out).mono ?_); rintro e _ ⟨_, rfl, ⟨aa3, cc3, rfl, hO⟩, y, rfl⟩))
      have N3 : Hid (MB (y.val.alloc (.cells #[.int .i64 n4, .slice aa3 xs4.length cc3] 24)) y.val.heap.size n4 aa3 cc3 xs4) := Lib.hid ⟨RowL.new _ _ _, (hO.reads).to ((Later.self y.val).alloc _)⟩
      have M0x := Lib.hid (M0.out.later (y.alloc (.cells #[.int .i64 n4, .slice aa3 xs4.length cc3] 24)))
      have M1x := Lib.hid (M1.out.later (y.alloc (.cells #[.int .i64 n4, .slice aa3 xs4.length cc3] 24)))
      have M2x := Lib.hid (M2.out.later (y.alloc (.cells #[.int .i64 n4, .slice aa3 xs4.length cc3] 24)))
      have M3x := Lib.hid (M3.out.later (y.alloc (.cells #[.int .i64 n4, .slice aa3 xs4.length cc3] 24)))
      have N0x := Lib.hid (N0.out.later (y.alloc (.cells #[.int .i64 n4, .slice aa3 xs4.length cc3] 24)))
      have N1x := Lib.hid (N1.out.later (y.alloc (.cells #[.int .i64 n4, .slice aa3 xs4.length cc3] 24)))
      have N2x := Lib.hid (N2.out.later (y.alloc (.cells #[.int .i64 n4, .slice aa3 xs4.length cc3] 24)))
      obtain ⟨v', hv'⟩ : ∃ v' : Later V.heap.size V, v'.val = (y.val.alloc (.cells #[.int .i64 n4, .slice aa3 xs4.length cc3] 24)) := ⟨v.up (y.alloc _), rfl⟩
      rw [show ((y.alloc (.cells #[.int .i64 n4, .slice aa3 xs4.length cc3] 24)).val) = (y.val.alloc (.cells #[.int .i64 n4, .slice aa3 xs4.length cc3] 24)) from rfl, ← hv'] at M0x
      rw [show ((y.alloc (.cells #[.int .i64 n4, .slice aa3 xs4.length cc3] 24)).val) = (y.val.alloc (.cells #[.int .i64 n4, .slice aa3 xs4.length cc3] 24)) from rfl, ← hv'] at M1x
      rw [show ((y.alloc (.cells #[.int .i64 n4, .slice aa3 xs4.length cc3] 24)).val) = (y.val.alloc (.cells #[.int .i64 n4, .slice aa3 xs4.length cc3] 24)) from rfl, ← hv'] at M2x
      rw [show ((y.alloc (.cells #[.int .i64 n4, .slice aa3 xs4.length cc3] 24)).val) = (y.val.alloc (.cells #[.int .i64 n4, .slice aa3 xs4.length cc3] 24)) from rfl, ← hv'] at M3x
      rw [show ((y.alloc (.cells #[.int .i64 n4, .slice aa3 xs4.length cc3] 24)).val) = (y.val.alloc (.cells #[.int .i64 n4, .slice aa3 xs4.length cc3] 24)) from rfl, ← hv'] at N0x
      rw [show ((y.alloc (.cells #[.int .i64 n4, .slice aa3 xs4.length cc3] 24)).val) = (y.val.alloc (.cells #[.int .i64 n4, .slice aa3 xs4.length cc3] 24)) from rfl, ← hv'] at N1x
      rw [show ((y.alloc (.cells #[.int .i64 n4, .slice aa3 xs4.length cc3] 24)).val) = (y.val.alloc (.cells #[.int .i64 n4, .slice aa3 xs4.length cc3] 24)) from rfl, ← hv'] at N2x
      rw [← hv'] at N3 ⊢
      clear M0 M1 M2 M3 N0 N1 N2 KP hv' hO
      have M0 := M0x
      have M1 := M1x
      have M2 := M2x
      have M3 := M3x
      have N0 := N0x
      have N1 := N1x
      have N2 := N2x
      clear M0x M1x M2x M3x N0x N1x N2x
      generalize y.val.heap.size = h3 at *
      clear y
      obtain ⟨v, hv⟩ : ∃ x : Later V.heap.size V, x = v' := ⟨_, rfl⟩
      rw [← hv] at M0 M1 M2 M3 N0 N1 N2 N3 ⊢
      clear hv v'
      have KT0 : Hid (∀ w : Later v.val.heap.size v.val, Calls Try.prog 40 #[.agg #[.int .i64 n1, .slice aa0 xs1.length cc0], .int .i64 0, .agg #[.int .i64 n1, .slice ad0 xs1.length cp0], .int .i64 0] w.val (Ret v.val.heap.size v.val (.bool true))) := Lib.hid (fun w => c_told w n1 n1 xs1 xs1 aa0 ad0 cc0 cp0 0 0 N0.out.2 M0.out.2 HL0.out rfl (told_ok HZ0.out))
      have a00 : ∀ w : Later v.val.heap.size v.val, w.val.cell? ⟨h0, 0, none⟩ = some (.int .i64 n1) := fun w => (N0.out.1.keep w.below).cell rfl
      have a01 : ∀ w : Later v.val.heap.size v.val, w.val.cell? ⟨h0, 1, none⟩ = some (.slice aa0 xs1.length cc0) := fun w => (N0.out.1.keep w.below).cell rfl
      have b00 : ∀ w : Later v.val.heap.size v.val, w.val.cell? ⟨V.heap.size, 0, none⟩ = some (.int .i64 n1) := fun w => (M0.out.1.keep w.below).cell rfl
      have b01 : ∀ w : Later v.val.heap.size v.val, w.val.cell? ⟨V.heap.size, 1, none⟩ = some (.slice ad0 xs1.length cp0) := fun w => (M0.out.1.keep w.below).cell rfl
      have KT1 : Hid (∀ w : Later v.val.heap.size v.val, Calls Try.prog 40 #[.agg #[.int .i64 n2, .slice aa1 xs2.length cc1], .int .i64 0, .agg #[.int .i64 n2, .slice ad1 xs2.length cp1], .int .i64 0] w.val (Ret v.val.heap.size v.val (.bool true))) := Lib.hid (fun w => c_told w n2 n2 xs2 xs2 aa1 ad1 cc1 cp1 0 0 N1.out.2 M1.out.2 HL1.out rfl (told_ok HZ1.out))
      have a10 : ∀ w : Later v.val.heap.size v.val, w.val.cell? ⟨h1, 0, none⟩ = some (.int .i64 n2) := fun w => (N1.out.1.keep w.below).cell rfl
      have a11 : ∀ w : Later v.val.heap.size v.val, w.val.cell? ⟨h1, 1, none⟩ = some (.slice aa1 xs2.length cc1) := fun w => (N1.out.1.keep w.below).cell rfl
      have b10 : ∀ w : Later v.val.heap.size v.val, w.val.cell? ⟨g1, 0, none⟩ = some (.int .i64 n2) := fun w => (M1.out.1.keep w.below).cell rfl
      have b11 : ∀ w : Later v.val.heap.size v.val, w.val.cell? ⟨g1, 1, none⟩ = some (.slice ad1 xs2.length cp1) := fun w => (M1.out.1.keep w.below).cell rfl
      have KT2 : Hid (∀ w : Later v.val.heap.size v.val, Calls Try.prog 40 #[.agg #[.int .i64 n3, .slice aa2 xs3.length cc2], .int .i64 0, .agg #[.int .i64 n3, .slice ad2 xs3.length cp2], .int .i64 0] w.val (Ret v.val.heap.size v.val (.bool true))) := Lib.hid (fun w => c_told w n3 n3 xs3 xs3 aa2 ad2 cc2 cp2 0 0 N2.out.2 M2.out.2 HL2.out rfl (told_ok HZ2.out))
      have a20 : ∀ w : Later v.val.heap.size v.val, w.val.cell? ⟨h2, 0, none⟩ = some (.int .i64 n3) := fun w => (N2.out.1.keep w.below).cell rfl
      have a21 : ∀ w : Later v.val.heap.size v.val, w.val.cell? ⟨h2, 1, none⟩ = some (.slice aa2 xs3.length cc2) := fun w => (N2.out.1.keep w.below).cell rfl
      have b20 : ∀ w : Later v.val.heap.size v.val, w.val.cell? ⟨g2, 0, none⟩ = some (.int .i64 n3) := fun w => (M2.out.1.keep w.below).cell rfl
      have b21 : ∀ w : Later v.val.heap.size v.val, w.val.cell? ⟨g2, 1, none⟩ = some (.slice ad2 xs3.length cp2) := fun w => (M2.out.1.keep w.below).cell rfl
      have KT3 : Hid (∀ w : Later v.val.heap.size v.val, Calls Try.prog 40 #[.agg #[.int .i64 n4, .slice aa3 xs4.length cc3], .int .i64 1, .agg #[.int .i64 n4, .slice ad3 xs4.length cp3], .int .i64 1] w.val (Ret v.val.heap.size v.val (.bool true))) := Lib.hid (fun w => c_told w n4 n4 xs4 xs4 aa3 ad3 cc3 cp3 1 1 N3.out.2 M3.out.2 HL3.out rfl (told_ok HZ3.out))
      have a30 : ∀ w : Later v.val.heap.size v.val, w.val.cell? ⟨h3, 0, none⟩ = some (.int .i64 n4) := fun w => (N3.out.1.keep w.below).cell rfl
      have a31 : ∀ w : Later v.val.heap.size v.val, w.val.cell? ⟨h3, 1, none⟩ = some (.slice aa3 xs4.length cc3) := fun w => (N3.out.1.keep w.below).cell rfl
      have b30 : ∀ w : Later v.val.heap.size v.val, w.val.cell? ⟨g3, 0, none⟩ = some (.int .i64 n4) := fun w => (M3.out.1.keep w.below).cell rfl
      have b31 : ∀ w : Later v.val.heap.size v.val, w.val.cell? ⟨g3, 1, none⟩ = some (.slice ad3 xs4.length cp3) := fun w => (M3.out.1.keep w.below).cell rfl
      clear M0 M1 M2 M3 N0 N1 N2 N3 P1 P2 P3 P4 HZ0 HZ1 HZ2 HZ3
      obtain ⟨w, hw⟩ : ∃ w : Later v.val.heap.size v.val, w.val = v.val := ⟨Later.self _, rfl⟩
      rw [← hw]
      clear hw
      go_wp2_with (first | (go_at_call 40; (with_reducible refine (KT0.out _).mono ?_); rintro e _ ⟨rfl, w, rfl⟩) | (go_at_call 40; (with_reducible refine (KT1.out _).mono ?_); rintro e _ ⟨rfl, w, rfl⟩) | (go_at_call 40; (with_reducible refine (KT2.out _).mono ?_); rintro e _ ⟨rfl, w, rfl⟩) | (go_at_call 40; (with_reducible refine (KT3.out _).mono ?_); rintro e _ ⟨rfl, w, rfl⟩))
      go_ret
      exact Ret.of (HVB.out (v.up w)) rfl
  · obtain ⟨hk1, hk2⟩ := hk
    have hb : b9 = false := by rw [HB9.out]; exact decide_eq_false (by omega)
    subst hb
    have hk4 : ¬ k ≤ (r : Int) := by omega
    have hk5 : ¬ k < 0 := by omega
    clear hk2
    have he9 : e9 = 1 := HE9.out
    subst he9
    have KB9d : Hid (∀ w : Later vb.val.heap.size vb.val, Calls Try.prog 19 #[.bool (decide (k ≤ (r : Int))), .int .i64 1] w.val (Ret vb.val.heap.size vb.val (.int .i64 1))) := Lib.hid (fun w => by rw [show decide (k ≤ (r : Int)) = false from decide_eq_false hk4]; exact KB9.out w)
    go_upto_region 8 with (first | (go_at_call 20; (with_reducible refine (KI.out _).mono ?_); rintro e _ ⟨rfl, w, rfl⟩) | (go_at_call 44; go_loud ((with_reducible refine (KZ.out _).mono ?_); rintro e _ ⟨rfl, w, rfl⟩)) | (go_at_call 19; (with_reducible refine (KB8.out _).mono ?_); rintro e _ ⟨rfl, w, rfl⟩) | (go_at_call 19; (with_reducible refine (KB9.out _).mono ?_); rintro e _ ⟨rfl, w, rfl⟩) | (go_at_call 19; (with_reducible refine (KB9d.out _).mono ?_); rintro e _ ⟨rfl, w, rfl⟩))
    have U0 := Lib.hid (T0.out.later w)
    have U1 := Lib.hid (T1.out.keep w.below)
    have U2 := Lib.hid (T2.out.keep w.below)
    have U3 := Lib.hid (T3.out.keep w.below)
    have hb2 : Hid (g3 + 1 ≤ w.val.heap.size) := Lib.hid (Nat.le_trans hb1.out w.size)
    obtain ⟨v, hv⟩ : ∃ v : Later V.heap.size V, v.val = w.val := ⟨vb.up w, rfl⟩
    rw [← hv] at U0 U1 U2 U3 hb2 ⊢
    clear hv T0 T1 T2 T3 hb1 KI KB8 KB9 KB9d KZ t0 t1 t2 w HB9 HE9
    cases b8
    · have he8 : e8 = 1 := HE8.out
      subst he8
      have y1 : n2 = 0 ∧ xs2 = [] := HZ1.out (by decide)
      obtain ⟨ad1, hd1⟩ : ∃ x : Option Addr, x = none := ⟨_, rfl⟩
      obtain ⟨cp1, hc1⟩ : ∃ x : Nat, x = 0 := ⟨_, rfl⟩
      have O1 : Hid (MO (g3 + 1) v.val g1 n2 ad1 cp1 xs2) := Lib.hid (by rw [y1.1, y1.2, hd1, hc1]; exact ⟨U1.out, Own.nil _ _⟩)
      have y2 : n3 = 0 ∧ xs3 = [] := HZ2.out (by decide)
      obtain ⟨ad2, hd2⟩ : ∃ x : Option Addr, x = none := ⟨_, rfl⟩
      obtain ⟨cp2, hc2⟩ : ∃ x : Nat, x = 0 := ⟨_, rfl⟩
      have O2 : Hid (MO (g3 + 1) v.val g2 n3 ad2 cp2 xs3) := Lib.hid (by rw [y2.1, y2.2, hd2, hc2]; exact ⟨U2.out, Own.nil _ _⟩)
      have O0 := U0
      have O3 := U3
      clear U0 U1 U2 U3 y1 y2 hd1 hd2 hc1 hc2 Q2 Q3 HE8
      have y3 : n4 = 0 ∧ xs4 = [] := HZ3.out (by decide)
      obtain ⟨ad3, hd3⟩ : ∃ x : Option Addr, x = none := ⟨_, rfl⟩
      obtain ⟨cp3, hc3⟩ : ∃ x : Nat, x = 0 := ⟨_, rfl⟩
      have P3x : Hid (MO (g3 + 1) v.val g3 n4 ad3 cp3 xs4) := Lib.hid (by rw [y3.1, y3.2, hd3, hc3]; exact ⟨O3.out, Own.nil _ _⟩)
      clear O3 y3 hd3 hc3
      have O3 := P3x
      clear P3x
      have M0 : Hid (MB v.val V.heap.size n1 ad0 cp0 xs1) := Lib.hid ⟨O0.out.1, O0.out.2.reads⟩
      have M1 : Hid (MB v.val g1 n2 ad1 cp1 xs2) := Lib.hid ⟨O1.out.1, O1.out.2.reads⟩
      have M2 : Hid (MB v.val g2 n3 ad2 cp2 xs3) := Lib.hid ⟨O2.out.1, O2.out.2.reads⟩
      have M3 : Hid (MB v.val g3 n4 ad3 cp3 xs4) := Lib.hid ⟨O3.out.1, O3.out.2.reads⟩
      clear O0 O1 O2 O3
      have KP := Lib.hid (P1.out v)
      go_upto_region 13 with (first | (go_at_call 48; (with_reducible refine (KP.out).mono ?_); rintro e _ ⟨_, rfl, ⟨aa0, cc0, rfl, hO⟩, y, rfl⟩))
      have N0 : Hid (MB (y.val.alloc (.cells #[.int .i64 n1, .slice aa0 xs1.length cc0] 24)) y.val.heap.size n1 aa0 cc0 xs1) := Lib.hid ⟨RowL.new _ _ _, (hO.reads).to ((Later.self y.val).alloc _)⟩
      have M0x := Lib.hid (M0.out.later (y.alloc (.cells #[.int .i64 n1, .slice aa0 xs1.length cc0] 24)))
      have M1x := Lib.hid (M1.out.later (y.alloc (.cells #[.int .i64 n1, .slice aa0 xs1.length cc0] 24)))
      have M2x := Lib.hid (M2.out.later (y.alloc (.cells #[.int .i64 n1, .slice aa0 xs1.length cc0] 24)))
      have M3x := Lib.hid (M3.out.later (y.alloc (.cells #[.int .i64 n1, .slice aa0 xs1.length cc0] 24)))
      obtain ⟨v', hv'⟩ : ∃ v' : Later V.heap.size V, v'.val = (y.val.alloc (.cells #[.int .i64 n1, .slice aa0 xs1.length cc0] 24)) := ⟨v.up (y.alloc _), rfl⟩
      rw [show ((y.alloc (.cells #[.int .i64 n1, .slice aa0 xs1.length cc0] 24)).val) = (y.val.alloc (.cells #[.int .i64 n1, .slice aa0 xs1.length cc0] 24)) from rfl, ← hv'] at M0x
      rw [show ((y.alloc (.cells #[.int .i64 n1, .slice aa0 xs1.length cc0] 24)).val) = (y.val.alloc (.cells #[.int .i64 n1, .slice aa0 xs1.length cc0] 24)) from rfl, ← hv'] at M1x
      rw [show ((y.alloc (.cells #[.int .i64 n1, .slice aa0 xs1.length cc0] 24)).val) = (y.val.alloc (.cells #[.int .i64 n1, .slice aa0 xs1.length cc0] 24)) from rfl, ← hv'] at M2x
      rw [show ((y.alloc (.cells #[.int .i64 n1, .slice aa0 xs1.length cc0] 24)).val) = (y.val.alloc (.cells #[.int .i64 n1, .slice aa0 xs1.length cc0] 24)) from rfl, ← hv'] at M3x
      rw [← hv'] at N0 ⊢
      clear M0 M1 M2 M3 KP hv' hO
      have M0 := M0x
      have M1 := M1x
      have M2 := M2x
      have M3 := M3x
      clear M0x M1x M2x M3x
      generalize y.val.heap.size = h0 at *
      clear y
      obtain ⟨v, hv⟩ : ∃ x : Later V.heap.size V, x = v' := ⟨_, rfl⟩
      rw [← hv] at M0 M1 M2 M3 N0 ⊢
      clear hv v'
      have KP := Lib.hid (P2.out v)
      go_upto_region 14 with (first | (go_at_call 49; (with_reducible refine (KP.out).mono ?_); rintro e _ ⟨_, rfl, ⟨aa1, cc1, rfl, hO⟩, y, rfl⟩))
      have N1 : Hid (MB (y.val.alloc (.cells #[.int .i64 n2, .slice aa1 xs2.length cc1] 24)) y.val.heap.size n2 aa1 cc1 xs2) := Lib.hid ⟨RowL.new _ _ _, (hO.reads).to ((Later.self y.val).alloc _)⟩
      have M0x := Lib.hid (M0.out.later (y.alloc (.cells #[.int .i64 n2, .slice aa1 xs2.length cc1] 24)))
      have M1x := Lib.hid (M1.out.later (y.alloc (.cells #[.int .i64 n2, .slice aa1 xs2.length cc1] 24)))
      have M2x := Lib.hid (M2.out.later (y.alloc (.cells #[.int .i64 n2, .slice aa1 xs2.length cc1] 24)))
      have M3x := Lib.hid (M3.out.later (y.alloc (.cells #[.int .i64 n2, .slice aa1 xs2.length cc1] 24)))
      have N0x := Lib.hid (N0.out.later (y.alloc (.cells #[.int .i64 n2, .slice aa1 xs2.length cc1] 24)))
      obtain ⟨v', hv'⟩ : ∃ v' : Later V.heap.size V, v'.val = (y.val.alloc (.cells #[.int .i64 n2, .slice aa1 xs2.length cc1] 24)) := ⟨v.up (y.alloc _), rfl⟩
      rw [show ((y.alloc (.cells #[.int .i64 n2, .slice aa1 xs2.length cc1] 24)).val) = (y.val.alloc (.cells #[.int .i64 n2, .slice aa1 xs2.length cc1] 24)) from rfl, ← hv'] at M0x
      rw [show ((y.alloc (.cells #[.int .i64 n2, .slice aa1 xs2.length cc1] 24)).val) = (y.val.alloc (.cells #[.int .i64 n2, .slice aa1 xs2.length cc1] 24)) from rfl, ← hv'] at M1x
      rw [show ((y.alloc (.cells #[.int .i64 n2, .slice aa1 xs2.length cc1] 24)).val) = (y.val.alloc (.cells #[.int .i64 n2, .slice aa1 xs2.length cc1] 24)) from rfl, ← hv'] at M2x
      rw [show ((y.alloc (.cells #[.int .i64 n2, .slice aa1 xs2.length cc1] 24)).val) = (y.val.alloc (.cells #[.int .i64 n2, .slice aa1 xs2.length cc1] 24)) from rfl, ← hv'] at M3x
      rw [show ((y.alloc (.cells #[.int .i64 n2, .slice aa1 xs2.length cc1] 24)).val) = (y.val.alloc (.cells #[.int .i64 n2, .slice aa1 xs2.length cc1] 24)) from rfl, ← hv'] at N0x
      rw [← hv'] at N1 ⊢
      clear M0 M1 M2 M3 N0 KP hv' hO
      have M0 := M0x
      have M1 := M1x
      have M2 := M2x
      have M3 := M3x
      have N0 := N0x
      clear M0x M1x M2x M3x N0x
      generalize y.val.heap.size = h1 at *
      clear y
      obtain ⟨v, hv⟩ : ∃ x : Later V.heap.size V, x = v' := ⟨_, rfl⟩
      rw [← hv] at M0 M1 M2 M3 N0 N1 ⊢
      clear hv v'
      have KP := Lib.hid (P3.out v)
      go_upto_region 15 with (first | (go_at_call 50; (with_reducible refine (KP.out).mono ?_); rintro e _ ⟨_, rfl, ⟨aa2, cc2, rfl, hO⟩, y, rfl⟩))
      have N2 : Hid (MB (y.val.alloc (.cells #[.int .i64 n3, .slice aa2 xs3.length cc2] 24)) y.val.heap.size n3 aa2 cc2 xs3) := Lib.hid ⟨RowL.new _ _ _, (hO.reads).to ((Later.self y.val).alloc _)⟩
      have M0x := Lib.hid (M0.out.later (y.alloc (.cells #[.int .i64 n3, .slice aa2 xs3.length cc2] 24)))
      have M1x := Lib.hid (M1.out.later (y.alloc (.cells #[.int .i64 n3, .slice aa2 xs3.length cc2] 24)))
      have M2x := Lib.hid (M2.out.later (y.alloc (.cells #[.int .i64 n3, .slice aa2 xs3.length cc2] 24)))
      have M3x := Lib.hid (M3.out.later (y.alloc (.cells #[.int .i64 n3, .slice aa2 xs3.length cc2] 24)))
      have N0x := Lib.hid (N0.out.later (y.alloc (.cells #[.int .i64 n3, .slice aa2 xs3.length cc2] 24)))
      have N1x := Lib.hid (N1.out.later (y.alloc (.cells #[.int .i64 n3, .slice aa2 xs3.length cc2] 24)))
      obtain ⟨v', hv'⟩ : ∃ v' : Later V.heap.size V, v'.val = (y.val.alloc (.cells #[.int .i64 n3, .slice aa2 xs3.length cc2] 24)) := ⟨v.up (y.alloc _), rfl⟩
      rw [show ((y.alloc (.cells #[.int .i64 n3, .slice aa2 xs3.length cc2] 24)).val) = (y.val.alloc (.cells #[.int .i64 n3, .slice aa2 xs3.length cc2] 24)) from rfl, ← hv'] at M0x
      rw [show ((y.alloc (.cells #[.int .i64 n3, .slice aa2 xs3.length cc2] 24)).val) = (y.val.alloc (.cells #[.int .i64 n3, .slice aa2 xs3.length cc2] 24)) from rfl, ← hv'] at M1x
      rw [show ((y.alloc (.cells #[.int .i64 n3, .slice aa2 xs3.length cc2] 24)).val) = (y.val.alloc (.cells #[.int .i64 n3, .slice aa2 xs3.length cc2] 24)) from rfl, ← hv'] at M2x
      rw [show ((y.alloc (.cells #[.int .i64 n3, .slice aa2 xs3.length cc2] 24)).val) = (y.val.alloc (.cells #[.int .i64 n3, .slice aa2 xs3.length cc2] 24)) from rfl, ← hv'] at M3x
      rw [show ((y.alloc (.cells #[.int .i64 n3, .slice aa2 xs3.length cc2] 24)).val) = (y.val.alloc (.cells #[.int .i64 n3, .slice aa2 xs3.length cc2] 24)) from rfl, ← hv'] at N0x
      rw [show ((y.alloc (.cells #[.int .i64 n3, .slice aa2 xs3.length cc2] 24)).val) = (y.val.alloc (.cells #[.int .i64 n3, .slice aa2 xs3.length cc2] 24)) from rfl, ← hv'] at N1x
      rw [← hv'] at N2 ⊢
      clear M0 M1 M2 M3 N0 N1 KP hv' hO
      have M0 := M0x
      have M1 := M1x
      have M2 := M2x
      have M3 := M3x
      have N0 := N0x
      have N1 := N1x
      clear M0x M1x M2x M3x N0x N1x
      generalize y.val.heap.size = h2 at *
      clear y
      obtain ⟨v, hv⟩ : ∃ x : Later V.heap.size V, x = v' := ⟨_, rfl⟩
      rw [← hv] at M0 M1 M2 M3 N0 N1 N2 ⊢
      clear hv v'
      have KP := Lib.hid (P4.out v)
      go_upto_region 16 with (first | (go_at_call 51; (with_reducible refine (KP.out).mono ?_); rintro e _ ⟨_, rfl, ⟨aa3, cc3, rfl, hO⟩, y, rfl⟩))
      have N3 : Hid (MB (y.val.alloc (.cells #[.int .i64 n4, .slice aa3 xs4.length cc3] 24)) y.val.heap.size n4 aa3 cc3 xs4) := Lib.hid ⟨RowL.new _ _ _, (hO.reads).to ((Later.self y.val).alloc _)⟩
      have M0x := Lib.hid (M0.out.later (y.alloc (.cells #[.int .i64 n4, .slice aa3 xs4.length cc3] 24)))
      have M1x := Lib.hid (M1.out.later (y.alloc (.cells #[.int .i64 n4, .slice aa3 xs4.length cc3] 24)))
      have M2x := Lib.hid (M2.out.later (y.alloc (.cells #[.int .i64 n4, .slice aa3 xs4.length cc3] 24)))
      have M3x := Lib.hid (M3.out.later (y.alloc (.cells #[.int .i64 n4, .slice aa3 xs4.length cc3] 24)))
      have N0x := Lib.hid (N0.out.later (y.alloc (.cells #[.int .i64 n4, .slice aa3 xs4.length cc3] 24)))
      have N1x := Lib.hid (N1.out.later (y.alloc (.cells #[.int .i64 n4, .slice aa3 xs4.length cc3] 24)))
      have N2x := Lib.hid (N2.out.later (y.alloc (.cells #[.int .i64 n4, .slice aa3 xs4.length cc3] 24)))
      obtain ⟨v', hv'⟩ : ∃ v' : Later V.heap.size V, v'.val = (y.val.alloc (.cells #[.int .i64 n4, .slice aa3 xs4.length cc3] 24)) := ⟨v.up (y.alloc _), rfl⟩
      rw [show ((y.alloc (.cells #[.int .i64 n4, .slice aa3 xs4.length cc3] 24)).val) = (y.val.alloc (.cells #[.int .i64 n4, .slice aa3 xs4.length cc3] 24)) from rfl, ← hv'] at M0x
      rw [show ((y.alloc (.cells #[.int .i64 n4, .slice aa3 xs4.length cc3] 24)).val) = (y.val.alloc (.cells #[.int .i64 n4, .slice aa3 xs4.length cc3] 24)) from rfl, ← hv'] at M1x
      rw [show ((y.alloc (.cells #[.int .i64 n4, .slice aa3 xs4.length cc3] 24)).val) = (y.val.alloc (.cells #[.int .i64 n4, .slice aa3 xs4.length cc3] 24)) from rfl, ← hv'] at M2x
      rw [show ((y.alloc (.cells #[.int .i64 n4, .slice aa3 xs4.length cc3] 24)).val) = (y.val.alloc (.cells #[.int .i64 n4, .slice aa3 xs4.length cc3] 24)) from rfl, ← hv'] at M3x
      rw [show ((y.alloc (.cells #[.int .i64 n4, .slice aa3 xs4.length cc3] 24)).val) = (y.val.alloc (.cells #[.int .i64 n4, .slice aa3 xs4.length cc3] 24)) from rfl, ← hv'] at N0x
      rw [show ((y.alloc (.cells #[.int .i64 n4, .slice aa3 xs4.length cc3] 24)).val) = (y.val.alloc (.cells #[.int .i64 n4, .slice aa3 xs4.length cc3] 24)) from rfl, ← hv'] at N1x
      rw [show ((y.alloc (.cells #[.int .i64 n4, .slice aa3 xs4.length cc3] 24)).val) = (y.val.alloc (.cells #[.int .i64 n4, .slice aa3 xs4.length cc3] 24)) from rfl, ← hv'] at N2x
      rw [← hv'] at N3 ⊢
      clear M0 M1 M2 M3 N0 N1 N2 KP hv' hO
      have M0 := M0x
      have M1 := M1x
      have M2 := M2x
      have M3 := M3x
      have N0 := N0x
      have N1 := N1x
      have N2 := N2x
      clear M0x M1x M2x M3x N0x N1x N2x
      generalize y.val.heap.size = h3 at *
      clear y
      obtain ⟨v, hv⟩ : ∃ x : Later V.heap.size V, x = v' := ⟨_, rfl⟩
      rw [← hv] at M0 M1 M2 M3 N0 N1 N2 N3 ⊢
      clear hv v'
      have KT0 : Hid (∀ w : Later v.val.heap.size v.val, Calls Try.prog 40 #[.agg #[.int .i64 n1, .slice aa0 xs1.length cc0], .int .i64 0, .agg #[.int .i64 n1, .slice ad0 xs1.length cp0], .int .i64 0] w.val (Ret v.val.heap.size v.val (.bool true))) := Lib.hid (fun w => c_told w n1 n1 xs1 xs1 aa0 ad0 cc0 cp0 0 0 N0.out.2 M0.out.2 HL0.out rfl (told_ok HZ0.out))
      have a00 : ∀ w : Later v.val.heap.size v.val, w.val.cell? ⟨h0, 0, none⟩ = some (.int .i64 n1) := fun w => (N0.out.1.keep w.below).cell rfl
      have a01 : ∀ w : Later v.val.heap.size v.val, w.val.cell? ⟨h0, 1, none⟩ = some (.slice aa0 xs1.length cc0) := fun w => (N0.out.1.keep w.below).cell rfl
      have b00 : ∀ w : Later v.val.heap.size v.val, w.val.cell? ⟨V.heap.size, 0, none⟩ = some (.int .i64 n1) := fun w => (M0.out.1.keep w.below).cell rfl
      have b01 : ∀ w : Later v.val.heap.size v.val, w.val.cell? ⟨V.heap.size, 1, none⟩ = some (.slice ad0 xs1.length cp0) := fun w => (M0.out.1.keep w.below).cell rfl
      have KT1 : Hid (∀ w : Later v.val.heap.size v.val, Calls Try.prog 40 #[.agg #[.int .i64 n2, .slice aa1 xs2.length cc1], .int .i64 1, .agg #[.int .i64 n2, .slice ad1 xs2.length cp1], .int .i64 1] w.val (Ret v.val.heap.size v.val (.bool true))) := Lib.hid (fun w => c_told w n2 n2 xs2 xs2 aa1 ad1 cc1 cp1 1 1 N1.out.2 M1.out.2 HL1.out rfl (told_ok HZ1.out))
      have a10 : ∀ w : Later v.val.heap.size v.val, w.val.cell? ⟨h1, 0, none⟩ = some (.int .i64 n2) := fun w => (N1.out.1.keep w.below).cell rfl
      have a11 : ∀ w : Later v.val.heap.size v.val, w.val.cell? ⟨h1, 1, none⟩ = some (.slice aa1 xs2.length cc1) := fun w => (N1.out.1.keep w.below).cell rfl
      have b10 : ∀ w : Later v.val.heap.size v.val, w.val.cell? ⟨g1, 0, none⟩ = some (.int .i64 n2) := fun w => (M1.out.1.keep w.below).cell rfl
      have b11 : ∀ w : Later v.val.heap.size v.val, w.val.cell? ⟨g1, 1, none⟩ = some (.slice ad1 xs2.length cp1) := fun w => (M1.out.1.keep w.below).cell rfl
      have KT2 : Hid (∀ w : Later v.val.heap.size v.val, Calls Try.prog 40 #[.agg #[.int .i64 n3, .slice aa2 xs3.length cc2], .int .i64 1, .agg #[.int .i64 n3, .slice ad2 xs3.length cp2], .int .i64 1] w.val (Ret v.val.heap.size v.val (.bool true))) := Lib.hid (fun w => c_told w n3 n3 xs3 xs3 aa2 ad2 cc2 cp2 1 1 N2.out.2 M2.out.2 HL2.out rfl (told_ok HZ2.out))
      have a20 : ∀ w : Later v.val.heap.size v.val, w.val.cell? ⟨h2, 0, none⟩ = some (.int .i64 n3) := fun w => (N2.out.1.keep w.below).cell rfl
      have a21 : ∀ w : Later v.val.heap.size v.val, w.val.cell? ⟨h2, 1, none⟩ = some (.slice aa2 xs3.length cc2) := fun w => (N2.out.1.keep w.below).cell rfl
      have b20 : ∀ w : Later v.val.heap.size v.val, w.val.cell? ⟨g2, 0, none⟩ = some (.int .i64 n3) := fun w => (M2.out.1.keep w.below).cell rfl
      have b21 : ∀ w : Later v.val.heap.size v.val, w.val.cell? ⟨g2, 1, none⟩ = some (.slice ad2 xs3.length cp2) := fun w => (M2.out.1.keep w.below).cell rfl
      have KT3 : Hid (∀ w : Later v.val.heap.size v.val, Calls Try.prog 40 #[.agg #[.int .i64 n4, .slice aa3 xs4.length cc3], .int .i64 1, .agg #[.int .i64 n4, .slice ad3 xs4.length cp3], .int .i64 1] w.val (Ret v.val.heap.size v.val (.bool true))) := Lib.hid (fun w => c_told w n4 n4 xs4 xs4 aa3 ad3 cc3 cp3 1 1 N3.out.2 M3.out.2 HL3.out rfl (told_ok HZ3.out))
      have a30 : ∀ w : Later v.val.heap.size v.val, w.val.cell? ⟨h3, 0, none⟩ = some (.int .i64 n4) := fun w => (N3.out.1.keep w.below).cell rfl
      have a31 : ∀ w : Later v.val.heap.size v.val, w.val.cell? ⟨h3, 1, none⟩ = some (.slice aa3 xs4.length cc3) := fun w => (N3.out.1.keep w.below).cell rfl
      have b30 : ∀ w : Later v.val.heap.size v.val, w.val.cell? ⟨g3, 0, none⟩ = some (.int .i64 n4) := fun w => (M3.out.1.keep w.below).cell rfl
      have b31 : ∀ w : Later v.val.heap.size v.val, w.val.cell? ⟨g3, 1, none⟩ = some (.slice ad3 xs4.length cp3) := fun w => (M3.out.1.keep w.below).cell rfl
      clear M0 M1 M2 M3 N0 N1 N2 N3 P1 P2 P3 P4 HZ0 HZ1 HZ2 HZ3
      obtain ⟨w, hw⟩ : ∃ w : Later v.val.heap.size v.val, w.val = v.val := ⟨Later.self _, rfl⟩
      rw [← hw]
      clear hw
      go_wp2_with (first | (go_at_call 40; (with_reducible refine (KT0.out _).mono ?_); rintro e _ ⟨rfl, w, rfl⟩) | (go_at_call 40; (with_reducible refine (KT1.out _).mono ?_); rintro e _ ⟨rfl, w, rfl⟩) | (go_at_call 40; (with_reducible refine (KT2.out _).mono ?_); rintro e _ ⟨rfl, w, rfl⟩) | (go_at_call 40; (with_reducible refine (KT3.out _).mono ?_); rintro e _ ⟨rfl, w, rfl⟩))
      go_ret
      exact Ret.of (HVB.out (v.up w)) rfl
    · have he8 : e8 = 0 := HE8.out
      subst he8
      obtain ⟨na, nb, nc, nd, ne, nf, na1, nb1, nc1, ma, mb, mc⟩ := l01.out
      have lt1 : g1 < v.val.heap.size := U1.out.lt
      have lt2 : g2 < v.val.heap.size := U2.out.lt
      have K2d : Hid (Calls Try.prog 45 #[.agg #[.int .i64 n, .slice (some ⟨bl, ol, none⟩) l.length cap], .int .i64 s] v.val.drew (RetP v.val.heap.size v.val (MatO v.val.heap.size n2 xs2))) := Lib.hid ((Q2.out (by trivial) v.drew).mono (by
        rintro e _ ⟨_, rfl, ⟨ad, cp, rfl, hO⟩, y, rfl⟩
        exact RetP.mk ((Later.self v.val).drew.up y) ⟨ad, cp, rfl, hO⟩))
      have K3 : Hid (∀ w : Later v.val.heap.size v.val, Calls Try.prog 46 #[.agg #[.int .i64 n, .slice (some ⟨bl, ol, none⟩) l.length cap], .int .i64 s] w.val (RetP w.val.heap.size w.val (MatO w.val.heap.size n3 xs3))) := Lib.hid (fun w => Q3.out (by trivial) (v.up w))
      have f0 : ∀ (w : Later v.val.heap.size v.val), w.val.cell? ⟨g1, 0, none⟩ = some (.int .i64 0) := fun w => (U1.out.keep_at w.below lt1).cell rfl
      have z0 : ∀ (w : Later v.val.heap.size v.val), w.val.frozen? ⟨g1, 0, none⟩ = false := fun w => (U1.out.keep_at w.below lt1).fz 0
      have f1 : ∀ (w : Later v.val.heap.size v.val) (x0 : Value), (w.val.setCell ⟨g1, 0, none⟩ x0).cell? ⟨g1, 1, none⟩ = some (.slice none 0 0) := fun w x0 => ((U1.out.keep_at w.below lt1).set 0 x0).cell rfl
      have z1 : ∀ (w : Later v.val.heap.size v.val) (x0 : Value), (w.val.setCell ⟨g1, 0, none⟩ x0).frozen? ⟨g1, 1, none⟩ = false := fun w x0 => ((U1.out.keep_at w.below lt1).set 0 x0).fz 1
      have c20 : ∀ (w : Later v.val.heap.size v.val) (x z : Value), ((w.val.setCell ⟨g1, 0, none⟩ x).setCell ⟨g1, 1, none⟩ z).cell? ⟨g2, 0, none⟩ = some (.int .i64 0) := fun w x z => (((U2.out.keep w.below).other nd 0 x).other nd 1 z).cell rfl
      have c20z : ∀ (w : Later v.val.heap.size v.val) (x z : Value), ((w.val.setCell ⟨g1, 0, none⟩ x).setCell ⟨g1, 1, none⟩ z).frozen? ⟨g2, 0, none⟩ = false := fun w x z => (((U2.out.keep w.below).other nd 0 x).other nd 1 z).fz 0
      have c21 : ∀ (w : Later v.val.heap.size v.val) (x z q : Value), (((w.val.setCell ⟨g1, 0, none⟩ x).setCell ⟨g1, 1, none⟩ z).setCell ⟨g2, 0, none⟩ q).cell? ⟨g2, 1, none⟩ = some (.slice none 0 0) := fun w x z q => ((((U2.out.keep w.below).other nd 0 x).other nd 1 z).set 0 q).cell rfl
      have c21z : ∀ (w : Later v.val.heap.size v.val) (x z q : Value), (((w.val.setCell ⟨g1, 0, none⟩ x).setCell ⟨g1, 1, none⟩ z).setCell ⟨g2, 0, none⟩ q).frozen? ⟨g2, 1, none⟩ = false := fun w x z q => ((((U2.out.keep w.below).other nd 0 x).other nd 1 z).set 0 q).fz 1
      have s0 : v.val.drew.cell? ⟨gu, 0, none⟩ = some (.int .i64 n) ∧ v.val.drew.cell? ⟨gu, 1, none⟩ = some (.slice (some ⟨bl, ol, none⟩) l.length cap) := ⟨r0 v.drew, r1 v.drew⟩
      have hgu : gu < V.heap.size := hgu0
      have so : ∀ (X : World) (g i : Nat) (x : Value), V.heap.size ≤ g → (X.cell? ⟨gu, 0, none⟩ = some (.int .i64 n) ∧ X.cell? ⟨gu, 1, none⟩ = some (.slice (some ⟨bl, ol, none⟩) l.length cap)) → ((X.setCell ⟨g, i, none⟩ x).cell? ⟨gu, 0, none⟩ = some (.int .i64 n) ∧ (X.setCell ⟨g, i, none⟩ x).cell? ⟨gu, 1, none⟩ = some (.slice (some ⟨bl, ol, none⟩) l.length cap)) := fun X g i x hg h => ⟨by rw [World.cell?_setCell_far _ _ _ _ (by show g ≠ gu; omega)]; exact h.1, by rw [World.cell?_setCell_far _ _ _ _ (by show g ≠ gu; omega)]; exact h.2⟩
      have sv : ∀ w : Later V.heap.size V, w.val.cell? ⟨gu, 0, none⟩ = some (.int .i64 n) ∧ w.val.cell? ⟨gu, 1, none⟩ = some (.slice (some ⟨bl, ol, none⟩) l.length cap) := fun w => ⟨r0 w, r1 w⟩
      go_upto_region 9 with fail
      go_region_held3 (fun w' => w'.cell? ⟨gu, 0, none⟩ = some (.int .i64 n) ∧ w'.cell? ⟨gu, 1, none⟩ = some (.slice (some ⟨bl, ol, none⟩) l.length cap)) (first | exact s0 | exact sv (v.up y1) | exact sv (v.up y2) | exact so _ _ _ _ ma (so _ _ _ _ ma (sv (v.up y2))) | exact so _ _ _ _ mb (so _ _ _ _ mb (so _ _ _ _ ma (so _ _ _ _ ma (sv (v.up y2)))))) (first | (go_at_call 45; (with_reducible refine (K2d.out).mono ?_); rintro e _ ⟨_, rfl, ⟨ad1, cp1, rfl, hO2⟩, y1, rfl⟩) | (go_at_call 46; (with_reducible refine (threadP y1 (K3.out y1)).mono ?_); rintro e _ ⟨y2, _, rfl, rfl, ⟨ad2, cp2, rfl, hO3⟩, hbw⟩))
      have hb3 : g3 + 1 ≤ v.val.heap.size := hb2.out
      have hb4 : g3 + 1 ≤ y1.val.heap.size := Nat.le_trans hb3 y1.size
      have O0 : Hid (MO (g3 + 1) ((((y2.val.setCell ⟨g1, 0, none⟩ (.int .i64 n2)).setCell ⟨g1, 1, none⟩ (.slice ad1 xs2.length cp1)).setCell ⟨g2, 0, none⟩ (.int .i64 n3)).setCell ⟨g2, 1, none⟩ (.slice ad2 xs3.length cp2)) V.heap.size n1 ad0 cp0 xs1) := Lib.hid (((U0.out.later y2).stored (Ne.symm na) nb1 _ _).stored (Ne.symm nb) nc1 _ _)
      have O1 : Hid (MO (g3 + 1) ((((y2.val.setCell ⟨g1, 0, none⟩ (.int .i64 n2)).setCell ⟨g1, 1, none⟩ (.slice ad1 xs2.length cp1)).setCell ⟨g2, 0, none⟩ (.int .i64 n3)).setCell ⟨g2, 1, none⟩ (.slice ad2 xs3.length cp2)) g1 n2 ad1 cp1 xs2) := Lib.hid ((MO.fill (U1.out.keep y2.below) ((hO2.keep hbw).mono hb3) nb1).stored (Ne.symm nd) nc1 _ _)
      have O2 : Hid (MO (g3 + 1) ((((y2.val.setCell ⟨g1, 0, none⟩ (.int .i64 n2)).setCell ⟨g1, 1, none⟩ (.slice ad1 xs2.length cp1)).setCell ⟨g2, 0, none⟩ (.int .i64 n3)).setCell ⟨g2, 1, none⟩ (.slice ad2 xs3.length cp2)) g2 n3 ad2 cp2 xs3) := Lib.hid (MO.fill (((U2.out.keep y2.below).other nd 0 _).other nd 1 _) ((((hO3.mono hb4).set nb1 _).set nb1 _)) nc1)
      have O3 : Hid (RowL ((((y2.val.setCell ⟨g1, 0, none⟩ (.int .i64 n2)).setCell ⟨g1, 1, none⟩ (.slice ad1 xs2.length cp1)).setCell ⟨g2, 0, none⟩ (.int .i64 n3)).setCell ⟨g2, 1, none⟩ (.slice ad2 xs3.length cp2)) g3 24 [.int .i64 0, .slice none 0 0]) := Lib.hid (((((U3.out.keep y2.below).other ne 0 _).other ne 1 _).other nf 0 _).other nf 1 _)
      have hb5 : Hid (g3 + 1 ≤ (((((y2.val.setCell ⟨g1, 0, none⟩ (.int .i64 n2)).setCell ⟨g1, 1, none⟩ (.slice ad1 xs2.length cp1)).setCell ⟨g2, 0, none⟩ (.int .i64 n3)).setCell ⟨g2, 1, none⟩ (.slice ad2 xs3.length cp2))).heap.size) := Lib.hid (by have := y2.size; simp; omega)
      obtain ⟨vc, hvc⟩ : ∃ x : Later V.heap.size V, x.val = ((((y2.val.setCell ⟨g1, 0, none⟩ (.int .i64 n2)).setCell ⟨g1, 1, none⟩ (.slice ad1 xs2.length cp1)).setCell ⟨g2, 0, none⟩ (.int .i64 n3)).setCell ⟨g2, 1, none⟩ (.slice ad2 xs3.length cp2)) := by
        obtain ⟨x1, hx1⟩ := later_set ⟨v.up y2, rfl⟩ (g := g1) (i := 0) ma (.int .i64 n2)
        obtain ⟨x2, hx2⟩ := later_set ⟨x1, hx1⟩ (g := g1) (i := 1) ma (.slice ad1 xs2.length cp1)
        obtain ⟨x3, hx3⟩ := later_set ⟨x2, hx2⟩ (g := g2) (i := 0) mb (.int .i64 n3)
        exact later_set ⟨x3, hx3⟩ (g := g2) (i := 1) mb (.slice ad2 xs3.length cp2)
      rw [← hvc] at O0 O1 O2 O3 hb5 ⊢
      clear hvc hbw f0 z0 f1 z1 c20 c20z c21 c21z s0 so sv K2d K3 hO2 hO3 U0 U1 U2 U3 hb2 hb3 hb4 lt1 lt2 na nb nc nd ne nf na1 nb1 nc1 ma mb mc Q2 Q3 HE8
      have hb2 := hb5
      clear hb5
      obtain ⟨v, hv⟩ : ∃ x : Later V.heap.size V, x = vc := ⟨_, rfl⟩
      rw [← hv] at O0 O1 O2 O3 hb2 ⊢
      clear hv vc
      have y3 : n4 = 0 ∧ xs4 = [] := HZ3.out (by decide)
      obtain ⟨ad3, hd3⟩ : ∃ x : Option Addr, x = none := ⟨_, rfl⟩
      obtain ⟨cp3, hc3⟩ : ∃ x : Nat, x = 0 := ⟨_, rfl⟩
      have P3x : Hid (MO (g3 + 1) v.val g3 n4 ad3 cp3 xs4) := Lib.hid (by rw [y3.1, y3.2, hd3, hc3]; exact ⟨O3.out, Own.nil _ _⟩)
      clear O3 y3 hd3 hc3
      have O3 := P3x
      clear P3x
      have M0 : Hid (MB v.val V.heap.size n1 ad0 cp0 xs1) := Lib.hid ⟨O0.out.1, O0.out.2.reads⟩
      have M1 : Hid (MB v.val g1 n2 ad1 cp1 xs2) := Lib.hid ⟨O1.out.1, O1.out.2.reads⟩
      have M2 : Hid (MB v.val g2 n3 ad2 cp2 xs3) := Lib.hid ⟨O2.out.1, O2.out.2.reads⟩
      have M3 : Hid (MB v.val g3 n4 ad3 cp3 xs4) := Lib.hid ⟨O3.out.1, O3.out.2.reads⟩
      clear O0 O1 O2 O3
      have KP := Lib.hid (P1.out v)
      go_upto_region 13 with (first | (go_at_call 48; (with_reducible refine (KP.out).mono ?_); rintro e _ ⟨_, rfl, ⟨aa0, cc0, rfl, hO⟩, y, rfl⟩))
      have N0 : Hid (MB (y.val.alloc (.cells #[.int .i64 n1, .slice aa0 xs1.length cc0] 24)) y.val.heap.size n1 aa0 cc0 xs1) := Lib.hid ⟨RowL.new _ _ _, (hO.reads).to ((Later.self y.val).alloc _)⟩
      have M0x := Lib.hid (M0.out.later (y.alloc (.cells #[.int .i64 n1, .slice aa0 xs1.length cc0] 24)))
      have M1x := Lib.hid (M1.out.later (y.alloc (.cells #[.int .i64 n1, .slice aa0 xs1.length cc0] 24)))
      have M2x := Lib.hid (M2.out.later (y.alloc (.cells #[.int .i64 n1, .slice aa0 xs1.length cc0] 24)))
      have M3x := Lib.hid (M3.out.later (y.alloc (.cells #[.int .i64 n1, .slice aa0 xs1.length cc0] 24)))
      obtain ⟨v', hv'⟩ : ∃ v' : Later V.heap.size V, v'.val = (y.val.alloc (.cells #[.int .i64 n1, .slice aa0 xs1.length cc0] 24)) := ⟨v.up (y.alloc _), rfl⟩
      rw [show ((y.alloc (.cells #[.int .i64 n1, .slice aa0 xs1.length cc0] 24)).val) = (y.val.alloc (.cells #[.int .i64 n1, .slice aa0 xs1.length cc0] 24)) from rfl, ← hv'] at M0x
      rw [show ((y.alloc (.cells #[.int .i64 n1, .slice aa0 xs1.length cc0] 24)).val) = (y.val.alloc (.cells #[.int .i64 n1, .slice aa0 xs1.length cc0] 24)) from rfl, ← hv'] at M1x
      rw [show ((y.alloc (.cells #[.int .i64 n1, .slice aa0 xs1.length cc0] 24)).val) = (y.val.alloc (.cells #[.int .i64 n1, .slice aa0 xs1.length cc0] 24)) from rfl, ← hv'] at M2x
      rw [show ((y.alloc (.cells #[.int .i64 n1, .slice aa0 xs1.length cc0] 24)).val) = (y.val.alloc (.cells #[.int .i64 n1, .slice aa0 xs1.length cc0] 24)) from rfl, ← hv'] at M3x
      rw [← hv'] at N0 ⊢
      clear M0 M1 M2 M3 KP hv' hO
      have M0 := M0x
      have M1 := M1x
      have M2 := M2x
      have M3 := M3x
      clear M0x M1x M2x M3x
      generalize y.val.heap.size = h0 at *
      clear y
      obtain ⟨v, hv⟩ : ∃ x : Later V.heap.size V, x = v' := ⟨_, rfl⟩
      rw [← hv] at M0 M1 M2 M3 N0 ⊢
      clear hv v'
      have KP := Lib.hid (P2.out v)
      go_upto_region 14 with (first | (go_at_call 49; (with_reducible refine (KP.out).mono ?_); rintro e _ ⟨_, rfl, ⟨aa1, cc1, rfl, hO⟩, y, rfl⟩))
      have N1 : Hid (MB (y.val.alloc (.cells #[.int .i64 n2, .slice aa1 xs2.length cc1] 24)) y.val.heap.size n2 aa1 cc1 xs2) := Lib.hid ⟨RowL.new _ _ _, (hO.reads).to ((Later.self y.val).alloc _)⟩
      have M0x := Lib.hid (M0.out.later (y.alloc (.cells #[.int .i64 n2, .slice aa1 xs2.length cc1] 24)))
      have M1x := Lib.hid (M1.out.later (y.alloc (.cells #[.int .i64 n2, .slice aa1 xs2.length cc1] 24)))
      have M2x := Lib.hid (M2.out.later (y.alloc (.cells #[.int .i64 n2, .slice aa1 xs2.length cc1] 24)))
      have M3x := Lib.hid (M3.out.later (y.alloc (.cells #[.int .i64 n2, .slice aa1 xs2.length cc1] 24)))
      have N0x := Lib.hid (N0.out.later (y.alloc (.cells #[.int .i64 n2, .slice aa1 xs2.length cc1] 24)))
      obtain ⟨v', hv'⟩ : ∃ v' : Later V.heap.size V, v'.val = (y.val.alloc (.cells #[.int .i64 n2, .slice aa1 xs2.length cc1] 24)) := ⟨v.up (y.alloc _), rfl⟩
      rw [show ((y.alloc (.cells #[.int .i64 n2, .slice aa1 xs2.length cc1] 24)).val) = (y.val.alloc (.cells #[.int .i64 n2, .slice aa1 xs2.length cc1] 24)) from rfl, ← hv'] at M0x
      rw [show ((y.alloc (.cells #[.int .i64 n2, .slice aa1 xs2.length cc1] 24)).val) = (y.val.alloc (.cells #[.int .i64 n2, .slice aa1 xs2.length cc1] 24)) from rfl, ← hv'] at M1x
      rw [show ((y.alloc (.cells #[.int .i64 n2, .slice aa1 xs2.length cc1] 24)).val) = (y.val.alloc (.cells #[.int .i64 n2, .slice aa1 xs2.length cc1] 24)) from rfl, ← hv'] at M2x
      rw [show ((y.alloc (.cells #[.int .i64 n2, .slice aa1 xs2.length cc1] 24)).val) = (y.val.alloc (.cells #[.int .i64 n2, .slice aa1 xs2.length cc1] 24)) from rfl, ← hv'] at M3x
      rw [show ((y.alloc (.cells #[.int .i64 n2, .slice aa1 xs2.length cc1] 24)).val) = (y.val.alloc (.cells #[.int .i64 n2, .slice aa1 xs2.length cc1] 24)) from rfl, ← hv'] at N0x
      rw [← hv'] at N1 ⊢
      clear M0 M1 M2 M3 N0 KP hv' hO
      have M0 := M0x
      have M1 := M1x
      have M2 := M2x
      have M3 := M3x
      have N0 := N0x
      clear M0x M1x M2x M3x N0x
      generalize y.val.heap.size = h1 at *
      clear y
      obtain ⟨v, hv⟩ : ∃ x : Later V.heap.size V, x = v' := ⟨_, rfl⟩
      rw [← hv] at M0 M1 M2 M3 N0 N1 ⊢
      clear hv v'
      have KP := Lib.hid (P3.out v)
      go_upto_region 15 with (first | (go_at_call 50; (with_reducible refine (KP.out).mono ?_); rintro e _ ⟨_, rfl, ⟨aa2, cc2, rfl, hO⟩, y, rfl⟩))
      have N2 : Hid (MB (y.val.alloc (.cells #[.int .i64 n3, .slice aa2 xs3.length cc2] 24)) y.val.heap.size n3 aa2 cc2 xs3) := Lib.hid ⟨RowL.new _ _ _, (hO.reads).to ((Later.self y.val).alloc _)⟩
      have M0x := Lib.hid (M0.out.later (y.alloc (.cells #[.int .i64 n3, .slice aa2 xs3.length cc2] 24)))
      have M1x := Lib.hid (M1.out.later (y.alloc (.cells #[.int .i64 n3, .slice aa2 xs3.length cc2] 24)))
      have M2x := Lib.hid (M2.out.later (y.alloc (.cells #[.int .i64 n3, .slice aa2 xs3.length cc2] 24)))
      have M3x := Lib.hid (M3.out.later (y.alloc (.cells #[.int .i64 n3, .slice aa2 xs3.length cc2] 24)))
      have N0x := Lib.hid (N0.out.later (y.alloc (.cells #[.int .i64 n3, .slice aa2 xs3.length cc2] 24)))
      have N1x := Lib.hid (N1.out.later (y.alloc (.cells #[.int .i64 n3, .slice aa2 xs3.length cc2] 24)))
      obtain ⟨v', hv'⟩ : ∃ v' : Later V.heap.size V, v'.val = (y.val.alloc (.cells #[.int .i64 n3, .slice aa2 xs3.length cc2] 24)) := ⟨v.up (y.alloc _), rfl⟩
      rw [show ((y.alloc (.cells #[.int .i64 n3, .slice aa2 xs3.length cc2] 24)).val) = (y.val.alloc (.cells #[.int .i64 n3, .slice aa2 xs3.length cc2] 24)) from rfl, ← hv'] at M0x
      rw [show ((y.alloc (.cells #[.int .i64 n3, .slice aa2 xs3.length cc2] 24)).val) = (y.val.alloc (.cells #[.int .i64 n3, .slice aa2 xs3.length cc2] 24)) from rfl, ← hv'] at M1x
      rw [show ((y.alloc (.cells #[.int .i64 n3, .slice aa2 xs3.length cc2] 24)).val) = (y.val.alloc (.cells #[.int .i64 n3, .slice aa2 xs3.length cc2] 24)) from rfl, ← hv'] at M2x
      rw [show ((y.alloc (.cells #[.int .i64 n3, .slice aa2 xs3.length cc2] 24)).val) = (y.val.alloc (.cells #[.int .i64 n3, .slice aa2 xs3.length cc2] 24)) from rfl, ← hv'] at M3x
      rw [show ((y.alloc (.cells #[.int .i64 n3, .slice aa2 xs3.length cc2] 24)).val) = (y.val.alloc (.cells #[.int .i64 n3, .slice aa2 xs3.length cc2] 24)) from rfl, ← hv'] at N0x
      rw [show ((y.alloc (.cells #[.int .i64 n3, .slice aa2 xs3.length cc2] 24)).val) = (y.val.alloc (.cells #[.int .i64 n3, .slice aa2 xs3.length cc2] 24)) from rfl, ← hv'] at N1x
      rw [← hv'] at N2 ⊢
      clear M0 M1 M2 M3 N0 N1 KP hv' hO
      have M0 := M0x
      have M1 := M1x
      have M2 := M2x
      have M3 := M3x
      have N0 := N0x
      have N1 := N1x
      clear M0x M1x M2x M3x N0x N1x
      generalize y.val.heap.size = h2 at *
      clear y
      obtain ⟨v, hv⟩ : ∃ x : Later V.heap.size V, x = v' := ⟨_, rfl⟩
      rw [← hv] at M0 M1 M2 M3 N0 N1 N2 ⊢
      clear hv v'
      have KP := Lib.hid (P4.out v)
      go_upto_region 16 with (first | (go_at_call 51; (with_reducible refine (KP.out).mono ?_); rintro e _ ⟨_, rfl, ⟨aa3, cc3, rfl, hO⟩, y, rfl⟩))
      have N3 : Hid (MB (y.val.alloc (.cells #[.int .i64 n4, .slice aa3 xs4.length cc3] 24)) y.val.heap.size n4 aa3 cc3 xs4) := Lib.hid ⟨RowL.new _ _ _, (hO.reads).to ((Later.self y.val).alloc _)⟩
      have M0x := Lib.hid (M0.out.later (y.alloc (.cells #[.int .i64 n4, .slice aa3 xs4.length cc3] 24)))
      have M1x := Lib.hid (M1.out.later (y.alloc (.cells #[.int .i64 n4, .slice aa3 xs4.length cc3] 24)))
      have M2x := Lib.hid (M2.out.later (y.alloc (.cells #[.int .i64 n4, .slice aa3 xs4.length cc3] 24)))
      have M3x := Lib.hid (M3.out.later (y.alloc (.cells #[.int .i64 n4, .slice aa3 xs4.length cc3] 24)))
      have N0x := Lib.hid (N0.out.later (y.alloc (.cells #[.int .i64 n4, .slice aa3 xs4.length cc3] 24)))
      have N1x := Lib.hid (N1.out.later (y.alloc (.cells #[.int .i64 n4, .slice aa3 xs4.length cc3] 24)))
      have N2x := Lib.hid (N2.out.later (y.alloc (.cells #[.int .i64 n4, .slice aa3 xs4.length cc3] 24)))
      obtain ⟨v', hv'⟩ : ∃ v' : Later V.heap.size V, v'.val = (y.val.alloc (.cells #[.int .i64 n4, .slice aa3 xs4.length cc3] 24)) := ⟨v.up (y.alloc _), rfl⟩
      rw [show ((y.alloc (.cells #[.int .i64 n4, .slice aa3 xs4.length cc3] 24)).val) = (y.val.alloc (.cells #[.int .i64 n4, .slice aa3 xs4.length cc3] 24)) from rfl, ← hv'] at M0x
      rw [show ((y.alloc (.cells #[.int .i64 n4, .slice aa3 xs4.length cc3] 24)).val) = (y.val.alloc (.cells #[.int .i64 n4, .slice aa3 xs4.length cc3] 24)) from rfl, ← hv'] at M1x
      rw [show ((y.alloc (.cells #[.int .i64 n4, .slice aa3 xs4.length cc3] 24)).val) = (y.val.alloc (.cells #[.int .i64 n4, .slice aa3 xs4.length cc3] 24)) from rfl, ← hv'] at M2x
      rw [show ((y.alloc (.cells #[.int .i64 n4, .slice aa3 xs4.length cc3] 24)).val) = (y.val.alloc (.cells #[.int .i64 n4, .slice aa3 xs4.length cc3] 24)) from rfl, ← hv'] at M3x
      rw [show ((y.alloc (.cells #[.int .i64 n4, .slice aa3 xs4.length cc3] 24)).val) = (y.val.alloc (.cells #[.int .i64 n4, .slice aa3 xs4.length cc3] 24)) from rfl, ← hv'] at N0x
      rw [show ((y.alloc (.cells #[.int .i64 n4, .slice aa3 xs4.length cc3] 24)).val) = (y.val.alloc (.cells #[.int .i64 n4, .slice aa3 xs4.length cc3] 24)) from rfl, ← hv'] at N1x
      rw [show ((y.alloc (.cells #[.int .i64 n4, .slice aa3 xs4.length cc3] 24)).val) = (y.val.alloc (.cells #[.int .i64 n4, .slice aa3 xs4.length cc3] 24)) from rfl, ← hv'] at N2x
      rw [← hv'] at N3 ⊢
      clear M0 M1 M2 M3 N0 N1 N2 KP hv' hO
      have M0 := M0x
      have M1 := M1x
      have M2 := M2x
      have M3 := M3x
      have N0 := N0x
      have N1 := N1x
      have N2 := N2x
      clear M0x M1x M2x M3x N0x N1x N2x
      generalize y.val.heap.size = h3 at *
      clear y
      obtain ⟨v, hv⟩ : ∃ x : Later V.heap.size V, x = v' := ⟨_, rfl⟩
      rw [← hv] at M0 M1 M2 M3 N0 N1 N2 N3 ⊢
      clear hv v'
      have KT0 : Hid (∀ w : Later v.val.heap.size v.val, Calls Try.prog 40 #[.agg #[.int .i64 n1, .slice aa0 xs1.length cc0], .int .i64 0, .agg #[.int .i64 n1, .slice ad0 xs1.length cp0], .int .i64 0] w.val (Ret v.val.heap.size v.val (.bool true))) := Lib.hid (fun w => c_told w n1 n1 xs1 xs1 aa0 ad0 cc0 cp0 0 0 N0.out.2 M0.out.2 HL0.out rfl (told_ok HZ0.out))
      have a00 : ∀ w : Later v.val.heap.size v.val, w.val.cell? ⟨h0, 0, none⟩ = some (.int .i64 n1) := fun w => (N0.out.1.keep w.below).cell rfl
      have a01 : ∀ w : Later v.val.heap.size v.val, w.val.cell? ⟨h0, 1, none⟩ = some (.slice aa0 xs1.length cc0) := fun w => (N0.out.1.keep w.below).cell rfl
      have b00 : ∀ w : Later v.val.heap.size v.val, w.val.cell? ⟨V.heap.size, 0, none⟩ = some (.int .i64 n1) := fun w => (M0.out.1.keep w.below).cell rfl
      have b01 : ∀ w : Later v.val.heap.size v.val, w.val.cell? ⟨V.heap.size, 1, none⟩ = some (.slice ad0 xs1.length cp0) := fun w => (M0.out.1.keep w.below).cell rfl
      have KT1 : Hid (∀ w : Later v.val.heap.size v.val, Calls Try.prog 40 #[.agg #[.int .i64 n2, .slice aa1 xs2.length cc1], .int .i64 0, .agg #[.int .i64 n2, .slice ad1 xs2.length cp1], .int .i64 0] w.val (Ret v.val.heap.size v.val (.bool true))) := Lib.hid (fun w => c_told w n2 n2 xs2 xs2 aa1 ad1 cc1 cp1 0 0 N1.out.2 M1.out.2 HL1.out rfl (told_ok HZ1.out))
      have a10 : ∀ w : Later v.val.heap.size v.val, w.val.cell? ⟨h1, 0, none⟩ = some (.int .i64 n2) := fun w => (N1.out.1.keep w.below).cell rfl
      have a11 : ∀ w : Later v.val.heap.size v.val, w.val.cell? ⟨h1, 1, none⟩ = some (.slice aa1 xs2.length cc1) := fun w => (N1.out.1.keep w.below).cell rfl
      have b10 : ∀ w : Later v.val.heap.size v.val, w.val.cell? ⟨g1, 0, none⟩ = some (.int .i64 n2) := fun w => (M1.out.1.keep w.below).cell rfl
      have b11 : ∀ w : Later v.val.heap.size v.val, w.val.cell? ⟨g1, 1, none⟩ = some (.slice ad1 xs2.length cp1) := fun w => (M1.out.1.keep w.below).cell rfl
      have KT2 : Hid (∀ w : Later v.val.heap.size v.val, Calls Try.prog 40 #[.agg #[.int .i64 n3, .slice aa2 xs3.length cc2], .int .i64 0, .agg #[.int .i64 n3, .slice ad2 xs3.length cp2], .int .i64 0] w.val (Ret v.val.heap.size v.val (.bool true))) := Lib.hid (fun w => c_told w n3 n3 xs3 xs3 aa2 ad2 cc2 cp2 0 0 N2.out.2 M2.out.2 HL2.out rfl (told_ok HZ2.out))
      have a20 : ∀ w : Later v.val.heap.size v.val, w.val.cell? ⟨h2, 0, none⟩ = some (.int .i64 n3) := fun w => (N2.out.1.keep w.below).cell rfl
      have a21 : ∀ w : Later v.val.heap.size v.val, w.val.cell? ⟨h2, 1, none⟩ = some (.slice aa2 xs3.length cc2) := fun w => (N2.out.1.keep w.below).cell rfl
      have b20 : ∀ w : Later v.val.heap.size v.val, w.val.cell? ⟨g2, 0, none⟩ = some (.int .i64 n3) := fun w => (M2.out.1.keep w.below).cell rfl
      have b21 : ∀ w : Later v.val.heap.size v.val, w.val.cell? ⟨g2, 1, none⟩ = some (.slice ad2 xs3.length cp2) := fun w => (M2.out.1.keep w.below).cell rfl
      have KT3 : Hid (∀ w : Later v.val.heap.size v.val, Calls Try.prog 40 #[.agg #[.int .i64 n4, .slice aa3 xs4.length cc3], .int .i64 1, .agg #[.int .i64 n4, .slice ad3 xs4.length cp3], .int .i64 1] w.val (Ret v.val.heap.size v.val (.bool true))) := Lib.hid (fun w => c_told w n4 n4 xs4 xs4 aa3 ad3 cc3 cp3 1 1 N3.out.2 M3.out.2 HL3.out rfl (told_ok HZ3.out))
      have a30 : ∀ w : Later v.val.heap.size v.val, w.val.cell? ⟨h3, 0, none⟩ = some (.int .i64 n4) := fun w => (N3.out.1.keep w.below).cell rfl
      have a31 : ∀ w : Later v.val.heap.size v.val, w.val.cell? ⟨h3, 1, none⟩ = some (.slice aa3 xs4.length cc3) := fun w => (N3.out.1.keep w.below).cell rfl
      have b30 : ∀ w : Later v.val.heap.size v.val, w.val.cell? ⟨g3, 0, none⟩ = some (.int .i64 n4) := fun w => (M3.out.1.keep w.below).cell rfl
      have b31 : ∀ w : Later v.val.heap.size v.val, w.val.cell? ⟨g3, 1, none⟩ = some (.slice ad3 xs4.length cp3) := fun w => (M3.out.1.keep w.below).cell rfl
      clear M0 M1 M2 M3 N0 N1 N2 N3 P1 P2 P3 P4 HZ0 HZ1 HZ2 HZ3
      obtain ⟨w, hw⟩ : ∃ w : Later v.val.heap.size v.val, w.val = v.val := ⟨Later.self _, rfl⟩
      rw [← hw]
      clear hw
      go_wp2_with (first | (go_at_call 40; (with_reducible refine (KT0.out _).mono ?_); rintro e _ ⟨rfl, w, rfl⟩) | (go_at_call 40; (with_reducible refine (KT1.out _).mono ?_); rintro e _ ⟨rfl, w, rfl⟩) | (go_at_call 40; (with_reducible refine (KT2.out _).mono ?_); rintro e _ ⟨rfl, w, rfl⟩) | (go_at_call 40; (with_reducible refine (KT3.out _).mono ?_); rintro e _ ⟨rfl, w, rfl⟩))
      go_ret
      exact Ret.of (HVB.out (v.up w)) rfl
  · obtain ⟨hk1, hk2⟩ := hk
    have hb : b9 = true := by rw [HB9.out]; exact decide_eq_true ⟨hk1, hk2⟩
    subst hb
    have he9 : e9 = 0 := HE9.out
    subst he9
    have KB9d : Hid (∀ w : Later vb.val.heap.size vb.val, Calls Try.prog 19 #[.bool (decide (k ≤ (r : Int))), .int .i64 1] w.val (Ret vb.val.heap.size vb.val (.int .i64 0))) := Lib.hid (fun w => by rw [show decide (k ≤ (r : Int)) = true from decide_eq_true hk2]; exact KB9.out w)
    go_upto_region 8 with (first | (go_at_call 20; (with_reducible refine (KI.out _).mono ?_); rintro e _ ⟨rfl, w, rfl⟩) | (go_at_call 44; go_loud ((with_reducible refine (KZ.out _).mono ?_); rintro e _ ⟨rfl, w, rfl⟩)) | (go_at_call 19; (with_reducible refine (KB8.out _).mono ?_); rintro e _ ⟨rfl, w, rfl⟩) | (go_at_call 19; (with_reducible refine (KB9.out _).mono ?_); rintro e _ ⟨rfl, w, rfl⟩) | (go_at_call 19; (with_reducible refine (KB9d.out _).mono ?_); rintro e _ ⟨rfl, w, rfl⟩))
    have U0 := Lib.hid (T0.out.later w)
    have U1 := Lib.hid (T1.out.keep w.below)
    have U2 := Lib.hid (T2.out.keep w.below)
    have U3 := Lib.hid (T3.out.keep w.below)
    have hb2 : Hid (g3 + 1 ≤ w.val.heap.size) := Lib.hid (Nat.le_trans hb1.out w.size)
    obtain ⟨v, hv⟩ : ∃ v : Later V.heap.size V, v.val = w.val := ⟨vb.up w, rfl⟩
    rw [← hv] at U0 U1 U2 U3 hb2 ⊢
    clear hv T0 T1 T2 T3 hb1 KI KB8 KB9 KB9d KZ t0 t1 t2 w HB9 HE9
    cases b8
    · have he8 : e8 = 1 := HE8.out
      subst he8
      have y1 : n2 = 0 ∧ xs2 = [] := HZ1.out (by decide)
      obtain ⟨ad1, hd1⟩ : ∃ x : Option Addr, x = none := ⟨_, rfl⟩
      obtain ⟨cp1, hc1⟩ : ∃ x : Nat, x = 0 := ⟨_, rfl⟩
      have O1 : Hid (MO (g3 + 1) v.val g1 n2 ad1 cp1 xs2) := Lib.hid (by rw [y1.1, y1.2, hd1, hc1]; exact ⟨U1.out, Own.nil _ _⟩)
      have y2 : n3 = 0 ∧ xs3 = [] := HZ2.out (by decide)
      obtain ⟨ad2, hd2⟩ : ∃ x : Option Addr, x = none := ⟨_, rfl⟩
      obtain ⟨cp2, hc2⟩ : ∃ x : Nat, x = 0 := ⟨_, rfl⟩
      have O2 : Hid (MO (g3 + 1) v.val g2 n3 ad2 cp2 xs3) := Lib.hid (by rw [y2.1, y2.2, hd2, hc2]; exact ⟨U2.out, Own.nil _ _⟩)
      have O0 := U0
      have O3 := U3
      clear U0 U1 U2 U3 y1 y2 hd1 hd2 hc1 hc2 Q2 Q3 HE8
      have lt3 : g3 < v.val.heap.size := O3.out.lt
      have KQ4 := Lib.hid (Q4.out (by trivial) v)
      have f0 : ∀ (w : Later v.val.heap.size v.val), w.val.cell? ⟨g3, 0, none⟩ = some (.int .i64 0) := fun w => (O3.out.keep_at w.below lt3).cell rfl
      have z0 : ∀ (w : Later v.val.heap.size v.val), w.val.frozen? ⟨g3, 0, none⟩ = false := fun w => (O3.out.keep_at w.below lt3).fz 0
      have f1 : ∀ (w : Later v.val.heap.size v.val) (x0 : Value), (w.val.setCell ⟨g3, 0, none⟩ x0).cell? ⟨g3, 1, none⟩ = some (.slice none 0 0) := fun w x0 => ((O3.out.keep_at w.below lt3).set 0 x0).cell rfl
      have z1 : ∀ (w : Later v.val.heap.size v.val) (x0 : Value), (w.val.setCell ⟨g3, 0, none⟩ x0).frozen? ⟨g3, 1, none⟩ = false := fun w x0 => ((O3.out.keep_at w.below lt3).set 0 x0).fz 1
      go_upto_region 12 with (first | (go_at_call 47; (with_reducible refine (KQ4.out).mono ?_); rintro e _ ⟨_, rfl, ⟨ad3, cp3, rfl, hO⟩, y, rfl⟩))
      obtain ⟨na, nb, nc, nd, ne, nf, na1, nb1, nc1, ma, mb, mc⟩ := l01.out
      have V0x : Hid (MO (g3 + 1) ((y.val.setCell ⟨g3, 0, none⟩ (.int .i64 n4)).setCell ⟨g3, 1, none⟩ (.slice ad3 xs4.length cp3)) V.heap.size n1 ad0 cp0 xs1) := Lib.hid ((O0.out.later y).stored (Ne.symm nc) (by omega) _ _)
      have V1x : Hid (MO (g3 + 1) ((y.val.setCell ⟨g3, 0, none⟩ (.int .i64 n4)).setCell ⟨g3, 1, none⟩ (.slice ad3 xs4.length cp3)) g1 n2 ad1 cp1 xs2) := Lib.hid ((O1.out.later y).stored (Ne.symm ne) (by omega) _ _)
      have V2x : Hid (MO (g3 + 1) ((y.val.setCell ⟨g3, 0, none⟩ (.int .i64 n4)).setCell ⟨g3, 1, none⟩ (.slice ad3 xs4.length cp3)) g2 n3 ad2 cp2 xs3) := Lib.hid ((O2.out.later y).stored (Ne.symm nf) (by omega) _ _)
      have V3x : Hid (MO (g3 + 1) ((y.val.setCell ⟨g3, 0, none⟩ (.int .i64 n4)).setCell ⟨g3, 1, none⟩ (.slice ad3 xs4.length cp3)) g3 n4 ad3 cp3 xs4) := Lib.hid (MO.fill (O3.out.keep y.below) (hO.mono hb2.out) (by omega))
      obtain ⟨vc, hvc⟩ : ∃ x : Later V.heap.size V, x.val = ((y.val.setCell ⟨g3, 0, none⟩ (.int .i64 n4)).setCell ⟨g3, 1, none⟩ (.slice ad3 xs4.length cp3)) := by
        obtain ⟨x1, hx1⟩ := later_set ⟨v.up y, rfl⟩ (g := g3) (i := 0) mc (.int .i64 n4)
        exact later_set ⟨x1, hx1⟩ (g := g3) (i := 1) mc (.slice ad3 xs4.length cp3)
      rw [← hvc] at V0x V1x V2x V3x ⊢
      clear hvc f0 z0 f1 z1 KQ4 hO O0 O1 O2 O3 lt3 na nb nc nd ne nf na1 nb1 nc1 ma mb mc Q4 hb2 y
      have O0 := V0x
      have O1 := V1x
      have O2 := V2x
      have O3 := V3x
      clear V0x V1x V2x V3x
      obtain ⟨v, hv⟩ : ∃ x : Later V.heap.size V, x = vc := ⟨_, rfl⟩
      rw [← hv] at O0 O1 O2 O3 ⊢
      clear hv vc
      have M0 : Hid (MB v.val V.heap.size n1 ad0 cp0 xs1) := Lib.hid ⟨O0.out.1, O0.out.2.reads⟩
      have M1 : Hid (MB v.val g1 n2 ad1 cp1 xs2) := Lib.hid ⟨O1.out.1, O1.out.2.reads⟩
      have M2 : Hid (MB v.val g2 n3 ad2 cp2 xs3) := Lib.hid ⟨O2.out.1, O2.out.2.reads⟩
      have M3 : Hid (MB v.val g3 n4 ad3 cp3 xs4) := Lib.hid ⟨O3.out.1, O3.out.2.reads⟩
      clear O0 O1 O2 O3
      have KP := Lib.hid (P1.out v)
      go_upto_region 13 with (first | (go_at_call 48; (with_reducible refine (KP.out).mono ?_); rintro e _ ⟨_, rfl, ⟨aa0, cc0, rfl, hO⟩, y, rfl⟩))
      have N0 : Hid (MB (y.val.alloc (.cells #[.int .i64 n1, .slice aa0 xs1.length cc0] 24)) y.val.heap.size n1 aa0 cc0 xs1) := Lib.hid ⟨RowL.new _ _ _, (hO.reads).to ((Later.self y.val).alloc _)⟩
      have M0x := Lib.hid (M0.out.later (y.alloc (.cells #[.int .i64 n1, .slice aa0 xs1.length cc0] 24)))
      have M1x := Lib.hid (M1.out.later (y.alloc (.cells #[.int .i64 n1, .slice aa0 xs1.length cc0] 24)))
      have M2x := Lib.hid (M2.out.later (y.alloc (.cells #[.int .i64 n1, .slice aa0 xs1.length cc0] 24)))
      have M3x := Lib.hid (M3.out.later (y.alloc (.cells #[.int .i64 n1, .slice aa0 xs1.length cc0] 24)))
      obtain ⟨v', hv'⟩ : ∃ v' : Later V.heap.size V, v'.val = (y.val.alloc (.cells #[.int .i64 n1, .slice aa0 xs1.length cc0] 24)) := ⟨v.up (y.alloc _), rfl⟩
      rw [show ((y.alloc (.cells #[.int .i64 n1, .slice aa0 xs1.length cc0] 24)).val) = (y.val.alloc (.cells #[.int .i64 n1, .slice aa0 xs1.length cc0] 24)) from rfl, ← hv'] at M0x
      rw [show ((y.alloc (.cells #[.int .i64 n1, .slice aa0 xs1.length cc0] 24)).val) = (y.val.alloc (.cells #[.int .i64 n1, .slice aa0 xs1.length cc0] 24)) from rfl, ← hv'] at M1x
      rw [show ((y.alloc (.cells #[.int .i64 n1, .slice aa0 xs1.length cc0] 24)).val) = (y.val.alloc (.cells #[.int .i64 n1, .slice aa0 xs1.length cc0] 24)) from rfl, ← hv'] at M2x
      rw [show ((y.alloc (.cells #[.int .i64 n1, .slice aa0 xs1.length cc0] 24)).val) = (y.val.alloc (.cells #[.int .i64 n1, .slice aa0 xs1.length cc0] 24)) from rfl, ← hv'] at M3x
      rw [← hv'] at N0 ⊢
      clear M0 M1 M2 M3 KP hv' hO
      have M0 := M0x
      have M1 := M1x
      have M2 := M2x
      have M3 := M3x
      clear M0x M1x M2x M3x
      generalize y.val.heap.size = h0 at *
      clear y
      obtain ⟨v, hv⟩ : ∃ x : Later V.heap.size V, x = v' := ⟨_, rfl⟩
      rw [← hv] at M0 M1 M2 M3 N0 ⊢
      clear hv v'
      have KP := Lib.hid (P2.out v)
      go_upto_region 14 with (first | (go_at_call 49; (with_reducible refine (KP.out).mono ?_); rintro e _ ⟨_, rfl, ⟨aa1, cc1, rfl, hO⟩, y, rfl⟩))
      have N1 : Hid (MB (y.val.alloc (.cells #[.int .i64 n2, .slice aa1 xs2.length cc1] 24)) y.val.heap.size n2 aa1 cc1 xs2) := Lib.hid ⟨RowL.new _ _ _, (hO.reads).to ((Later.self y.val).alloc _)⟩
      have M0x := Lib.hid (M0.out.later (y.alloc (.cells #[.int .i64 n2, .slice aa1 xs2.length cc1] 24)))
      have M1x := Lib.hid (M1.out.later (y.alloc (.cells #[.int .i64 n2, .slice aa1 xs2.length cc1] 24)))
      have M2x := Lib.hid (M2.out.later (y.alloc (.cells #[.int .i64 n2, .slice aa1 xs2.length cc1] 24)))
      have M3x := Lib.hid (M3.out.later (y.alloc (.cells #[.int .i64 n2, .slice aa1 xs2.length cc1] 24)))
      have N0x := Lib.hid (N0.out.later (y.alloc (.cells #[.int .i64 n2, .slice aa1 xs2.length cc1] 24)))
      obtain ⟨v', hv'⟩ : ∃ v' : Later V.heap.size V, v'.val = (y.val.alloc (.cells #[.int .i64 n2, .slice aa1 xs2.length cc1] 24)) := ⟨v.up (y.alloc _), rfl⟩
      rw [show ((y.alloc (.cells #[.int .i64 n2, .slice aa1 xs2.length cc1] 24)).val) = (y.val.alloc (.cells #[.int .i64 n2, .slice aa1 xs2.length cc1] 24)) from rfl, ← hv'] at M0x
      rw [show ((y.alloc (.cells #[.int .i64 n2, .slice aa1 xs2.length cc1] 24)).val) = (y.val.alloc (.cells #[.int .i64 n2, .slice aa1 xs2.length cc1] 24)) from rfl, ← hv'] at M1x
      rw [show ((y.alloc (.cells #[.int .i64 n2, .slice aa1 xs2.length cc1] 24)).val) = (y.val.alloc (.cells #[.int .i64 n2, .slice aa1 xs2.length cc1] 24)) from rfl, ← hv'] at M2x
      rw [show ((y.alloc (.cells #[.int .i64 n2, .slice aa1 xs2.length cc1] 24)).val) = (y.val.alloc (.cells #[.int .i64 n2, .slice aa1 xs2.length cc1] 24)) from rfl, ← hv'] at M3x
      rw [show ((y.alloc (.cells #[.int .i64 n2, .slice aa1 xs2.length cc1] 24)).val) = (y.val.alloc (.cells #[.int .i64 n2, .slice aa1 xs2.length cc1] 24)) from rfl, ← hv'] at N0x
      rw [← hv'] at N1 ⊢
      clear M0 M1 M2 M3 N0 KP hv' hO
      have M0 := M0x
      have M1 := M1x
      have M2 := M2x
      have M3 := M3x
      have N0 := N0x
      clear M0x M1x M2x M3x N0x
      generalize y.val.heap.size = h1 at *
      clear y
      obtain ⟨v, hv⟩ : ∃ x : Later V.heap.size V, x = v' := ⟨_, rfl⟩
      rw [← hv] at M0 M1 M2 M3 N0 N1 ⊢
      clear hv v'
      have KP := Lib.hid (P3.out v)
      go_upto_region 15 with (first | (go_at_call 50; (with_reducible refine (KP.out).mono ?_); rintro e _ ⟨_, rfl, ⟨aa2, cc2, rfl, hO⟩, y, rfl⟩))
      have N2 : Hid (MB (y.val.alloc (.cells #[.int .i64 n3, .slice aa2 xs3.length cc2] 24)) y.val.heap.size n3 aa2 cc2 xs3) := Lib.hid ⟨RowL.new _ _ _, (hO.reads).to ((Later.self y.val).alloc _)⟩
      have M0x := Lib.hid (M0.out.later (y.alloc (.cells #[.int .i64 n3, .slice aa2 xs3.length cc2] 24)))
      have M1x := Lib.hid (M1.out.later (y.alloc (.cells #[.int .i64 n3, .slice aa2 xs3.length cc2] 24)))
      have M2x := Lib.hid (M2.out.later (y.alloc (.cells #[.int .i64 n3, .slice aa2 xs3.length cc2] 24)))
      have M3x := Lib.hid (M3.out.later (y.alloc (.cells #[.int .i64 n3, .slice aa2 xs3.length cc2] 24)))
      have N0x := Lib.hid (N0.out.later (y.alloc (.cells #[.int .i64 n3, .slice aa2 xs3.length cc2] 24)))
      have N1x := Lib.hid (N1.out.later (y.alloc (.cells #[.int .i64 n3, .slice aa2 xs3.length cc2] 24)))
      obtain ⟨v', hv'⟩ : ∃ v' : Later V.heap.size V, v'.val = (y.val.alloc (.cells #[.int .i64 n3, .slice aa2 xs3.length cc2] 24)) := ⟨v.up (y.alloc _), rfl⟩
      rw [show ((y.alloc (.cells #[.int .i64 n3, .slice aa2 xs3.length cc2] 24)).val) = (y.val.alloc (.cells #[.int .i64 n3, .slice aa2 xs3.length cc2] 24)) from rfl, ← hv'] at M0x
      rw [show ((y.alloc (.cells #[.int .i64 n3, .slice aa2 xs3.length cc2] 24)).val) = (y.val.alloc (.cells #[.int .i64 n3, .slice aa2 xs3.length cc2] 24)) from rfl, ← hv'] at M1x
      rw [show ((y.alloc (.cells #[.int .i64 n3, .slice aa2 xs3.length cc2] 24)).val) = (y.val.alloc (.cells #[.int .i64 n3, .slice aa2 xs3.length cc2] 24)) from rfl, ← hv'] at M2x
      rw [show ((y.alloc (.cells #[.int .i64 n3, .slice aa2 xs3.length cc2] 24)).val) = (y.val.alloc (.cells #[.int .i64 n3, .slice aa2 xs3.length cc2] 24)) from rfl, ← hv'] at M3x
      rw [show ((y.alloc (.cells #[.int .i64 n3, .slice aa2 xs3.length cc2] 24)).val) = (y.val.alloc (.cells #[.int .i64 n3, .slice aa2 xs3.length cc2] 24)) from rfl, ← hv'] at N0x
      rw [show ((y.alloc (.cells #[.int .i64 n3, .slice aa2 xs3.length cc2] 24)).val) = (y.val.alloc (.cells #[.int .i64 n3, .slice aa2 xs3.length cc2] 24)) from rfl, ← hv'] at N1x
      rw [← hv'] at N2 ⊢
      clear M0 M1 M2 M3 N0 N1 KP hv' hO
      have M0 := M0x
      have M1 := M1x
      have M2 := M2x
      have M3 := M3x
      have N0 := N0x
      have N1 := N1x
      clear M0x M1x M2x M3x N0x N1x
      generalize y.val.heap.size = h2 at *
      clear y
      obtain ⟨v, hv⟩ : ∃ x : Later V.heap.size V, x = v' := ⟨_, rfl⟩
      rw [← hv] at M0 M1 M2 M3 N0 N1 N2 ⊢
      clear hv v'
      have KP := Lib.hid (P4.out v)
      go_upto_region 16 with (first | (go_at_call 51; (with_reducible refine (KP.out).mono ?_); rintro e _ ⟨_, rfl, ⟨aa3, cc3, rfl, hO⟩, y, rfl⟩))
      have N3 : Hid (MB (y.val.alloc (.cells #[.int .i64 n4, .slice aa3 xs4.length cc3] 24)) y.val.heap.size n4 aa3 cc3 xs4) := Lib.hid ⟨RowL.new _ _ _, (hO.reads).to ((Later.self y.val).alloc _)⟩
      have M0x := Lib.hid (M0.out.later (y.alloc (.cells #[.int .i64 n4, .slice aa3 xs4.length cc3] 24)))
      have M1x := Lib.hid (M1.out.later (y.alloc (.cells #[.int .i64 n4, .slice aa3 xs4.length cc3] 24)))
      have M2x := Lib.hid (M2.out.later (y.alloc (.cells #[.int .i64 n4, .slice aa3 xs4.length cc3] 24)))
      have M3x := Lib.hid (M3.out.later (y.alloc (.cells #[.int .i64 n4, .slice aa3 xs4.length cc3] 24)))
      have N0x := Lib.hid (N0.out.later (y.alloc (.cells #[.int .i64 n4, .slice aa3 xs4.length cc3] 24)))
      have N1x := Lib.hid (N1.out.later (y.alloc (.cells #[.int .i64 n4, .slice aa3 xs4.length cc3] 24)))
      have N2x := Lib.hid (N2.out.later (y.alloc (.cells #[.int .i64 n4, .slice aa3 xs4.length cc3] 24)))
      obtain ⟨v', hv'⟩ : ∃ v' : Later V.heap.size V, v'.val = (y.val.alloc (.cells #[.int .i64 n4, .slice aa3 xs4.length cc3] 24)) := ⟨v.up (y.alloc _), rfl⟩
      rw [show ((y.alloc (.cells #[.int .i64 n4, .slice aa3 xs4.length cc3] 24)).val) = (y.val.alloc (.cells #[.int .i64 n4, .slice aa3 xs4.length cc3] 24)) from rfl, ← hv'] at M0x
      rw [show ((y.alloc (.cells #[.int .i64 n4, .slice aa3 xs4.length cc3] 24)).val) = (y.val.alloc (.cells #[.int .i64 n4, .slice aa3 xs4.length cc3] 24)) from rfl, ← hv'] at M1x
      rw [show ((y.alloc (.cells #[.int .i64 n4, .slice aa3 xs4.length cc3] 24)).val) = (y.val.alloc (.cells #[.int .i64 n4, .slice aa3 xs4.length cc3] 24)) from rfl, ← hv'] at M2x
      rw [show ((y.alloc (.cells #[.int .i64 n4, .slice aa3 xs4.length cc3] 24)).val) = (y.val.alloc (.cells #[.int .i64 n4, .slice aa3 xs4.length cc3] 24)) from rfl, ← hv'] at M3x
      rw [show ((y.alloc (.cells #[.int .i64 n4, .slice aa3 xs4.length cc3] 24)).val) = (y.val.alloc (.cells #[.int .i64 n4, .slice aa3 xs4.length cc3] 24)) from rfl, ← hv'] at N0x
      rw [show ((y.alloc (.cells #[.int .i64 n4, .slice aa3 xs4.length cc3] 24)).val) = (y.val.alloc (.cells #[.int .i64 n4, .slice aa3 xs4.length cc3] 24)) from rfl, ← hv'] at N1x
      rw [show ((y.alloc (.cells #[.int .i64 n4, .slice aa3 xs4.length cc3] 24)).val) = (y.val.alloc (.cells #[.int .i64 n4, .slice aa3 xs4.length cc3] 24)) from rfl, ← hv'] at N2x
      rw [← hv'] at N3 ⊢
      clear M0 M1 M2 M3 N0 N1 N2 KP hv' hO
      have M0 := M0x
      have M1 := M1x
      have M2 := M2x
      have M3 := M3x
      have N0 := N0x
      have N1 := N1x
      have N2 := N2x
      clear M0x M1x M2x M3x N0x N1x N2x
      generalize y.val.heap.size = h3 at *
      clear y
      obtain ⟨v, hv⟩ : ∃ x : Later V.heap.size V, x = v' := ⟨_, rfl⟩
      rw [← hv] at M0 M1 M2 M3 N0 N1 N2 N3 ⊢
      clear hv v'
      have KT0 : Hid (∀ w : Later v.val.heap.size v.val, Calls Try.prog 40 #[.agg #[.int .i64 n1, .slice aa0 xs1.length cc0], .int .i64 0, .agg #[.int .i64 n1, .slice ad0 xs1.length cp0], .int .i64 0] w.val (Ret v.val.heap.size v.val (.bool true))) := Lib.hid (fun w => c_told w n1 n1 xs1 xs1 aa0 ad0 cc0 cp0 0 0 N0.out.2 M0.out.2 HL0.out rfl (told_ok HZ0.out))
      have a00 : ∀ w : Later v.val.heap.size v.val, w.val.cell? ⟨h0, 0, none⟩ = some (.int .i64 n1) := fun w => (N0.out.1.keep w.below).cell rfl
      have a01 : ∀ w : Later v.val.heap.size v.val, w.val.cell? ⟨h0, 1, none⟩ = some (.slice aa0 xs1.length cc0) := fun w => (N0.out.1.keep w.below).cell rfl
      have b00 : ∀ w : Later v.val.heap.size v.val, w.val.cell? ⟨V.heap.size, 0, none⟩ = some (.int .i64 n1) := fun w => (M0.out.1.keep w.below).cell rfl
      have b01 : ∀ w : Later v.val.heap.size v.val, w.val.cell? ⟨V.heap.size, 1, none⟩ = some (.slice ad0 xs1.length cp0) := fun w => (M0.out.1.keep w.below).cell rfl
      have KT1 : Hid (∀ w : Later v.val.heap.size v.val, Calls Try.prog 40 #[.agg #[.int .i64 n2, .slice aa1 xs2.length cc1], .int .i64 1, .agg #[.int .i64 n2, .slice ad1 xs2.length cp1], .int .i64 1] w.val (Ret v.val.heap.size v.val (.bool true))) := Lib.hid (fun w => c_told w n2 n2 xs2 xs2 aa1 ad1 cc1 cp1 1 1 N1.out.2 M1.out.2 HL1.out rfl (told_ok HZ1.out))
      have a10 : ∀ w : Later v.val.heap.size v.val, w.val.cell? ⟨h1, 0, none⟩ = some (.int .i64 n2) := fun w => (N1.out.1.keep w.below).cell rfl
      have a11 : ∀ w : Later v.val.heap.size v.val, w.val.cell? ⟨h1, 1, none⟩ = some (.slice aa1 xs2.length cc1) := fun w => (N1.out.1.keep w.below).cell rfl
      have b10 : ∀ w : Later v.val.heap.size v.val, w.val.cell? ⟨g1, 0, none⟩ = some (.int .i64 n2) := fun w => (M1.out.1.keep w.below).cell rfl
      have b11 : ∀ w : Later v.val.heap.size v.val, w.val.cell? ⟨g1, 1, none⟩ = some (.slice ad1 xs2.length cp1) := fun w => (M1.out.1.keep w.below).cell rfl
      have KT2 : Hid (∀ w : Later v.val.heap.size v.val, Calls Try.prog 40 #[.agg #[.int .i64 n3, .slice aa2 xs3.length cc2], .int .i64 1, .agg #[.int .i64 n3, .slice ad2 xs3.length cp2], .int .i64 1] w.val (Ret v.val.heap.size v.val (.bool true))) := Lib.hid (fun w => c_told w n3 n3 xs3 xs3 aa2 ad2 cc2 cp2 1 1 N2.out.2 M2.out.2 HL2.out rfl (told_ok HZ2.out))
      have a20 : ∀ w : Later v.val.heap.size v.val, w.val.cell? ⟨h2, 0, none⟩ = some (.int .i64 n3) := fun w => (N2.out.1.keep w.below).cell rfl
      have a21 : ∀ w : Later v.val.heap.size v.val, w.val.cell? ⟨h2, 1, none⟩ = some (.slice aa2 xs3.length cc2) := fun w => (N2.out.1.keep w.below).cell rfl
      have b20 : ∀ w : Later v.val.heap.size v.val, w.val.cell? ⟨g2, 0, none⟩ = some (.int .i64 n3) := fun w => (M2.out.1.keep w.below).cell rfl
      have b21 : ∀ w : Later v.val.heap.size v.val, w.val.cell? ⟨g2, 1, none⟩ = some (.slice ad2 xs3.length cp2) := fun w => (M2.out.1.keep w.below).cell rfl
      have KT3 : Hid (∀ w : Later v.val.heap.size v.val, Calls Try.prog 40 #[.agg #[.int .i64 n4, .slice aa3 xs4.length cc3], .int .i64 0, .agg #[.int .i64 n4, .slice ad3 xs4.length cp3], .int .i64 0] w.val (Ret v.val.heap.size v.val (.bool true))) := Lib.hid (fun w => c_told w n4 n4 xs4 xs4 aa3 ad3 cc3 cp3 0 0 N3.out.2 M3.out.2 HL3.out rfl (told_ok HZ3.out))
      have a30 : ∀ w : Later v.val.heap.size v.val, w.val.cell? ⟨h3, 0, none⟩ = some (.int .i64 n4) := fun w => (N3.out.1.keep w.below).cell rfl
      have a31 : ∀ w : Later v.val.heap.size v.val, w.val.cell? ⟨h3, 1, none⟩ = some (.slice aa3 xs4.length cc3) := fun w => (N3.out.1.keep w.below).cell rfl
      have b30 : ∀ w : Later v.val.heap.size v.val, w.val.cell? ⟨g3, 0, none⟩ = some (.int .i64 n4) := fun w => (M3.out.1.keep w.below).cell rfl
      have b31 : ∀ w : Later v.val.heap.size v.val, w.val.cell? ⟨g3, 1, none⟩ = some (.slice ad3 xs4.length cp3) := fun w => (M3.out.1.keep w.below).cell rfl
      clear M0 M1 M2 M3 N0 N1 N2 N3 P1 P2 P3 P4 HZ0 HZ1 HZ2 HZ3
      obtain ⟨w, hw⟩ : ∃ w : Later v.val.heap.size v.val, w.val = v.val := ⟨Later.self _, rfl⟩
      rw [← hw]
      clear hw
      go_wp2_with (first | (go_at_call 40; (with_reducible refine (KT0.out _).mono ?_); rintro e _ ⟨rfl, w, rfl⟩) | (go_at_call 40; (with_reducible refine (KT1.out _).mono ?_); rintro e _ ⟨rfl, w, rfl⟩) | (go_at_call 40; (with_reducible refine (KT2.out _).mono ?_); rintro e _ ⟨rfl, w, rfl⟩) | (go_at_call 40; (with_reducible refine (KT3.out _).mono ?_); rintro e _ ⟨rfl, w, rfl⟩))
      go_ret
      exact Ret.of (HVB.out (v.up w)) rfl
    · have he8 : e8 = 0 := HE8.out
      subst he8
      obtain ⟨na, nb, nc, nd, ne, nf, na1, nb1, nc1, ma, mb, mc⟩ := l01.out
      have lt1 : g1 < v.val.heap.size := U1.out.lt
      have lt2 : g2 < v.val.heap.size := U2.out.lt
      have K2d : Hid (Calls Try.prog 45 #[.agg #[.int .i64 n, .slice (some ⟨bl, ol, none⟩) l.length cap], .int .i64 s] v.val.drew (RetP v.val.heap.size v.val (MatO v.val.heap.size n2 xs2))) := Lib.hid ((Q2.out (by trivial) v.drew).mono (by
        rintro e _ ⟨_, rfl, ⟨ad, cp, rfl, hO⟩, y, rfl⟩
        exact RetP.mk ((Later.self v.val).drew.up y) ⟨ad, cp, rfl, hO⟩))
      have K3 : Hid (∀ w : Later v.val.heap.size v.val, Calls Try.prog 46 #[.agg #[.int .i64 n, .slice (some ⟨bl, ol, none⟩) l.length cap], .int .i64 s] w.val (RetP w.val.heap.size w.val (MatO w.val.heap.size n3 xs3))) := Lib.hid (fun w => Q3.out (by trivial) (v.up w))
      have f0 : ∀ (w : Later v.val.heap.size v.val), w.val.cell? ⟨g1, 0, none⟩ = some (.int .i64 0) := fun w => (U1.out.keep_at w.below lt1).cell rfl
      have z0 : ∀ (w : Later v.val.heap.size v.val), w.val.frozen? ⟨g1, 0, none⟩ = false := fun w => (U1.out.keep_at w.below lt1).fz 0
      have f1 : ∀ (w : Later v.val.heap.size v.val) (x0 : Value), (w.val.setCell ⟨g1, 0, none⟩ x0).cell? ⟨g1, 1, none⟩ = some (.slice none 0 0) := fun w x0 => ((U1.out.keep_at w.below lt1).set 0 x0).cell rfl
      have z1 : ∀ (w : Later v.val.heap.size v.val) (x0 : Value), (w.val.setCell ⟨g1, 0, none⟩ x0).frozen? ⟨g1, 1, none⟩ = false := fun w x0 => ((U1.out.keep_at w.below lt1).set 0 x0).fz 1
      have c20 : ∀ (w : Later v.val.heap.size v.val) (x z : Value), ((w.val.setCell ⟨g1, 0, none⟩ x).setCell ⟨g1, 1, none⟩ z).cell? ⟨g2, 0, none⟩ = some (.int .i64 0) := fun w x z => (((U2.out.keep w.below).other nd 0 x).other nd 1 z).cell rfl
      have c20z : ∀ (w : Later v.val.heap.size v.val) (x z : Value), ((w.val.setCell ⟨g1, 0, none⟩ x).setCell ⟨g1, 1, none⟩ z).frozen? ⟨g2, 0, none⟩ = false := fun w x z => (((U2.out.keep w.below).other nd 0 x).other nd 1 z).fz 0
      have c21 : ∀ (w : Later v.val.heap.size v.val) (x z q : Value), (((w.val.setCell ⟨g1, 0, none⟩ x).setCell ⟨g1, 1, none⟩ z).setCell ⟨g2, 0, none⟩ q).cell? ⟨g2, 1, none⟩ = some (.slice none 0 0) := fun w x z q => ((((U2.out.keep w.below).other nd 0 x).other nd 1 z).set 0 q).cell rfl
      have c21z : ∀ (w : Later v.val.heap.size v.val) (x z q : Value), (((w.val.setCell ⟨g1, 0, none⟩ x).setCell ⟨g1, 1, none⟩ z).setCell ⟨g2, 0, none⟩ q).frozen? ⟨g2, 1, none⟩ = false := fun w x z q => ((((U2.out.keep w.below).other nd 0 x).other nd 1 z).set 0 q).fz 1
      have s0 : v.val.drew.cell? ⟨gu, 0, none⟩ = some (.int .i64 n) ∧ v.val.drew.cell? ⟨gu, 1, none⟩ = some (.slice (some ⟨bl, ol, none⟩) l.length cap) := ⟨r0 v.drew, r1 v.drew⟩
      have hgu : gu < V.heap.size := hgu0
      have so : ∀ (X : World) (g i : Nat) (x : Value), V.heap.size ≤ g → (X.cell? ⟨gu, 0, none⟩ = some (.int .i64 n) ∧ X.cell? ⟨gu, 1, none⟩ = some (.slice (some ⟨bl, ol, none⟩) l.length cap)) → ((X.setCell ⟨g, i, none⟩ x).cell? ⟨gu, 0, none⟩ = some (.int .i64 n) ∧ (X.setCell ⟨g, i, none⟩ x).cell? ⟨gu, 1, none⟩ = some (.slice (some ⟨bl, ol, none⟩) l.length cap)) := fun X g i x hg h => ⟨by rw [World.cell?_setCell_far _ _ _ _ (by show g ≠ gu; omega)]; exact h.1, by rw [World.cell?_setCell_far _ _ _ _ (by show g ≠ gu; omega)]; exact h.2⟩
      have sv : ∀ w : Later V.heap.size V, w.val.cell? ⟨gu, 0, none⟩ = some (.int .i64 n) ∧ w.val.cell? ⟨gu, 1, none⟩ = some (.slice (some ⟨bl, ol, none⟩) l.length cap) := fun w => ⟨r0 w, r1 w⟩
      go_upto_region 9 with fail
      go_region_held3 (fun w' => w'.cell? ⟨gu, 0, none⟩ = some (.int .i64 n) ∧ w'.cell? ⟨gu, 1, none⟩ = some (.slice (some ⟨bl, ol, none⟩) l.length cap)) (first | exact s0 | exact sv (v.up y1) | exact sv (v.up y2) | exact so _ _ _ _ ma (so _ _ _ _ ma (sv (v.up y2))) | exact so _ _ _ _ mb (so _ _ _ _ mb (so _ _ _ _ ma (so _ _ _ _ ma (sv (v.up y2)))))) (first | (go_at_call 45; (with_reducible refine (K2d.out).mono ?_); rintro e _ ⟨_, rfl, ⟨ad1, cp1, rfl, hO2⟩, y1, rfl⟩) | (go_at_call 46; (with_reducible refine (threadP y1 (K3.out y1)).mono ?_); rintro e _ ⟨y2, _, rfl, rfl, ⟨ad2, cp2, rfl, hO3⟩, hbw⟩))
      have hb3 : g3 + 1 ≤ v.val.heap.size := hb2.out
      have hb4 : g3 + 1 ≤ y1.val.heap.size := Nat.le_trans hb3 y1.size
      have O0 : Hid (MO (g3 + 1) ((((y2.val.setCell ⟨g1, 0, none⟩ (.int .i64 n2)).setCell ⟨g1, 1, none⟩ (.slice ad1 xs2.length cp1)).setCell ⟨g2, 0, none⟩ (.int .i64 n3)).setCell ⟨g2, 1, none⟩ (.slice ad2 xs3.length cp2)) V.heap.size n1 ad0 cp0 xs1) := Lib.hid (((U0.out.later y2).stored (Ne.symm na) nb1 _ _).stored (Ne.symm nb) nc1 _ _)
      have O1 : Hid (MO (g3 + 1) ((((y2.val.setCell ⟨g1, 0, none⟩ (.int .i64 n2)).setCell ⟨g1, 1, none⟩ (.slice ad1 xs2.length cp1)).setCell ⟨g2, 0, none⟩ (.int .i64 n3)).setCell ⟨g2, 1, none⟩ (.slice ad2 xs3.length cp2)) g1 n2 ad1 cp1 xs2) := Lib.hid ((MO.fill (U1.out.keep y2.below) ((hO2.keep hbw).mono hb3) nb1).stored (Ne.symm nd) nc1 _ _)
      have O2 : Hid (MO (g3 + 1) ((((y2.val.setCell ⟨g1, 0, none⟩ (.int .i64 n2)).setCell ⟨g1, 1, none⟩ (.slice ad1 xs2.length cp1)).setCell ⟨g2, 0, none⟩ (.int .i64 n3)).setCell ⟨g2, 1, none⟩ (.slice ad2 xs3.length cp2)) g2 n3 ad2 cp2 xs3) := Lib.hid (MO.fill (((U2.out.keep y2.below).other nd 0 _).other nd 1 _) ((((hO3.mono hb4).set nb1 _).set nb1 _)) nc1)
      have O3 : Hid (RowL ((((y2.val.setCell ⟨g1, 0, none⟩ (.int .i64 n2)).setCell ⟨g1, 1, none⟩ (.slice ad1 xs2.length cp1)).setCell ⟨g2, 0, none⟩ (.int .i64 n3)).setCell ⟨g2, 1, none⟩ (.slice ad2 xs3.length cp2)) g3 24 [.int .i64 0, .slice none 0 0]) := Lib.hid (((((U3.out.keep y2.below).other ne 0 _).other ne 1 _).other nf 0 _).other nf 1 _)
      have hb5 : Hid (g3 + 1 ≤ (((((y2.val.setCell ⟨g1, 0, none⟩ (.int .i64 n2)).setCell ⟨g1, 1, none⟩ (.slice ad1 xs2.length cp1)).setCell ⟨g2, 0, none⟩ (.int .i64 n3)).setCell ⟨g2, 1, none⟩ (.slice ad2 xs3.length cp2))).heap.size) := Lib.hid (by have := y2.size; simp; omega)
      obtain ⟨vc, hvc⟩ : ∃ x : Later V.heap.size V, x.val = ((((y2.val.setCell ⟨g1, 0, none⟩ (.int .i64 n2)).setCell ⟨g1, 1, none⟩ (.slice ad1 xs2.length cp1)).setCell ⟨g2, 0, none⟩ (.int .i64 n3)).setCell ⟨g2, 1, none⟩ (.slice ad2 xs3.length cp2)) := by
        obtain ⟨x1, hx1⟩ := later_set ⟨v.up y2, rfl⟩ (g := g1) (i := 0) ma (.int .i64 n2)
        obtain ⟨x2, hx2⟩ := later_set ⟨x1, hx1⟩ (g := g1) (i := 1) ma (.slice ad1 xs2.length cp1)
        obtain ⟨x3, hx3⟩ := later_set ⟨x2, hx2⟩ (g := g2) (i := 0) mb (.int .i64 n3)
        exact later_set ⟨x3, hx3⟩ (g := g2) (i := 1) mb (.slice ad2 xs3.length cp2)
      rw [← hvc] at O0 O1 O2 O3 hb5 ⊢
      clear hvc hbw f0 z0 f1 z1 c20 c20z c21 c21z s0 so sv K2d K3 hO2 hO3 U0 U1 U2 U3 hb2 hb3 hb4 lt1 lt2 na nb nc nd ne nf na1 nb1 nc1 ma mb mc Q2 Q3 HE8
      have hb2 := hb5
      clear hb5
      obtain ⟨v, hv⟩ : ∃ x : Later V.heap.size V, x = vc := ⟨_, rfl⟩
      rw [← hv] at O0 O1 O2 O3 hb2 ⊢
      clear hv vc
      have lt3 : g3 < v.val.heap.size := O3.out.lt
      have KQ4 := Lib.hid (Q4.out (by trivial) v)
      have f0 : ∀ (w : Later v.val.heap.size v.val), w.val.cell? ⟨g3, 0, none⟩ = some (.int .i64 0) := fun w => (O3.out.keep_at w.below lt3).cell rfl
      have z0 : ∀ (w : Later v.val.heap.size v.val), w.val.frozen? ⟨g3, 0, none⟩ = false := fun w => (O3.out.keep_at w.below lt3).fz 0
      have f1 : ∀ (w : Later v.val.heap.size v.val) (x0 : Value), (w.val.setCell ⟨g3, 0, none⟩ x0).cell? ⟨g3, 1, none⟩ = some (.slice none 0 0) := fun w x0 => ((O3.out.keep_at w.below lt3).set 0 x0).cell rfl
      have z1 : ∀ (w : Later v.val.heap.size v.val) (x0 : Value), (w.val.setCell ⟨g3, 0, none⟩ x0).frozen? ⟨g3, 1, none⟩ = false := fun w x0 => ((O3.out.keep_at w.below lt3).set 0 x0).fz 1
      go_upto_region 12 with (first | (go_at_call 47; (with_reducible refine (KQ4.out).mono ?_); rintro e _ ⟨_, rfl, ⟨ad3, cp3, rfl, hO⟩, y, rfl⟩))
      obtain ⟨na, nb, nc, nd, ne, nf, na1, nb1, nc1, ma, mb, mc⟩ := l01.out
      have V0x : Hid (MO (g3 + 1) ((y.val.setCell ⟨g3, 0, none⟩ (.int .i64 n4)).setCell ⟨g3, 1, none⟩ (.slice ad3 xs4.length cp3)) V.heap.size n1 ad0 cp0 xs1) := Lib.hid ((O0.out.later y).stored (Ne.symm nc) (by omega) _ _)
      have V1x : Hid (MO (g3 + 1) ((y.val.setCell ⟨g3, 0, none⟩ (.int .i64 n4)).setCell ⟨g3, 1, none⟩ (.slice ad3 xs4.length cp3)) g1 n2 ad1 cp1 xs2) := Lib.hid ((O1.out.later y).stored (Ne.symm ne) (by omega) _ _)
      have V2x : Hid (MO (g3 + 1) ((y.val.setCell ⟨g3, 0, none⟩ (.int .i64 n4)).setCell ⟨g3, 1, none⟩ (.slice ad3 xs4.length cp3)) g2 n3 ad2 cp2 xs3) := Lib.hid ((O2.out.later y).stored (Ne.symm nf) (by omega) _ _)
      have V3x : Hid (MO (g3 + 1) ((y.val.setCell ⟨g3, 0, none⟩ (.int .i64 n4)).setCell ⟨g3, 1, none⟩ (.slice ad3 xs4.length cp3)) g3 n4 ad3 cp3 xs4) := Lib.hid (MO.fill (O3.out.keep y.below) (hO.mono hb2.out) (by omega))
      obtain ⟨vc, hvc⟩ : ∃ x : Later V.heap.size V, x.val = ((y.val.setCell ⟨g3, 0, none⟩ (.int .i64 n4)).setCell ⟨g3, 1, none⟩ (.slice ad3 xs4.length cp3)) := by
        obtain ⟨x1, hx1⟩ := later_set ⟨v.up y, rfl⟩ (g := g3) (i := 0) mc (.int .i64 n4)
        exact later_set ⟨x1, hx1⟩ (g := g3) (i := 1) mc (.slice ad3 xs4.length cp3)
      rw [← hvc] at V0x V1x V2x V3x ⊢
      clear hvc f0 z0 f1 z1 KQ4 hO O0 O1 O2 O3 lt3 na nb nc nd ne nf na1 nb1 nc1 ma mb mc Q4 hb2 y
      have O0 := V0x
      have O1 := V1x
      have O2 := V2x
      have O3 := V3x
      clear V0x V1x V2x V3x
      obtain ⟨v, hv⟩ : ∃ x : Later V.heap.size V, x = vc := ⟨_, rfl⟩
      rw [← hv] at O0 O1 O2 O3 ⊢
      clear hv vc
      have M0 : Hid (MB v.val V.heap.size n1 ad0 cp0 xs1) := Lib.hid ⟨O0.out.1, O0.out.2.reads⟩
      have M1 : Hid (MB v.val g1 n2 ad1 cp1 xs2) := Lib.hid ⟨O1.out.1, O1.out.2.reads⟩
      have M2 : Hid (MB v.val g2 n3 ad2 cp2 xs3) := Lib.hid ⟨O2.out.1, O2.out.2.reads⟩
      have M3 : Hid (MB v.val g3 n4 ad3 cp3 xs4) := Lib.hid ⟨O3.out.1, O3.out.2.reads⟩
      clear O0 O1 O2 O3
      have KP := Lib.hid (P1.out v)
      go_upto_region 13 with (first | (go_at_call 48; (with_reducible refine (KP.out).mono ?_); rintro e _ ⟨_, rfl, ⟨aa0, cc0, rfl, hO⟩, y, rfl⟩))
      have N0 : Hid (MB (y.val.alloc (.cells #[.int .i64 n1, .slice aa0 xs1.length cc0] 24)) y.val.heap.size n1 aa0 cc0 xs1) := Lib.hid ⟨RowL.new _ _ _, (hO.reads).to ((Later.self y.val).alloc _)⟩
      have M0x := Lib.hid (M0.out.later (y.alloc (.cells #[.int .i64 n1, .slice aa0 xs1.length cc0] 24)))
      have M1x := Lib.hid (M1.out.later (y.alloc (.cells #[.int .i64 n1, .slice aa0 xs1.length cc0] 24)))
      have M2x := Lib.hid (M2.out.later (y.alloc (.cells #[.int .i64 n1, .slice aa0 xs1.length cc0] 24)))
      have M3x := Lib.hid (M3.out.later (y.alloc (.cells #[.int .i64 n1, .slice aa0 xs1.length cc0] 24)))
      obtain ⟨v', hv'⟩ : ∃ v' : Later V.heap.size V, v'.val = (y.val.alloc (.cells #[.int .i64 n1, .slice aa0 xs1.length cc0] 24)) := ⟨v.up (y.alloc _), rfl⟩
      rw [show ((y.alloc (.cells #[.int .i64 n1, .slice aa0 xs1.length cc0] 24)).val) = (y.val.alloc (.cells #[.int .i64 n1, .slice aa0 xs1.length cc0] 24)) from rfl, ← hv'] at M0x
      rw [show ((y.alloc (.cells #[.int .i64 n1, .slice aa0 xs1.length cc0] 24)).val) = (y.val.alloc (.cells #[.int .i64 n1, .slice aa0 xs1.length cc0] 24)) from rfl, ← hv'] at M1x
      rw [show ((y.alloc (.cells #[.int .i64 n1, .slice aa0 xs1.length cc0] 24)).val) = (y.val.alloc (.cells #[.int .i64 n1, .slice aa0 xs1.length cc0] 24)) from rfl, ← hv'] at M2x
      rw [show ((y.alloc (.cells #[.int .i64 n1, .slice aa0 xs1.length cc0] 24)).val) = (y.val.alloc (.cells #[.int .i64 n1, .slice aa0 xs1.length cc0] 24)) from rfl, ← hv'] at M3x
      rw [← hv'] at N0 ⊢
      clear M0 M1 M2 M3 KP hv' hO
      have M0 := M0x
      have M1 := M1x
      have M2 := M2x
      have M3 := M3x
      clear M0x M1x M2x M3x
      generalize y.val.heap.size = h0 at *
      clear y
      obtain ⟨v, hv⟩ : ∃ x : Later V.heap.size V, x = v' := ⟨_, rfl⟩
      rw [← hv] at M0 M1 M2 M3 N0 ⊢
      clear hv v'
      have KP := Lib.hid (P2.out v)
      go_upto_region 14 with (first | (go_at_call 49; (with_reducible refine (KP.out).mono ?_); rintro e _ ⟨_, rfl, ⟨aa1, cc1, rfl, hO⟩, y, rfl⟩))
      have N1 : Hid (MB (y.val.alloc (.cells #[.int .i64 n2, .slice aa1 xs2.length cc1] 24)) y.val.heap.size n2 aa1 cc1 xs2) := Lib.hid ⟨RowL.new _ _ _, (hO.reads).to ((Later.self y.val).alloc _)⟩
      have M0x := Lib.hid (M0.out.later (y.alloc (.cells #[.int .i64 n2, .slice aa1 xs2.length cc1] 24)))
      have M1x := Lib.hid (M1.out.later (y.alloc (.cells #[.int .i64 n2, .slice aa1 xs2.length cc1] 24)))
      have M2x := Lib.hid (M2.out.later (y.alloc (.cells #[.int .i64 n2, .slice aa1 xs2.length cc1] 24)))
      have M3x := Lib.hid (M3.out.later (y.alloc (.cells #[.int .i64 n2, .slice aa1 xs2.length cc1] 24)))
      have N0x := Lib.hid (N0.out.later (y.alloc (.cells #[.int .i64 n2, .slice aa1 xs2.length cc1] 24)))
      obtain ⟨v', hv'⟩ : ∃ v' : Later V.heap.size V, v'.val = (y.val.alloc (.cells #[.int .i64 n2, .slice aa1 xs2.length cc1] 24)) := ⟨v.up (y.alloc _), rfl⟩
      rw [show ((y.alloc (.cells #[.int .i64 n2, .slice aa1 xs2.length cc1] 24)).val) = (y.val.alloc (.cells #[.int .i64 n2, .slice aa1 xs2.length cc1] 24)) from rfl, ← hv'] at M0x
      rw [show ((y.alloc (.cells #[.int .i64 n2, .slice aa1 xs2.length cc1] 24)).val) = (y.val.alloc (.cells #[.int .i64 n2, .slice aa1 xs2.length cc1] 24)) from rfl, ← hv'] at M1x
      rw [show ((y.alloc (.cells #[.int .i64 n2, .slice aa1 xs2.length cc1] 24)).val) = (y.val.alloc (.cells #[.int .i64 n2, .slice aa1 xs2.length cc1] 24)) from rfl, ← hv'] at M2x
      rw [show ((y.alloc (.cells #[.int .i64 n2, .slice aa1 xs2.length cc1] 24)).val) = (y.val.alloc (.cells #[.int .i64 n2, .slice aa1 xs2.length cc1] 24)) from rfl, ← hv'] at M3x
      rw [show ((y.alloc (.cells #[.int .i64 n2, .slice aa1 xs2.length cc1] 24)).val) = (y.val.alloc (.cells #[.int .i64 n2, .slice aa1 xs2.length cc1] 24)) from rfl, ← hv'] at N0x
      rw [← hv'] at N1 ⊢
      clear M0 M1 M2 M3 N0 KP hv' hO
      have M0 := M0x
      have M1 := M1x
      have M2 := M2x
      have M3 := M3x
      have N0 := N0x
      clear M0x M1x M2x M3x N0x
      generalize y.val.heap.size = h1 at *
      clear y
      obtain ⟨v, hv⟩ : ∃ x : Later V.heap.size V, x = v' := ⟨_, rfl⟩
      rw [← hv] at M0 M1 M2 M3 N0 N1 ⊢
      clear hv v'
      have KP := Lib.hid (P3.out v)
      go_upto_region 15 with (first | (go_at_call 50; (with_reducible refine (KP.out).mono ?_); rintro e _ ⟨_, rfl, ⟨aa2, cc2, rfl, hO⟩, y, rfl⟩))
      have N2 : Hid (MB (y.val.alloc (.cells #[.int .i64 n3, .slice aa2 xs3.length cc2] 24)) y.val.heap.size n3 aa2 cc2 xs3) := Lib.hid ⟨RowL.new _ _ _, (hO.reads).to ((Later.self y.val).alloc _)⟩
      have M0x := Lib.hid (M0.out.later (y.alloc (.cells #[.int .i64 n3, .slice aa2 xs3.length cc2] 24)))
      have M1x := Lib.hid (M1.out.later (y.alloc (.cells #[.int .i64 n3, .slice aa2 xs3.length cc2] 24)))
      have M2x := Lib.hid (M2.out.later (y.alloc (.cells #[.int .i64 n3, .slice aa2 xs3.length cc2] 24)))
      have M3x := Lib.hid (M3.out.later (y.alloc (.cells #[.int .i64 n3, .slice aa2 xs3.length cc2] 24)))
      have N0x := Lib.hid (N0.out.later (y.alloc (.cells #[.int .i64 n3, .slice aa2 xs3.length cc2] 24)))
      have N1x := Lib.hid (N1.out.later (y.alloc (.cells #[.int .i64 n3, .slice aa2 xs3.length cc2] 24)))
      obtain ⟨v', hv'⟩ : ∃ v' : Later V.heap.size V, v'.val = (y.val.alloc (.cells #[.int .i64 n3, .slice aa2 xs3.length cc2] 24)) := ⟨v.up (y.alloc _), rfl⟩
      rw [show ((y.alloc (.cells #[.int .i64 n3, .slice aa2 xs3.length cc2] 24)).val) = (y.val.alloc (.cells #[.int .i64 n3, .slice aa2 xs3.length cc2] 24)) from rfl, ← hv'] at M0x
      rw [show ((y.alloc (.cells #[.int .i64 n3, .slice aa2 xs3.length cc2] 24)).val) = (y.val.alloc (.cells #[.int .i64 n3, .slice aa2 xs3.length cc2] 24)) from rfl, ← hv'] at M1x
      rw [show ((y.alloc (.cells #[.int .i64 n3, .slice aa2 xs3.length cc2] 24)).val) = (y.val.alloc (.cells #[.int .i64 n3, .slice aa2 xs3.length cc2] 24)) from rfl, ← hv'] at M2x
      rw [show ((y.alloc (.cells #[.int .i64 n3, .slice aa2 xs3.length cc2] 24)).val) = (y.val.alloc (.cells #[.int .i64 n3, .slice aa2 xs3.length cc2] 24)) from rfl, ← hv'] at M3x
      rw [show ((y.alloc (.cells #[.int .i64 n3, .slice aa2 xs3.length cc2] 24)).val) = (y.val.alloc (.cells #[.int .i64 n3, .slice aa2 xs3.length cc2] 24)) from rfl, ← hv'] at N0x
      rw [show ((y.alloc (.cells #[.int .i64 n3, .slice aa2 xs3.length cc2] 24)).val) = (y.val.alloc (.cells #[.int .i64 n3, .slice aa2 xs3.length cc2] 24)) from rfl, ← hv'] at N1x
      rw [← hv'] at N2 ⊢
      clear M0 M1 M2 M3 N0 N1 KP hv' hO
      have M0 := M0x
      have M1 := M1x
      have M2 := M2x
      have M3 := M3x
      have N0 := N0x
      have N1 := N1x
      clear M0x M1x M2x M3x N0x N1x
      generalize y.val.heap.size = h2 at *
      clear y
      obtain ⟨v, hv⟩ : ∃ x : Later V.heap.size V, x = v' := ⟨_, rfl⟩
      rw [← hv] at M0 M1 M2 M3 N0 N1 N2 ⊢
      clear hv v'
      have KP := Lib.hid (P4.out v)
      go_upto_region 16 with (first | (go_at_call 51; (with_reducible refine (KP.out).mono ?_); rintro e _ ⟨_, rfl, ⟨aa3, cc3, rfl, hO⟩, y, rfl⟩))
      have N3 : Hid (MB (y.val.alloc (.cells #[.int .i64 n4, .slice aa3 xs4.length cc3] 24)) y.val.heap.size n4 aa3 cc3 xs4) := Lib.hid ⟨RowL.new _ _ _, (hO.reads).to ((Later.self y.val).alloc _)⟩
      have M0x := Lib.hid (M0.out.later (y.alloc (.cells #[.int .i64 n4, .slice aa3 xs4.length cc3] 24)))
      have M1x := Lib.hid (M1.out.later (y.alloc (.cells #[.int .i64 n4, .slice aa3 xs4.length cc3] 24)))
      have M2x := Lib.hid (M2.out.later (y.alloc (.cells #[.int .i64 n4, .slice aa3 xs4.length cc3] 24)))
      have M3x := Lib.hid (M3.out.later (y.alloc (.cells #[.int .i64 n4, .slice aa3 xs4.length cc3] 24)))
      have N0x := Lib.hid (N0.out.later (y.alloc (.cells #[.int .i64 n4, .slice aa3 xs4.length cc3] 24)))
      have N1x := Lib.hid (N1.out.later (y.alloc (.cells #[.int .i64 n4, .slice aa3 xs4.length cc3] 24)))
      have N2x := Lib.hid (N2.out.later (y.alloc (.cells #[.int .i64 n4, .slice aa3 xs4.length cc3] 24)))
      obtain ⟨v', hv'⟩ : ∃ v' : Later V.heap.size V, v'.val = (y.val.alloc (.cells #[.int .i64 n4, .slice aa3 xs4.length cc3] 24)) := ⟨v.up (y.alloc _), rfl⟩
      rw [show ((y.alloc (.cells #[.int .i64 n4, .slice aa3 xs4.length cc3] 24)).val) = (y.val.alloc (.cells #[.int .i64 n4, .slice aa3 xs4.length cc3] 24)) from rfl, ← hv'] at M0x
      rw [show ((y.alloc (.cells #[.int .i64 n4, .slice aa3 xs4.length cc3] 24)).val) = (y.val.alloc (.cells #[.int .i64 n4, .slice aa3 xs4.length cc3] 24)) from rfl, ← hv'] at M1x
      rw [show ((y.alloc (.cells #[.int .i64 n4, .slice aa3 xs4.length cc3] 24)).val) = (y.val.alloc (.cells #[.int .i64 n4, .slice aa3 xs4.length cc3] 24)) from rfl, ← hv'] at M2x
      rw [show ((y.alloc (.cells #[.int .i64 n4, .slice aa3 xs4.length cc3] 24)).val) = (y.val.alloc (.cells #[.int .i64 n4, .slice aa3 xs4.length cc3] 24)) from rfl, ← hv'] at M3x
      rw [show ((y.alloc (.cells #[.int .i64 n4, .slice aa3 xs4.length cc3] 24)).val) = (y.val.alloc (.cells #[.int .i64 n4, .slice aa3 xs4.length cc3] 24)) from rfl, ← hv'] at N0x
      rw [show ((y.alloc (.cells #[.int .i64 n4, .slice aa3 xs4.length cc3] 24)).val) = (y.val.alloc (.cells #[.int .i64 n4, .slice aa3 xs4.length cc3] 24)) from rfl, ← hv'] at N1x
      rw [show ((y.alloc (.cells #[.int .i64 n4, .slice aa3 xs4.length cc3] 24)).val) = (y.val.alloc (.cells #[.int .i64 n4, .slice aa3 xs4.length cc3] 24)) from rfl, ← hv'] at N2x
      rw [← hv'] at N3 ⊢
      clear M0 M1 M2 M3 N0 N1 N2 KP hv' hO
      have M0 := M0x
      have M1 := M1x
      have M2 := M2x
      have M3 := M3x
      have N0 := N0x
      have N1 := N1x
      have N2 := N2x
      clear M0x M1x M2x M3x N0x N1x N2x
      generalize y.val.heap.size = h3 at *
      clear y
      obtain ⟨v, hv⟩ : ∃ x : Later V.heap.size V, x = v' := ⟨_, rfl⟩
      rw [← hv] at M0 M1 M2 M3 N0 N1 N2 N3 ⊢
      clear hv v'
      have KT0 : Hid (∀ w : Later v.val.heap.size v.val, Calls Try.prog 40 #[.agg #[.int .i64 n1, .slice aa0 xs1.length cc0], .int .i64 0, .agg #[.int .i64 n1, .slice ad0 xs1.length cp0], .int .i64 0] w.val (Ret v.val.heap.size v.val (.bool true))) := Lib.hid (fun w => c_told w n1 n1 xs1 xs1 aa0 ad0 cc0 cp0 0 0 N0.out.2 M0.out.2 HL0.out rfl (told_ok HZ0.out))
      have a00 : ∀ w : Later v.val.heap.size v.val, w.val.cell? ⟨h0, 0, none⟩ = some (.int .i64 n1) := fun w => (N0.out.1.keep w.below).cell rfl
      have a01 : ∀ w : Later v.val.heap.size v.val, w.val.cell? ⟨h0, 1, none⟩ = some (.slice aa0 xs1.length cc0) := fun w => (N0.out.1.keep w.below).cell rfl
      have b00 : ∀ w : Later v.val.heap.size v.val, w.val.cell? ⟨V.heap.size, 0, none⟩ = some (.int .i64 n1) := fun w => (M0.out.1.keep w.below).cell rfl
      have b01 : ∀ w : Later v.val.heap.size v.val, w.val.cell? ⟨V.heap.size, 1, none⟩ = some (.slice ad0 xs1.length cp0) := fun w => (M0.out.1.keep w.below).cell rfl
      have KT1 : Hid (∀ w : Later v.val.heap.size v.val, Calls Try.prog 40 #[.agg #[.int .i64 n2, .slice aa1 xs2.length cc1], .int .i64 0, .agg #[.int .i64 n2, .slice ad1 xs2.length cp1], .int .i64 0] w.val (Ret v.val.heap.size v.val (.bool true))) := Lib.hid (fun w => c_told w n2 n2 xs2 xs2 aa1 ad1 cc1 cp1 0 0 N1.out.2 M1.out.2 HL1.out rfl (told_ok HZ1.out))
      have a10 : ∀ w : Later v.val.heap.size v.val, w.val.cell? ⟨h1, 0, none⟩ = some (.int .i64 n2) := fun w => (N1.out.1.keep w.below).cell rfl
      have a11 : ∀ w : Later v.val.heap.size v.val, w.val.cell? ⟨h1, 1, none⟩ = some (.slice aa1 xs2.length cc1) := fun w => (N1.out.1.keep w.below).cell rfl
      have b10 : ∀ w : Later v.val.heap.size v.val, w.val.cell? ⟨g1, 0, none⟩ = some (.int .i64 n2) := fun w => (M1.out.1.keep w.below).cell rfl
      have b11 : ∀ w : Later v.val.heap.size v.val, w.val.cell? ⟨g1, 1, none⟩ = some (.slice ad1 xs2.length cp1) := fun w => (M1.out.1.keep w.below).cell rfl
      have KT2 : Hid (∀ w : Later v.val.heap.size v.val, Calls Try.prog 40 #[.agg #[.int .i64 n3, .slice aa2 xs3.length cc2], .int .i64 0, .agg #[.int .i64 n3, .slice ad2 xs3.length cp2], .int .i64 0] w.val (Ret v.val.heap.size v.val (.bool true))) := Lib.hid (fun w => c_told w n3 n3 xs3 xs3 aa2 ad2 cc2 cp2 0 0 N2.out.2 M2.out.2 HL2.out rfl (told_ok HZ2.out))
      have a20 : ∀ w : Later v.val.heap.size v.val, w.val.cell? ⟨h2, 0, none⟩ = some (.int .i64 n3) := fun w => (N2.out.1.keep w.below).cell rfl
      have a21 : ∀ w : Later v.val.heap.size v.val, w.val.cell? ⟨h2, 1, none⟩ = some (.slice aa2 xs3.length cc2) := fun w => (N2.out.1.keep w.below).cell rfl
      have b20 : ∀ w : Later v.val.heap.size v.val, w.val.cell? ⟨g2, 0, none⟩ = some (.int .i64 n3) := fun w => (M2.out.1.keep w.below).cell rfl
      have b21 : ∀ w : Later v.val.heap.size v.val, w.val.cell? ⟨g2, 1, none⟩ = some (.slice ad2 xs3.length cp2) := fun w => (M2.out.1.keep w.below).cell rfl
      have KT3 : Hid (∀ w : Later v.val.heap.size v.val, Calls Try.prog 40 #[.agg #[.int .i64 n4, .slice aa3 xs4.length cc3], .int .i64 0, .agg #[.int .i64 n4, .slice ad3 xs4.length cp3], .int .i64 0] w.val (Ret v.val.heap.size v.val (.bool true))) := Lib.hid (fun w => c_told w n4 n4 xs4 xs4 aa3 ad3 cc3 cp3 0 0 N3.out.2 M3.out.2 HL3.out rfl (told_ok HZ3.out))
      have a30 : ∀ w : Later v.val.heap.size v.val, w.val.cell? ⟨h3, 0, none⟩ = some (.int .i64 n4) := fun w => (N3.out.1.keep w.below).cell rfl
      have a31 : ∀ w : Later v.val.heap.size v.val, w.val.cell? ⟨h3, 1, none⟩ = some (.slice aa3 xs4.length cc3) := fun w => (N3.out.1.keep w.below).cell rfl
      have b30 : ∀ w : Later v.val.heap.size v.val, w.val.cell? ⟨g3, 0, none⟩ = some (.int .i64 n4) := fun w => (M3.out.1.keep w.below).cell rfl
      have b31 : ∀ w : Later v.val.heap.size v.val, w.val.cell? ⟨g3, 1, none⟩ = some (.slice ad3 xs4.length cp3) := fun w => (M3.out.1.keep w.below).cell rfl
      clear M0 M1 M2 M3 N0 N1 N2 N3 P1 P2 P3 P4 HZ0 HZ1 HZ2 HZ3
      obtain ⟨w, hw⟩ : ∃ w : Later v.val.heap.size v.val, w.val = v.val := ⟨Later.self _, rfl⟩
      rw [← hw]
      clear hw
      go_wp2_with (first | (go_at_call 40; (with_reducible refine (KT0.out _).mono ?_); rintro e _ ⟨rfl, w, rfl⟩) | (go_at_call 40; (with_reducible refine (KT1.out _).mono ?_); rintro e _ ⟨rfl, w, rfl⟩) | (go_at_call 40; (with_reducible refine (KT2.out _).mono ?_); rintro e _ ⟨rfl, w, rfl⟩) | (go_at_call 40; (with_reducible refine (KT3.out _).mono ?_); rintro e _ ⟨rfl, w, rfl⟩))
      go_ret
      exact Ret.of (HVB.out (v.up w)) rfl

end Go.Proofs.Ytjpcelldbhdneaa
