
/-
  rotalaw.FieldMakes of a matrix; of whatever.
-/
import Derived.Test.YtffnpokceomncaaFmLaw
namespace Go.Proofs.Ytffnpokceomncaa
open Go.RowKit
set_option linter.unusedVariables false

theorem prT_bound {p N K C : Nat} {X Y : Nat → Nat → Int} (hp : p ≤ 7) (hX : Small p N K X) (hY : Small p K C Y) {i j : Nat} (hi : i < N) (hj : j < C) : ∀ k, k ≤ K → 0 ≤ prT X Y i j k ∧ prT X Y i j k ≤ 49 * k
  | 0, _ => by unfold prT; simp [isum]
  | k + 1, hk => by
    have h1 := prT_bound hp hX hY hi hj k (by omega)
    have h2 := hX i k hi (by omega)
    have h3 := hY k j (by omega) hj
    have h4 := mul_small (a := X i k) (b := Y k j) (by omega) (by omega)
    have e : prT X Y i j (k + 1) = prT X Y i j k + X i k * Y k j := rfl
    omega
def AnyV (V : World) (w : World) : Prop := ∃ v : Later V.heap.size V, w = v.val
def ValV (V : World) (y x : Value) (w : World) : Prop := x = y ∧ ∃ v : Later V.heap.size V, w = v.val

set_option maxRecDepth 100000 in
set_option maxHeartbeats 20000000 in
theorem law_fm_yes {B : Nat} {W : World} (u : Later B W) (px cx py cy : Int) (rx ry : Lls) (ax ay : Option Addr) (capx capy : Nat) (hx : RowsI B W ax rx) (hy : RowsI B W ay ry)
    (hlx : rx.length ≤ 17592186044416) (hrx : ∀ i, i < rx.length → (rx.getD i []).length ≤ 17592186044416) (hly : ry.length ≤ 17592186044416) (hry : ∀ i, i < ry.length → (ry.getD i []).length ≤ 17592186044416) (hN : isMatrix px cx rx) :
    Calls Try.prog 3 #[.agg #[.int .i64 px, .int .i64 cx, .slice ax rx.length capx], .agg #[.int .i64 py, .int .i64 cy, .slice ay ry.length capy]] u.val (Ret B W (.bool true)) := by
  have k1 : (u.val.alloc (.cells #[.int .i64 px, .int .i64 cx, .slice ax rx.length capx] 24)).heap.size = u.val.heap.size + 1 := by simp
  have TX : Hid (RowL ((u.val.alloc (.cells #[.int .i64 px, .int .i64 cx, .slice ax rx.length capx] 24)).alloc (.cells #[.int .i64 py, .int .i64 cy, .slice ay ry.length capy] 24)) u.val.heap.size 24 [.int .i64 px, .int .i64 cx, .slice ax rx.length capx]) := Lib.hid ((RowL.new u.val 24 _).keep ((Below.refl _ _).alloc (Nat.le_refl _) _))
  have TY : Hid (RowL ((u.val.alloc (.cells #[.int .i64 px, .int .i64 cx, .slice ax rx.length capx] 24)).alloc (.cells #[.int .i64 py, .int .i64 cy, .slice ay ry.length capy] 24)) (u.val.heap.size + 1) 24 [.int .i64 py, .int .i64 cy, .slice ay ry.length capy]) := Lib.hid (by
    have h := RowL.new (u.val.alloc (.cells #[.int .i64 px, .int .i64 cx, .slice ax rx.length capx] 24)) 24 [.int .i64 py, .int .i64 cy, .slice ay ry.length capy]
    rwa [k1] at h)
  have HV : Hid (∀ v : Later ((u.val.alloc (.cells #[.int .i64 px, .int .i64 cx, .slice ax rx.length capx] 24)).alloc (.cells #[.int .i64 py, .int .i64 cy, .slice ay ry.length capy] 24)).heap.size ((u.val.alloc (.cells #[.int .i64 px, .int .i64 cx, .slice ax rx.length capx] 24)).alloc (.cells #[.int .i64 py, .int .i64 cy, .slice ay ry.length capy] 24)), ∃ w : Later B W, w.val = v.val) := Lib.hid (fun v => ⟨((u.alloc _).alloc _).up v, rfl⟩)
  have HXs : Hid (RowsI ((u.val.alloc (.cells #[.int .i64 px, .int .i64 cx, .slice ax rx.length capx] 24)).alloc (.cells #[.int .i64 py, .int .i64 cy, .slice ay ry.length capy] 24)).heap.size ((u.val.alloc (.cells #[.int .i64 px, .int .i64 cx, .slice ax rx.length capx] 24)).alloc (.cells #[.int .i64 py, .int .i64 cy, .slice ay ry.length capy] 24)) ax rx) := Lib.hid (hx.to ((u.alloc _).alloc _))
  have HYs : Hid (RowsI ((u.val.alloc (.cells #[.int .i64 px, .int .i64 cx, .slice ax rx.length capx] 24)).alloc (.cells #[.int .i64 py, .int .i64 cy, .slice ay ry.length capy] 24)).heap.size ((u.val.alloc (.cells #[.int .i64 px, .int .i64 cx, .slice ax rx.length capx] 24)).alloc (.cells #[.int .i64 py, .int .i64 cy, .slice ay ry.length capy] 24)) ay ry) := Lib.hid (hy.to ((u.alloc _).alloc _))
  have HRx := Lib.hid hrx
  have HRy := Lib.hid hry
  clear hx hy k1 hrx hry
  go_enter Try.func3, Try.ntmps3
  go_upto_region 1 with fail
  generalize ((u.val.alloc (.cells #[.int .i64 px, .int .i64 cx, .slice ax rx.length capx] 24)).alloc (.cells #[.int .i64 py, .int .i64 cy, .slice ay ry.length capy] 24)) = Y at *
  generalize u.val.heap.size = g0 at *
  clear u
  have x0 : ∀ v : Later Y.heap.size Y, v.val.cell? ⟨g0, 0, none⟩ = some (.int .i64 px) := fun v => (TX.out.keep v.below).cell rfl
  have x1 : ∀ v : Later Y.heap.size Y, v.val.cell? ⟨g0, 1, none⟩ = some (.int .i64 cx) := fun v => (TX.out.keep v.below).cell rfl
  have x2 : ∀ v : Later Y.heap.size Y, v.val.cell? ⟨g0, 2, none⟩ = some (.slice ax rx.length capx) := fun v => (TX.out.keep v.below).cell rfl
  have y0 : ∀ v : Later Y.heap.size Y, v.val.cell? ⟨g0 + 1, 0, none⟩ = some (.int .i64 py) := fun v => (TY.out.keep v.below).cell rfl
  have y1 : ∀ v : Later Y.heap.size Y, v.val.cell? ⟨g0 + 1, 1, none⟩ = some (.int .i64 cy) := fun v => (TY.out.keep v.below).cell rfl
  have y2 : ∀ v : Later Y.heap.size Y, v.val.cell? ⟨g0 + 1, 2, none⟩ = some (.slice ay ry.length capy) := fun v => (TY.out.keep v.below).cell rfl
  obtain ⟨z, hz⟩ : ∃ z : Later Y.heap.size Y, z.val = Y := ⟨Later.self _, rfl⟩
  obtain ⟨p, hpp, hp⟩ := PrimeP.of hN.1
  have hp7 := hp.le
  subst hpp
  obtain ⟨C, hC⟩ := Int.eq_ofNat_of_zero_le hN.2.1.1
  have hC8 : C ≤ 8 := by have := hN.2.1.2; omega
  subst hC
  have hN6 : rx.length ≤ 6 := hN.2.2.1
  have hrX : ∀ i, i < rx.length → (rx.getD i []).length = C := fun i hi => by have := (hN.2.2.2 i hi).1; omega
  have hsX : Small p rx.length C (ent rx) := fun i j hi hj => (hN.2.2.2 i hi).2 j (by rw [hrX i hi]; exact hj)
  -- what the determinant is
  obtain ⟨di, hdi⟩ : ∃ di, ((rx.length : Int) == (C : Int)) = di := ⟨_, rfl⟩
  obtain ⟨ei, hei⟩ : ∃ ei, ei = errno di 3 := ⟨_, rfl⟩
  have hdet : ∃ dn : Int, (∀ w : Later Y.heap.size Y, Calls Try.prog 6 #[.agg #[.int .i64 p, .int .i64 C, .slice ax rx.length capx]] w.val (Ret Y.heap.size Y (.tuple #[.int .i64 dn, .int .i64 ei]))) ∧ (ei ≠ 0 → dn = 0) ∧ (ei = 0 → ∀ v : Later Y.heap.size Y, Calls Try.prog 11 #[.agg #[.int .i64 p, .int .i64 C, .slice ax rx.length capx]] v.val (Ret v.val.heap.size v.val (.int .i64 dn))) := by
    by_cases e : rx.length = C
    · have h0 : ei = 0 := by
        rw [hei, ← hdi, show ((rx.length : Int) == (C : Int)) = true by rw [beq_iff_eq]; omega]; rfl
      rw [h0]
      have hm : isMatrix (p : Int) (rx.length : Int) rx := by rw [e]; exact hN
      rw [← e]
      exact ⟨_, fun w => c_fieldDet w p rx ax capx HXs.out hp hm, fun h => absurd rfl h, fun _ v => c_refDet (Later.self v.val) p rx ax capx (HXs.out.to v) hp hm⟩
    · have h3 : ei = 3 := by
        rw [hei, ← hdi, show ((rx.length : Int) == (C : Int)) = false by rw [beq_eq_false_iff_ne]; omega]; rfl
      rw [h3]
      exact ⟨0, fun w => c_fieldDet_no w p C rx ax capx HXs.out hlx HRx.out 3 (.inr ⟨hN, by omega, rfl⟩), fun _ => rfl, fun h => by omega⟩
  obtain ⟨dn, hKD, hdn0, hKR⟩ := hdet
  have KD := Lib.hid hKD
  have KR := Lib.hid hKR
  have HDn := Lib.hid hdn0
  -- what the product is
  obtain ⟨yb, hyb⟩ : ∃ yb, decide (isMatrix py cy ry) = yb := ⟨_, rfl⟩
  obtain ⟨sb, hsb⟩ : ∃ sb, decide ((p : Int) = py ∧ (C : Int) = ry.length) = sb := ⟨_, rfl⟩
  obtain ⟨ej, hej⟩ : ∃ ej : Int, ej = (if yb = true then errno sb 3 else 1) := ⟨_, rfl⟩
  have hprod : ∃ (p1 c1 : Int) (N1 C1 : Nat) (P1 : Nat → Nat → Int), (∀ w : Later Y.heap.size Y, Calls Try.prog 7 #[.agg #[.int .i64 p, .int .i64 C, .slice ax rx.length capx], .agg #[.int .i64 py, .int .i64 cy, .slice ay ry.length capy]] w.val (RetP Y.heap.size Y (MatM Y.heap.size p1 c1 N1 C1 P1 ej))) ∧ (ej ≠ 0 → p1 = 0 ∧ c1 = 0 ∧ N1 = 0) ∧ (ej = 0 → isMatrix py cy ry ∧ (p : Int) = py ∧ C = ry.length ∧ p1 = p ∧ c1 = cy ∧ N1 = rx.length ∧ (C1 : Int) = cy ∧ P1 = fun i j => prT (ent rx) (ent ry) i j ry.length % (p : Int)) := by
    by_cases h1 : isMatrix py cy ry
    · rw [decide_eq_true h1] at hyb
      by_cases h2 : (p : Int) = py ∧ (C : Int) = ry.length
      · rw [decide_eq_true h2] at hsb
        have h0 : ej = 0 := by rw [hej, ← hyb, ← hsb]; rfl
        rw [h0]
        obtain ⟨C1, hC1⟩ := Int.eq_ofNat_of_zero_le h1.2.1.1
        exact ⟨p, cy, rx.length, C1, fun i j => prT (ent rx) (ent ry) i j ry.length % (p : Int), fun w => c_times w p C py cy rx ry ax ay capx capy HXs.out HYs.out hlx HRx.out hly HRy.out _ _ _ _ _ 0 (.inr (.inr ⟨⟨hN, h1⟩, h2, rfl⟩)) (fun h => absurd rfl h) (fun _ => ⟨rfl, rfl, rfl, hC1.symm, rfl⟩), fun h => absurd rfl h, fun _ => ⟨h1, h2.1, by omega, rfl, rfl, rfl, hC1.symm, rfl⟩⟩
      · rw [decide_eq_false h2] at hsb
        have h0 : ej = 3 := by rw [hej, ← hyb, ← hsb]; rfl
        rw [h0]
        exact ⟨0, 0, 0, 0, fun _ _ => 0, fun w => c_times w p C py cy rx ry ax ay capx capy HXs.out HYs.out hlx HRx.out hly HRy.out _ _ _ _ _ 3 (.inr (.inl ⟨⟨hN, h1⟩, h2, rfl⟩)) (fun _ => ⟨rfl, rfl, rfl⟩) (fun h => by omega), fun _ => ⟨rfl, rfl, rfl⟩, fun h => by omega⟩
    · rw [decide_eq_false h1] at hyb
      have h0 : ej = 1 := by rw [hej, ← hyb]; rfl
      rw [h0]
      exact ⟨0, 0, 0, 0, fun _ _ => 0, fun w => c_times w p C py cy rx ry ax ay capx capy HXs.out HYs.out hlx HRx.out hly HRy.out _ _ _ _ _ 1 (.inl ⟨fun h => h1 h.2, rfl⟩) (fun _ => ⟨rfl, rfl, rfl⟩) (fun h => by omega), fun _ => ⟨rfl, rfl, rfl⟩, fun h => by omega⟩
  obtain ⟨p1, c1, N1, C1, P1, hKT, hj0, hj1⟩ := hprod
  have KT := Lib.hid hKT
  have HJ0 := Lib.hid hj0
  have HJ1 := Lib.hid hj1
  -- what the turned one is
  obtain ⟨kb, hkb⟩ : ∃ kb, decide ((C : Int) ≤ 6) = kb := ⟨_, rfl⟩
  obtain ⟨ek, hek⟩ : ∃ ek, ek = errno kb 2 := ⟨_, rfl⟩
  have hturn : ∃ (p2 c2 : Int) (N2 C2 : Nat) (P2 : Nat → Nat → Int), (∀ v : Later Y.heap.size Y, Calls Try.prog 8 #[.agg #[.int .i64 p, .int .i64 C, .slice ax rx.length capx]] v.val (RetP v.val.heap.size v.val (MatM v.val.heap.size p2 c2 N2 C2 P2 ek))) ∧ (ek ≠ 0 → p2 = 0 ∧ c2 = 0 ∧ N2 = 0) ∧ (ek = 0 → p2 = p ∧ c2 = rx.length ∧ N2 = C ∧ C2 = rx.length ∧ P2 = fun i j => ent rx j i) := by
    by_cases h1 : (C : Int) ≤ 6
    · have h0 : ek = 0 := by rw [hek, ← hkb, decide_eq_true h1]; rfl
      rw [h0]
      exact ⟨p, rx.length, C, rx.length, fun i j => ent rx j i, fun v => c_turned (Later.self v.val) p C rx ax capx (HXs.out.to v) hlx HRx.out _ _ _ _ _ 0 (.inr (.inr ⟨hN, h1, rfl⟩)) (fun h => absurd rfl h) (fun _ => ⟨rfl, rfl, rfl, rfl, rfl⟩), fun h => absurd rfl h, fun _ => ⟨rfl, rfl, rfl, rfl, rfl⟩⟩
    · have h0 : ek = 2 := by rw [hek, ← hkb, decide_eq_false h1]; rfl
      rw [h0]
      exact ⟨0, 0, 0, 0, fun _ _ => 0, fun v => c_turned (Later.self v.val) p C rx ax capx (HXs.out.to v) hlx HRx.out _ _ _ _ _ 2 (.inr (.inl ⟨hN, h1, rfl⟩)) (fun _ => ⟨rfl, rfl, rfl⟩) (fun h => by omega), fun _ => ⟨rfl, rfl, rfl⟩, fun h => by omega⟩
  obtain ⟨p2, c2, N2, C2, P2, hKU, hk0, hk1⟩ := hturn
  have KU := Lib.hid hKU
  have HK0 := Lib.hid hk0
  have HK1 := Lib.hid hk1
  have HNh := Lib.hid hN
  have HDi := Lib.hid hdi
  have HEi := Lib.hid hei
  have HYb := Lib.hid hyb
  have HSb := Lib.hid hsb
  have HEj := Lib.hid hej
  have HKb := Lib.hid hkb
  have HEk := Lib.hid hek
  have HrX := Lib.hid hrX
  have HsX := Lib.hid hsX
  clear hKD hdn0 hKR hKT hj0 hj1 hKU hk0 hk1 hdi hei hyb hsb hej hkb hek hN hrX hsX
  rw [← hz]
  clear hz
  have d0 := x0 z
  have d1 := x1 z
  have d2 := x2 z
  go_upto_region 2 with (first | (go_at_call 6; (with_reducible refine (KD.out z).mono ?_); rintro e _ ⟨rfl, v1, rfl⟩) | fail)
  have a0 := x0 v1
  have a1 := x1 v1
  have a2 := x2 v1
  have b0 := y0 v1
  have b1 := y1 v1
  have b2 := y2 v1
  clear d0 d1 d2 KD
  go_upto_region 3 with (first | (go_at_call 7; (with_reducible refine (KT.out v1).mono ?_); rintro e _ ⟨_, rfl, ⟨adA, gcA, hdA, rA, cpA, rfl, hMA⟩, v2, rfl⟩) | fail)
  clear a0 a1 a2 b0 b1 b2 KT
  have TA : Hid (RowL (v2.val.alloc (.cells #[.int .i64 p1, .int .i64 c1, .slice adA N1 gcA] 24)) v2.val.heap.size 24 [.int .i64 p1, .int .i64 c1, .slice adA N1 gcA]) := Lib.hid (RowL.new _ _ _)
  have RA : Hid (RowsI (v2.val.alloc (.cells #[.int .i64 p1, .int .i64 c1, .slice adA N1 gcA] 24)).heap.size (v2.val.alloc (.cells #[.int .i64 p1, .int .i64 c1, .slice adA N1 gcA] 24)) adA (mxL N1 C1 P1)) := Lib.hid (hMA.rows.to ((Later.self v2.val).alloc _))
  obtain ⟨v3, hv3⟩ : ∃ v3 : Later Y.heap.size Y, v3.val = (v2.val.alloc (.cells #[.int .i64 p1, .int .i64 c1, .slice adA N1 gcA] 24)) := ⟨v2.alloc _, rfl⟩
  have hga : v2.val.heap.size < v3.val.heap.size := by rw [hv3]; simp
  rw [← hv3] at TA RA ⊢
  generalize v2.val.heap.size = ga at *
  clear hv3 hMA hdA rA cpA v2 v1
  have a0 := x0 v3
  have a1 := x1 v3
  have a2 := x2 v3
  have KUs := Lib.hid (KU.out v3)
  go_upto_region 4 with (first | (go_at_call 8; (with_reducible refine (KUs.out).mono ?_); rintro e _ ⟨_, rfl, ⟨adB, gcB, hdB, rB, cpB, rfl, hMB⟩, v4, rfl⟩) | fail)
  clear a0 a1 a2 KU KUs
  have TA4 := TA.out.keep_at v4.below hga
  have TB : Hid (RowL (v4.val.alloc (.cells #[.int .i64 p2, .int .i64 c2, .slice adB N2 gcB] 24)) v4.val.heap.size 24 [.int .i64 p2, .int .i64 c2, .slice adB N2 gcB]) := Lib.hid (RowL.new _ _ _)
  have TA5 : Hid (RowL (v4.val.alloc (.cells #[.int .i64 p2, .int .i64 c2, .slice adB N2 gcB] 24)) ga 24 [.int .i64 p1, .int .i64 c1, .slice adA N1 gcA]) := Lib.hid (TA4.keep ((Below.refl _ _).alloc (Nat.le_refl _) _))
  have RB : Hid (RowsI (v4.val.alloc (.cells #[.int .i64 p2, .int .i64 c2, .slice adB N2 gcB] 24)).heap.size (v4.val.alloc (.cells #[.int .i64 p2, .int .i64 c2, .slice adB N2 gcB] 24)) adB (mxL N2 C2 P2)) := Lib.hid (hMB.rows.to ((Later.self v4.val).alloc _))
  have RA5 : Hid (RowsI (v4.val.alloc (.cells #[.int .i64 p2, .int .i64 c2, .slice adB N2 gcB] 24)).heap.size (v4.val.alloc (.cells #[.int .i64 p2, .int .i64 c2, .slice adB N2 gcB] 24)) adA (mxL N1 C1 P1)) := Lib.hid ((RA.out.to v4).to ((Later.self v4.val).alloc _))
  obtain ⟨v5, hv5⟩ : ∃ v5 : Later Y.heap.size Y, v5.val = (v4.val.alloc (.cells #[.int .i64 p2, .int .i64 c2, .slice adB N2 gcB] 24)) := ⟨(v3.up v4).alloc _, rfl⟩
  rw [← hv5] at TB TA5 RB RA5 ⊢
  have hgb : v4.val.heap.size < v5.val.heap.size := by rw [hv5]; simp
  have hga5 : ga < v5.val.heap.size := TA5.out.lt
  generalize v4.val.heap.size = gb at *
  clear hv5 hMB hdB rB cpB TA TA4 RA hga v4 v3
  have e0 : ∀ w : Later v5.val.heap.size v5.val, w.val.cell? ⟨g0, 0, none⟩ = some (.int .i64 p) := fun w => x0 (v5.up w)
  have e1 : ∀ w : Later v5.val.heap.size v5.val, w.val.cell? ⟨g0, 1, none⟩ = some (.int .i64 C) := fun w => x1 (v5.up w)
  have e2 : ∀ w : Later v5.val.heap.size v5.val, w.val.cell? ⟨g0, 2, none⟩ = some (.slice ax rx.length capx) := fun w => x2 (v5.up w)
  have f0 : ∀ w : Later v5.val.heap.size v5.val, w.val.cell? ⟨g0 + 1, 0, none⟩ = some (.int .i64 py) := fun w => y0 (v5.up w)
  have f1 : ∀ w : Later v5.val.heap.size v5.val, w.val.cell? ⟨g0 + 1, 1, none⟩ = some (.int .i64 cy) := fun w => y1 (v5.up w)
  have f2 : ∀ w : Later v5.val.heap.size v5.val, w.val.cell? ⟨g0 + 1, 2, none⟩ = some (.slice ay ry.length capy) := fun w => y2 (v5.up w)
  have RX : Hid (RowsI v5.val.heap.size v5.val ax rx) := Lib.hid (HXs.out.to v5)
  have RY : Hid (RowsI v5.val.heap.size v5.val ay ry) := Lib.hid (HYs.out.to v5)
  have KR5 : Hid (ei = 0 → ∀ v : Later v5.val.heap.size v5.val, Calls Try.prog 11 #[.agg #[.int .i64 p, .int .i64 C, .slice ax rx.length capx]] v.val (Ret v.val.heap.size v.val (.int .i64 dn))) := Lib.hid (fun h v => KR.out h (v5.up v))
  have HV5 : Hid (∀ w : Later v5.val.heap.size v5.val, ∃ x : Later B W, x.val = w.val) := Lib.hid (fun w => HV.out (v5.up w))
  clear KR HV x0 x1 x2 y0 y1 y2 HXs HYs TX TY
  obtain ⟨V, hVV⟩ : ∃ V, V = v5.val := ⟨_, rfl⟩
  rw [← hVV] at TB TA5 RB RA5 hgb hga5 e0 e1 e2 f0 f1 f2 RX RY KR5 HV5 ⊢
  clear hVV v5 z
  obtain ⟨z, hz⟩ : ∃ z : Later V.heap.size V, z.val = V := ⟨Later.self _, rfl⟩
  have r0 : ∀ w : Later V.heap.size V, w.val.cell? ⟨ga, 0, none⟩ = some (.int .i64 p1) := fun w => (TA5.out.keep w.below).cell rfl
  have r1 : ∀ w : Later V.heap.size V, w.val.cell? ⟨ga, 1, none⟩ = some (.int .i64 c1) := fun w => (TA5.out.keep w.below).cell rfl
  have r2 : ∀ w : Later V.heap.size V, w.val.cell? ⟨ga, 2, none⟩ = some (.slice adA N1 gcA) := fun w => (TA5.out.keep w.below).cell rfl
  have s0 : ∀ w : Later V.heap.size V, w.val.cell? ⟨gb, 0, none⟩ = some (.int .i64 p2) := fun w => (TB.out.keep w.below).cell rfl
  have s1 : ∀ w : Later V.heap.size V, w.val.cell? ⟨gb, 1, none⟩ = some (.int .i64 c2) := fun w => (TB.out.keep w.below).cell rfl
  have s2 : ∀ w : Later V.heap.size V, w.val.cell? ⟨gb, 2, none⟩ = some (.slice adB N2 gcB) := fun w => (TB.out.keep w.below).cell rfl
  clear TA5 TB hga5 hgb
  rw [← hz]
  clear hz
  have KMx : Hid (∀ w : Later V.heap.size V, Calls Try.prog 10 #[.agg #[.int .i64 p, .int .i64 C, .slice ax rx.length capx]] w.val (Ret V.heap.size V (.bool true))) := Lib.hid (fun w => by
    have := c_isMatrix w p C rx ax capx RX.out hlx HRx.out
    rwa [decide_eq_true HNh.out] at this)
  have KMy : Hid (∀ w : Later V.heap.size V, Calls Try.prog 10 #[.agg #[.int .i64 py, .int .i64 cy, .slice ay ry.length capy]] w.val (Ret V.heap.size V (.bool yb))) := Lib.hid (fun w => by
    have := c_isMatrix w py cy ry ay capy RY.out hly HRy.out
    rwa [HYb.out] at this)
  have KB1 := Lib.hid (fun w : Later V.heap.size V => (show Calls Try.prog 9 #[.bool true, .int .i64 1] w.val (Ret V.heap.size V (.int .i64 0)) from c_bad w true 1))
  have KBi : Hid (∀ w : Later V.heap.size V, Calls Try.prog 9 #[.bool di, .int .i64 3] w.val (Ret V.heap.size V (.int .i64 ei))) := Lib.hid (fun w => by rw [HEi.out]; exact c_bad w di 3)
  obtain ⟨ey, hey⟩ : ∃ ey, ey = errno yb 1 := ⟨_, rfl⟩
  have KBy : Hid (∀ w : Later V.heap.size V, Calls Try.prog 9 #[.bool yb, .int .i64 1] w.val (Ret V.heap.size V (.int .i64 ey))) := Lib.hid (fun w => by rw [hey]; exact c_bad w yb 1)
  have HEy := Lib.hid hey
  clear hey
  have KBk : Hid (∀ w : Later V.heap.size V, Calls Try.prog 9 #[.bool kb, .int .i64 2] w.val (Ret V.heap.size V (.int .i64 ek))) := Lib.hid (fun w => by rw [HEk.out]; exact c_bad w kb 2)
  have d0 := e0 z
  have d1 := e1 z
  have d2 := e2 z
  have hdi := HDi.out
  have hkb := HKb.out
  go_upto_if 60 with (first | (go_at_call 10; (with_reducible refine (KMx.out z).mono ?_); rintro e _ ⟨rfl, w1, rfl⟩) | (go_at_call 9; (with_reducible refine (KB1.out w1).mono ?_); rintro e _ ⟨rfl, w2, rfl⟩; have g1 := e1 w2; have g2 := e2 w2) | (go_at_call 9; (with_reducible refine (KBi.out w2).mono ?_); rintro e _ ⟨rfl, w3, rfl⟩; have h0 := f0 w3; have h1 := f1 w3; have h2 := f2 w3) | (go_at_call 10; (with_reducible refine (KMy.out w3).mono ?_); rintro e _ ⟨rfl, w4, rfl⟩) | (go_at_call 9; (with_reducible refine (KBy.out w4).mono ?_); rintro e _ ⟨rfl, w5, rfl⟩; have i1 := e1 w5) | (go_at_call 9; (with_reducible refine (KBk.out w5).mono ?_); rintro e _ ⟨rfl, w6, rfl⟩) | fail)
  clear d0 d1 d2 g1 g2 h0 h1 h2 i1 hdi hkb KMx KMy KB1 KBi KBy KBk z w1 w2 w3 w4 w5
  go_cut [15] from 59 to 62 (fun x_ w_ => ValV V (.int .i64 dn) x_ w_)
  case first => as_aux_lemma =>
    by_cases h0 : ei = 0
    · have KRw := Lib.hid (KR5.out h0 w6)
      have d0 := e0 w6
      have d1 := e1 w6
      have d2 := e2 w6
      clear KR5 HDi HEi HDn
      subst h0
      go_wp2_with (first | (go_at_call 11; (with_reducible refine (KRw.out).mono ?_); rintro e _ ⟨rfl, w7, rfl⟩) | fail)
      go_meet
      case rel => exact ⟨rfl, w6.up w7, rfl⟩
    · have hd0 := Lib.hid (HDn.out h0)
      have f3 : (ei == 0) = false := by rw [beq_eq_false_iff_ne]; exact h0
      go_wp2
      go_meet
      case rel => exact ⟨by rw [hd0.out], w6, rfl⟩
  case rest => as_aux_lemma =>
  obtain ⟨rfl, z, rfl⟩ := hcut
  clear KR5 w6
  go_upto_if 64 with fail
  go_cut [13] from 63 to 78 (fun x_ w_ => ValV V (.int .i64 ej) x_ w_)
  case first => as_aux_lemma =>
    have key : (ey = 0 ∧ yb = true) ∨ (ey = 1 ∧ yb = false) := by
      rw [HEy.out]
      cases yb
      · exact .inr ⟨rfl, rfl⟩
      · exact .inl ⟨rfl, rfl⟩
    rcases key with ⟨h0, h1⟩ | ⟨h0, h1⟩
    · have HJ : Hid (ej = errno sb 3) := Lib.hid (by rw [HEj.out, if_pos h1])
      have d0 := e0 z
      have d1 := e1 z
      have g0' := f0 z
      have g2 := f2 z
      obtain ⟨b2, hb2⟩ : ∃ b2, ((C : Int) == (ry.length : Int)) = b2 := ⟨_, rfl⟩
      by_cases hpy : (p : Int) = py
      · have fb : ((p : Int) == py) = true := by rw [beq_iff_eq]; exact hpy
        have hs : sb = b2 := by
          rw [← HSb.out, ← hb2, Bool.eq_iff_iff, decide_eq_true_eq, beq_iff_eq]
          exact ⟨fun h => h.2, fun h => ⟨hpy, h⟩⟩
        have KB : Hid (∀ w : Later V.heap.size V, Calls Try.prog 9 #[.bool b2, .int .i64 3] w.val (Ret V.heap.size V (.int .i64 ej))) := Lib.hid (fun w => by rw [HJ.out, hs]; exact c_bad w b2 3)
        clear hs hpy HSb HEj HEy HYb HJ h1
        subst h0
        go_wp2_with (first | (go_at_call 9; (with_reducible refine (KB.out z).mono ?_); rintro e _ ⟨rfl, w7, rfl⟩) | fail)
        go_meet
        case rel => exact ⟨rfl, w7, rfl⟩
      · have fb : ((p : Int) == py) = false := by rw [beq_eq_false_iff_ne]; exact hpy
        have hs : ej = errno false 3 := by
          rw [HJ.out, ← HSb.out, decide_eq_false (fun h => hpy h.1)]
        have KB : Hid (∀ w : Later V.heap.size V, Calls Try.prog 9 #[.bool false, .int .i64 3] w.val (Ret V.heap.size V (.int .i64 ej))) := Lib.hid (fun w => by rw [hs]; exact c_bad w false 3)
        clear hs hpy HSb HEj HEy HYb HJ h1 hb2
        subst h0
        go_wp2_with (first | (go_at_call 9; (with_reducible refine (KB.out z).mono ?_); rintro e _ ⟨rfl, w7, rfl⟩) | fail)
        go_meet
        case rel => exact ⟨rfl, w7, rfl⟩
    · have hj : Hid (ej = 1) := Lib.hid (by rw [HEj.out, h1]; rfl)
      clear HEj HEy HYb HSb
      subst h0
      go_wp2
      go_meet
      case rel => exact ⟨by rw [hj.out], z, rfl⟩
  case rest => as_aux_lemma =>
  obtain ⟨rfl, z, rfl⟩ := hcut
  go_upto_region 15 with fail
  have KO : Hid (∀ w : Later V.heap.size V, Calls Try.prog 12 #[.int .i64 dn, .int .i64 ei, .int .i64 dn, .int .i64 ei] w.val (Ret V.heap.size V (.bool true))) := Lib.hid (fun w => c_one w dn ei dn ei rfl (by
    by_cases h : ei = 0
    · rw [if_pos h]
    · rw [if_neg h]; exact HDn.out h))
  have KG := Lib.hid (fun (w : Later V.heap.size V) (a : Option Addr) (cap : Nat) => c_goneM w a cap)
  go_cut [112] from 79 to 111 (fun x_ w_ => ValV V (.bool false) x_ w_)
  case first => as_aux_lemma =>
    by_cases hj : ej = 0
    · by_cases hk : ek = 0
      · clear HEj HEk HJ0 HJ1 HK0 HK1 HKb
        subst hj
        subst hk
        go_wp2_with (first | (go_at_call 12; (with_reducible refine (KO.out z).mono ?_); rintro e _ ⟨rfl, w1, rfl⟩) | fail)
        go_meet
        case rel => exact ⟨by first | rfl | simp, w1, rfl⟩
      · obtain ⟨k1, k2, k3⟩ := HK0.out hk
        have f3 : (ek != 0) = true := by rw [bne_iff_ne]; exact hk
        clear HEj HEk HJ0 HJ1 HK0 HK1 HKb RB hk
        subst hj
        subst k1 k2 k3
        go_wp2_with (first | (go_at_call 12; (with_reducible refine (KO.out z).mono ?_); rintro e _ ⟨rfl, w1, rfl⟩; have s0a := s0 w1; have s1a := s1 w1; have s2a := s2 w1) | (go_at_call 13; (with_reducible refine (KG.out w1 adB gcB).mono ?_); rintro e _ ⟨rfl, w2, rfl⟩) | fail)
        go_meet
        case rel => exact ⟨by first | rfl | simp, w2, rfl⟩
    · obtain ⟨j1, j2, j3⟩ := HJ0.out hj
      have f4 : (ej != 0) = true := by rw [bne_iff_ne]; exact hj
      by_cases hk : ek = 0
      · clear HEj HEk HJ0 HJ1 HK0 HK1 HKb RA5 hj
        subst hk
        subst j1 j2 j3
        go_wp2_with (first | (go_at_call 12; (with_reducible refine (KO.out z).mono ?_); rintro e _ ⟨rfl, w1, rfl⟩; have s0a := r0 w1; have s1a := r1 w1; have s2a := r2 w1) | (go_at_call 13; (with_reducible refine (KG.out w1 adA gcA).mono ?_); rintro e _ ⟨rfl, w2, rfl⟩) | fail)
        go_meet
        case rel => exact ⟨by first | rfl | simp, w2, rfl⟩
      · obtain ⟨k1, k2, k3⟩ := HK0.out hk
        have f3 : (ek != 0) = true := by rw [bne_iff_ne]; exact hk
        clear HEj HEk HJ0 HJ1 HK0 HK1 HKb RA5 RB hj hk
        subst j1 j2 j3
        subst k1 k2 k3
        go_wp2_with (first | (go_at_call 12; (with_reducible refine (KO.out z).mono ?_); rintro e _ ⟨rfl, w1, rfl⟩; have s0a := r0 w1; have s1a := r1 w1; have s2a := r2 w1) | (go_at_call 13; (with_reducible refine (KG.out w1 adA gcA).mono ?_); rintro e _ ⟨rfl, w2, rfl⟩; have t0a := s0 w2; have t1a := s1 w2; have t2a := s2 w2) | (go_at_call 13; (with_reducible refine (KG.out w2 adB gcB).mono ?_); rintro e _ ⟨rfl, w3, rfl⟩) | fail)
        go_meet
        case rel => exact ⟨by first | rfl | simp, w3, rfl⟩
  case rest => as_aux_lemma =>
  obtain ⟨rfl, z, rfl⟩ := hcut
  clear KO KG HDn HEi HDi
  go_upto_if 114 with fail
  go_cut [16, 17, 18, 19] from 113 to 196 (fun _ _ _ _ w_ => AnyV V w_)
  case first => as_aux_lemma =>
    by_cases hj : ej = 0
    case neg =>
      have f4 : (ej == 0) = false := by rw [beq_eq_false_iff_ne]; exact hj
      go_wp2
      go_meet
      case rel => exact ⟨z, rfl⟩
    obtain ⟨hmy, hpy, hCK, j1, j2, j3, j4, j5⟩ := HJ1.out hj
    have hK6 : ry.length ≤ 6 := hmy.2.2.1
    have hC1 : C1 ≤ 8 := by have := hmy.2.1.2; omega
    have hrY : ∀ i, i < ry.length → (ry.getD i []).length = C1 := fun i hi => by have := (hmy.2.2.2 i hi).1; omega
    have hsY : Small p ry.length C1 (ent ry) := fun i j hi hj => by
      have := (hmy.2.2.2 i hi).2 j (by rw [hrY i hi]; exact hj)
      omega
    have HrY := Lib.hid hrY
    have HsY := Lib.hid hsY
    clear HEj HEk HJ0 HJ1 HK0 HK1 HKb RB s0 s1 s2 hmy hrY hsY HNh HEy HYb HSb
    subst hj
    have hc1 : cy = (C1 : Int) := j4.symm
    subst hc1
    subst j1 j2 j3 j5
    subst hpy
    subst hCK
    clear j4
    have d0 := e0 z
    have d1 := e1 z
    have d2 := e2 z
    have g1 := f1 z
    have t0 := r0 z
    have t1 := r1 z
    have t2 := r2 z
    go_upto_region 20 with fail
    clear d0 d1 t0 t1 t2 g1
    go_wp2
    clear d2
    go_loopw [139] (fun i wr => ∃ (k : Nat) (v : Later V.heap.size V), k ≤ rx.length ∧ i = .int .i64 k ∧ wr = v.val) (fun i _ => rx.length - (intOf i).toNat)
    case atStart => exact ⟨0, z, by omega, rfl, rfl⟩
    case round =>
      clear z
      obtain ⟨k, v, hk, rfl, rfl⟩ := hrel
      by_cases hlt : k < rx.length
      · obtain ⟨bA, oA, rfl, hbA, arA, crA, hIA, _, hcA⟩ := RA5.out.atN (show k < (mxL rx.length C1 (fun i j => prT (ent rx) (ent ry) i j ry.length % (p : Int))).length by rw [mxL_len]; exact hlt)
        rw [mxL_get hlt] at hIA hcA
        have hlA := tabL_len C1 (fun j => prT (ent rx) (ent ry) k j ry.length % (p : Int))
        have qA : ∀ w : Later V.heap.size V, w.val.cell? ⟨bA, oA + k, none⟩ = some (.slice arA C1 crA) := fun w => by
          have := hcA w
          rwa [hlA] at this
        have HIA := Lib.hid hIA
        clear hcA hIA
        go_wp2
        refine wp_region_later v (by kernel_rfl) (by kernel_rfl) (fun _ => ?_)
        repeat (first | go_big_quiet_step ((fail)) | (refine wpQuiet_step (fun K hK => ?_); go_simp; refine ⟨_, fun _ => rfl, ?_⟩; refine hK _ ?_; clear hK K))
        refine wpQuiet_nil ?_
        intro v
        have f1v := f1 v
        go_wp2
        clear f1v
        go_loopw [153] (fun i wr => ∃ (c : Nat) (v : Later V.heap.size V), c ≤ C1 ∧ i = .int .i64 c ∧ wr = v.val) (fun i _ => C1 - (intOf i).toNat)
        case atStart => exact ⟨0, v, by omega, rfl, rfl⟩
        case round =>
          clear v
          obtain ⟨c, v, hc, rfl, rfl⟩ := hrel
          by_cases hcl : c < C1
          · have f2v := f2 v
            go_wp2
            clear f2v
            go_loopw [18, 159] (fun sm i wr => ∃ (l : Nat) (v : Later V.heap.size V), l ≤ ry.length ∧ sm = .int .i64 (prT (ent rx) (ent ry) k c l) ∧ i = .int .i64 l ∧ wr = v.val) (fun _ i _ => ry.length - (intOf i).toNat)
            case atStart => exact ⟨0, v, by omega, by first | rfl | simp [prT, isum], rfl, rfl⟩
            case round =>
              clear v
              obtain ⟨l, v, hl, rfl, rfl, rfl⟩ := hrel
              have hb := prT_bound hp7.2 HsX.out HsY.out hlt hcl l hl
              by_cases hll : l < ry.length
              · obtain ⟨bX, oX, rfl, hbX, arX, crX, hIX, _, hcX⟩ := RX.out.atN hlt
                have hlX := HrX.out k hlt
                obtain ⟨bX2, oX2, rfl, hbX2, hcX2⟩ := hIX.at (show l < (rx.getD k []).length by omega)
                obtain ⟨bY, oY, rfl, hbY, arY, crY, hIY, _, hcY⟩ := RY.out.atN hll
                have hlY := HrY.out l hll
                obtain ⟨bY2, oY2, rfl, hbY2, hcY2⟩ := hIY.at (show c < (ry.getD l []).length by omega)
                have m2 : ∀ w : Later V.heap.size V, w.val.cell? ⟨bX, oX + k, none⟩ = some (.slice (some ⟨bX2, oX2, none⟩) ry.length crX) := fun w => by
                  have := hcX w
                  rwa [hlX] at this
                have m3 : ∀ w : Later V.heap.size V, w.val.cell? ⟨bX2, oX2 + l, none⟩ = some (.int .i64 (ent rx k l)) := fun w => hcX2 w l (by omega)
                have m5 : ∀ w : Later V.heap.size V, w.val.cell? ⟨bY, oY + l, none⟩ = some (.slice (some ⟨bY2, oY2, none⟩) C1 crY) := fun w => by
                  have := hcY w
                  rwa [hlY] at this
                have m6 : ∀ w : Later V.heap.size V, w.val.cell? ⟨bY2, oY2 + c, none⟩ = some (.int .i64 (ent ry l c)) := fun w => hcY2 w c (by omega)
                have HSt : Hid (prT (ent rx) (ent ry) k c (l + 1) = prT (ent rx) (ent ry) k c l + ent rx k l * ent ry l c) := Lib.hid rfl
                have hx1 := HsX.out k l hlt hll
                have hy1 := HsY.out l c hll hcl
                have ms := mul_small (a := ent rx k l) (b := ent ry l c) (by omega) (by omega)
                have w1 := IntWalk.i64_in (ent rx k l * ent ry l c) (by omega)
                have w2 := IntWalk.i64_in (prT (ent rx) (ent ry) k c l + ent rx k l * ent ry l c) (by omega)
                clear hcX hcX2 hcY hcY2 hIX hIY hlX hlY
                generalize prT (ent rx) (ent ry) k c l = pc at *
                generalize ent rx k l = xq at *
                generalize ent ry l c = yq at *
                go_wp2
                refine wp_region_later v (by kernel_rfl) (by kernel_rfl) (fun _ => ?_)
                repeat (first | go_big_quiet_step ((fail)) | (refine wpQuiet_step (fun K hK => ?_); go_simp; refine ⟨_, fun _ => rfl, ?_⟩; refine hK _ ?_; clear hK K))
                refine wpQuiet_nil ?_
                intro v
                go_wp2
                go_roundw
                case rel => exact ⟨l + 1, v, by omega, by rw [HSt.out], by go_num, rfl⟩
                case measure => simp [intOf]; omega
              · have hle : l = ry.length := by omega
                subst hle
                obtain ⟨bA2, oA2, rfl, hbA2, hcA2⟩ := HIA.out.at (show c < (tabL C1 (fun j => prT (ent rx) (ent ry) k j ry.length % (p : Int))).length by rw [tabL_len]; exact hcl)
                have qA2 : ∀ w : Later V.heap.size V, w.val.cell? ⟨bA2, oA2 + c, none⟩ = some (.int .i64 (prT (ent rx) (ent ry) k c ry.length % (p : Int))) := fun w => by
                  have := hcA2 w c (by rw [tabL_len]; exact hcl)
                  rwa [tabL_getD hcl] at this
                have hp0 : (p : Int) ≠ 0 := by omega
                have hpn : p ≠ 0 := by omega
                obtain ⟨pm, hpm⟩ : ∃ pm, pm = prT (ent rx) (ent ry) k c ry.length % (p : Int) := ⟨_, rfl⟩
                have tm : Int.tmod (prT (ent rx) (ent ry) k c ry.length) (p : Int) = pm := by rw [hpm]; exact Int.tmod_eq_emod_of_nonneg hb.1
                rw [← hpm] at qA2
                clear hcA2 hpm
                generalize prT (ent rx) (ent ry) k c ry.length = pc at *
                go_wp2
                refine wp_region_later v (by kernel_rfl) (by kernel_rfl) (fun _ => ?_)
                repeat (first | go_big_quiet_step ((fail)) | (refine wpQuiet_step (fun K hK => ?_); go_simp; refine ⟨_, fun _ => rfl, ?_⟩; refine hK _ ?_; clear hK K))
                refine wpQuiet_nil ?_
                intro v
                go_wp2
                go_roundw
                case rel => exact ⟨c + 1, v, by omega, by go_num, rfl⟩
                case measure => simp [intOf]; omega
          · have hce : c = C1 := by omega
            subst hce
            go_wp2
            go_roundw
            case rel => exact ⟨k + 1, v, by omega, by go_num, by first | rfl | trivial⟩
            case measure => simp [intOf]; omega
      · have hke : k = rx.length := by omega
        subst hke
        go_wp2
        go_meet
        case rel => exact ⟨v, rfl⟩
  case rest => as_aux_lemma =>
  obtain ⟨z, rfl⟩ := hcut
  by_cases hk : ek = 0
  case neg =>
    have f4 : (ek == 0) = false := by rw [beq_eq_false_iff_ne]; exact hk
    go_wp2
    go_ret
    obtain ⟨x, hx⟩ := HV5.out z
    exact Ret.of ⟨x, hx⟩ rfl
  obtain ⟨k1, k2, k3, k4, k5⟩ := HK1.out hk
  clear HEj HEk HJ0 HJ1 HK0 HK1 HKb RA5 r0 r1 r2 HNh HEy HYb HSb
  subst hk
  subst k1 k2 k3 k4 k5
  have d0 := e0 z
  have d1 := e1 z
  have d2 := e2 z
  have t0 := s0 z
  have t1 := s1 z
  have t2 := s2 z
  go_upto_region 41 with fail
  clear d0 d2 t0 t1 t2
  go_wp2
  clear d1
  go_loopw [222] (fun i wr => ∃ (c : Nat) (v : Later V.heap.size V), c ≤ N2 ∧ i = .int .i64 c ∧ wr = v.val) (fun i _ => N2 - (intOf i).toNat)
  case atStart => exact ⟨0, z, by omega, rfl, rfl⟩
  case round =>
    clear z
    obtain ⟨c, v, hc, rfl, rfl⟩ := hrel
    by_cases hcl : c < N2
    · obtain ⟨bB, oB, rfl, hbB, arB, crB, hIB, _, hcB⟩ := RB.out.atN (show c < (mxL N2 rx.length (fun i j => ent rx j i)).length by rw [mxL_len]; exact hcl)
      rw [mxL_get hcl] at hIB hcB
      obtain ⟨T, hT⟩ : ∃ T, T = tabL rx.length (fun i => ent rx i c) := ⟨_, rfl⟩
      rw [← hT] at hIB hcB
      have KC : Hid (Calls Try.prog 15 #[.agg #[.int .i64 p, .int .i64 N2, .slice ax rx.length capx], .int .i64 c] v.val.drew (RetOwn v.val.drew.heap.size v.val.drew T)) := Lib.hid (by
        rw [hT]
        exact c_column (Later.self v.val.drew) p N2 rx ax capx c (RX.out.to v.drew) (by omega) (fun i hi => by rw [HrX.out i hi]; exact hcl) (fun i hi => by rw [HrX.out i hi]; omega))
      have hTl : T.length ≤ 6 := by rw [hT, tabL_len]; exact hN6
      have KS : Hid (∀ (y : Later v.val.drew.heap.size v.val.drew) (ad : Option Addr) (cp : Nat), Own v.val.drew.heap.size y.val ad cp T → Calls Try.prog 14 #[.slice arB T.length crB, .slice ad T.length cp] y.val (Ret y.val.heap.size y.val (.bool true))) := Lib.hid (fun y ad cp ho => c_same (Later.self y.val) T arB ad crB cp ((hIB.to v.drew).to y) ho.reads (by omega))
      have q0 : v.val.drew.cell? ⟨g0, 0, none⟩ = some (.int .i64 p) ∧ v.val.drew.cell? ⟨g0, 1, none⟩ = some (.int .i64 N2) ∧ v.val.drew.cell? ⟨g0, 2, none⟩ = some (.slice ax rx.length capx) ∧ v.val.drew.cell? ⟨gb, 2, none⟩ = some (.slice (some ⟨bB, oB, none⟩) N2 gcB) ∧ v.val.drew.cell? ⟨bB, oB + c, none⟩ = some (.slice arB T.length crB) := ⟨e0 v.drew, e1 v.drew, e2 v.drew, s2 v.drew, hcB v.drew⟩
      have q1 : ∀ y : Later v.val.drew.heap.size v.val.drew, y.val.cell? ⟨g0, 0, none⟩ = some (.int .i64 p) ∧ y.val.cell? ⟨g0, 1, none⟩ = some (.int .i64 N2) ∧ y.val.cell? ⟨g0, 2, none⟩ = some (.slice ax rx.length capx) ∧ y.val.cell? ⟨gb, 2, none⟩ = some (.slice (some ⟨bB, oB, none⟩) N2 gcB) ∧ y.val.cell? ⟨bB, oB + c, none⟩ = some (.slice arB T.length crB) := fun y => ⟨e0 (v.drew.up y), e1 (v.drew.up y), e2 (v.drew.up y), s2 (v.drew.up y), hcB (v.drew.up y)⟩
      have HUp : Hid (∀ (y : Later v.val.drew.heap.size v.val.drew) (y2 : Later y.val.heap.size y.val), ∃ x : Later V.heap.size V, x.val = y2.val) := Lib.hid (fun y y2 => ⟨(v.drew.up y).up y2, rfl⟩)
      clear hcB hIB hT
      go_upto_region 44 with fail
      have q3 : ∀ (y : Later v.val.drew.heap.size v.val.drew) (y2 : Later y.val.heap.size y.val), y2.val.cell? ⟨g0, 0, none⟩ = some (.int .i64 p) ∧ y2.val.cell? ⟨g0, 1, none⟩ = some (.int .i64 N2) ∧ y2.val.cell? ⟨g0, 2, none⟩ = some (.slice ax rx.length capx) ∧ y2.val.cell? ⟨gb, 2, none⟩ = some (.slice (some ⟨bB, oB, none⟩) N2 gcB) ∧ y2.val.cell? ⟨bB, oB + c, none⟩ = some (.slice arB T.length crB) := fun y y2 => q1 (y.up y2)
      go_region_held3 (fun w' => w'.cell? ⟨g0, 0, none⟩ = some (.int .i64 p) ∧ w'.cell? ⟨g0, 1, none⟩ = some (.int .i64 N2) ∧ w'.cell? ⟨g0, 2, none⟩ = some (.slice ax rx.length capx) ∧ w'.cell? ⟨gb, 2, none⟩ = some (.slice (some ⟨bB, oB, none⟩) N2 gcB) ∧ w'.cell? ⟨bB, oB + c, none⟩ = some (.slice arB T.length crB)) (first | exact q0 | exact q1 y | exact q3 y y2 | fail) (first | (go_at_call 15; (with_reducible refine (KC.out).mono ?_); rintro e _ ⟨_, rfl, ⟨adC, cpC, rfl, hC⟩, y, rfl⟩) | (go_at_call 14; (with_reducible refine (KS.out y adC cpC hC).mono ?_); rintro e _ ⟨rfl, y2, rfl⟩) | fail)
      all_goals
        obtain ⟨x, hx⟩ := HUp.out y y2
        rw [← hx]
        go_wp2
        go_roundw
        case rel => exact ⟨c + 1, x, by omega, by go_num, by first | rfl | exact hx.symm | trivial⟩
        case measure => simp [intOf]; omega
    · have hce : c = N2 := by omega
      subst hce
      go_wp2
      go_ret
      obtain ⟨x, hx⟩ := HV5.out v
      exact Ret.of ⟨x, hx⟩ rfl

theorem law_fieldMakes {B : Nat} {W : World} (u : Later B W) (px cx py cy : Int) (rx ry : Lls) (ax ay : Option Addr) (capx capy : Nat) (hx : RowsI B W ax rx) (hy : RowsI B W ay ry)
    (lx : rx.length ≤ 17592186044416 ∧ (∀ i, i < rx.length → (rx.getD i []).length ≤ 17592186044416) ∧ rx.length ≤ capx) (ly : ry.length ≤ 17592186044416 ∧ (∀ i, i < ry.length → (ry.getD i []).length ≤ 17592186044416) ∧ ry.length ≤ capy) :
    Calls Try.prog 3 #[.agg #[.int .i64 px, .int .i64 cx, .slice ax rx.length capx], .agg #[.int .i64 py, .int .i64 cy, .slice ay ry.length capy]] u.val (Ret B W (.bool true)) := by
  by_cases h : isMatrix px cx rx
  · exact law_fm_yes u px cx py cy rx ry ax ay capx capy hx hy lx.1 lx.2.1 ly.1 ly.2.1 h
  · exact law_fm_no u px cx py cy rx ry ax ay capx capy hx hy lx.1 lx.2.1 ly.1 ly.2.1 h

end Go.Proofs.Ytffnpokceomncaa
