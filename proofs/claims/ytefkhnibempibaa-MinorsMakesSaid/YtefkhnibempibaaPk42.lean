
/-
  rotalaw.MinorsMakes, where the functions and the references answer one and the same.
  rotalaw.MinorsSays, whatever it is handed.
-/
import Derived.Test.YtefkhnibempibaaPk37
import Derived.Test.YtefkhnibempibaaPk08
import Derived.Test.YtefkhnibempibaaPk39
import Derived.Test.YtefkhnibempibaaPk40
import Derived.Test.YtefkhnibempibaaPk41
import Derived.Test.YtefkhnibempibaaPk25
import Derived.Deep.CutRange
import Derived.Deep.CutBlock
namespace Go.Proofs.Ytefkhnibempibaa
open Go.RowKit
set_option linter.unusedVariables false

/-- what the law's arguments and what they make are -/
structure MkAns (n1 s n2 : Int) (l1 l2 : List Int) (a b : Option Addr) (cap capb : Nat) (e1 e2 f1 f g h0 h : Int) (okc okh : Bool) (C H : List Int) (nS nF nR nZ : Int) (xS xF xR xZ xC xP : List Int) : Prop where
  m1 : MatIs n1 l1 e1
  m2 : MatIs n2 l2 e2
  f1y : e1 = 0 → f1 = e2
  f1n : e1 ≠ 0 → f1 = e1
  fb : f1 = 0 → 0 ≤ n1 ∧ n1 ≤ 8 ∧ 0 ≤ n2 ∧ n2 ≤ 8
  fy : f1 = 0 ∧ 8 < n1 + n2 → f = 2
  fn : ¬ (f1 = 0 ∧ 8 < n1 + n2) → f = f1
  gn : e1 ≠ 0 → g = e1
  gy : e1 = 0 → g = errno (decide (n1 < 8)) 2
  hn : e1 ≠ 0 → h = e1
  h0y : e1 = 0 → h0 = errno (decide (isSet n1 s)) 1
  h1 : e1 = 0 → h0 ≠ 0 → h = h0
  h2 : e1 = 0 → h0 = 0 → h = errno (okc && okh) 3
  lens : xS.length ≤ 4611686018427387904 ∧ xF.length ≤ 4611686018427387904 ∧ xR.length ≤ 4611686018427387904 ∧ xZ.length ≤ 4611686018427387904 ∧ xC.length ≤ 4611686018427387904 ∧ xP.length ≤ 4611686018427387904
  lenc : C.length ≤ 4611686018427387904 ∧ H.length ≤ 4611686018427387904
  zS : ZIf f nS xS
  zF : ZIf g nF xF
  zR : ZIf h nR xR
  zZ : ZIf e1 nZ xZ
  zC : e1 ≠ 0 → xC = [] ∧ xP = []
  okc : decide (s ∈ C) = okc
  okh : decide (s ∈ H) = okh
  nR1 : h = 0 → nR = n1

  pS : ∀ (B : Nat) (W : World) (v : Later B W), IntsAt B W a l1 → IntsAt B W b l2 → Calls Try.prog 17 #[.agg #[.int .i64 n1, .slice a l1.length cap], .agg #[.int .i64 n2, .slice b l2.length capb]] v.val (RetP B W (MatTO B nS xS f))
  pF : ∀ (B : Nat) (W : World) (v : Later B W), IntsAt B W a l1 → Calls Try.prog 18 #[.agg #[.int .i64 n1, .slice a l1.length cap]] v.val (RetP B W (MatTO B nF xF g))
  pR : ∀ (B : Nat) (W : World) (v : Later B W), IntsAt B W a l1 → Calls Try.prog 19 #[.agg #[.int .i64 n1, .slice a l1.length cap], .int .i64 s] v.val (RetP B W (MatTO B nR xR h))
  pC : ∀ (B : Nat) (W : World) (v : Later B W), IntsAt B W a l1 → Calls Try.prog 20 #[.agg #[.int .i64 n1, .slice a l1.length cap]] v.val (RetP B W (ListE xC e1))
  pP : ∀ (B : Nat) (W : World) (v : Later B W), IntsAt B W a l1 → Calls Try.prog 21 #[.agg #[.int .i64 n1, .slice a l1.length cap]] v.val (RetP B W (ListE xP e1))
  pZ : ∀ (B : Nat) (W : World) (v : Later B W), IntsAt B W a l1 → Calls Try.prog 22 #[.agg #[.int .i64 n1, .slice a l1.length cap]] v.val (RetP B W (MatTO B nZ xZ e1))
  rCi : e1 = 0 → ∀ (B : Nat) (W : World) (v : Later B W), IntsAt B W a l1 → Calls Try.prog 8 #[.agg #[.int .i64 n1, .slice a l1.length cap]] v.val (RetInts B W C)
  rHy : e1 = 0 → ∀ (B : Nat) (W : World) (v : Later B W), IntsAt B W a l1 → Calls Try.prog 9 #[.agg #[.int .i64 n1, .slice a l1.length cap]] v.val (RetInts B W H)
  rC : e1 = 0 → ∀ (B : Nat) (W : World) (v : Later B W), IntsAt B W a l1 → Calls Try.prog 10 #[.agg #[.int .i64 n1, .slice a l1.length cap]] v.val (RetOwn B W xC)
  rP : e1 = 0 → ∀ (B : Nat) (W : World) (v : Later B W), IntsAt B W a l1 → Calls Try.prog 11 #[.agg #[.int .i64 n1, .slice a l1.length cap]] v.val (RetOwn B W xP)
  rZ : e1 = 0 → ∀ (B : Nat) (W : World) (v : Later B W), IntsAt B W a l1 → Calls Try.prog 12 #[.agg #[.int .i64 n1, .slice a l1.length cap]] v.val (RetP B W (MatO B nZ xZ))
  rS : f = 0 → ∀ (B : Nat) (W : World) (v : Later B W), IntsAt B W a l1 → IntsAt B W b l2 → Calls Try.prog 13 #[.agg #[.int .i64 n1, .slice a l1.length cap], .agg #[.int .i64 n2, .slice b l2.length capb]] v.val (RetP B W (MatO B nS xS))
  rF : g = 0 → ∀ (B : Nat) (W : World) (v : Later B W), IntsAt B W a l1 → Calls Try.prog 14 #[.agg #[.int .i64 n1, .slice a l1.length cap]] v.val (RetP B W (MatO B nF xF))
  rR : h = 0 → ∀ (B : Nat) (W : World) (v : Later B W),  ∀ gs gm : Nat, gs < B → gm < B → W.cell? ⟨gs, 0, none⟩ = some (.int .i64 s) → W.cell? ⟨gm, 1, none⟩ = some (.slice a l1.length cap) → IntsAt B W a l1 → Calls Try.prog 15 #[.int .i64 n1, .func (.func 16) #[] #[.pointer (some ⟨gs, 0, none⟩), .pointer (some ⟨gm, 0, none⟩)]] v.val (RetOwn B W xR)

set_option maxRecDepth 100000 in
set_option maxHeartbeats 40000000 in
theorem law_mk {B : Nat} {W : World} (u : Later B W) (n1 s n2 : Int) (l1 l2 : List Int) (a b : Option Addr) (cap capb : Nat) (hi1 : IntsAt B W a l1) (hi2 : IntsAt B W b l2) (hlen1 : l1.length ≤ 4611686018427387904) (hlen2 : l2.length ≤ 4611686018427387904) (e1 e2 f1 f g h0 h : Int) (okc okh : Bool) (C H : List Int) (nS nF nR nZ : Int) (xS xF xR xZ xC xP : List Int) (A : MkAns n1 s n2 l1 l2 a b cap capb e1 e2 f1 f g h0 h okc okh C H nS nF nR nZ xS xF xR xZ xC xP) :
    Calls Try.prog 3 #[.agg #[.int .i64 n1, .slice a l1.length cap], .agg #[.int .i64 n2, .slice b l2.length capb], .int .i64 s] u.val (Ret B W (.bool true)) := by
  have hB := u.size
  have k1 : (u.val.alloc (.cells #[.int .i64 n1, .slice a l1.length cap] 24)).heap.size = u.val.heap.size + 1 := by simp
  have k2 : ((u.val.alloc (.cells #[.int .i64 n1, .slice a l1.length cap] 24)).alloc (.cells #[.int .i64 n2, .slice b l2.length capb] 24)).heap.size = u.val.heap.size + 2 := by simp
  have X1 : Hid (RowL (((u.val.alloc (.cells #[.int .i64 n1, .slice a l1.length cap] 24)).alloc (.cells #[.int .i64 n2, .slice b l2.length capb] 24)).alloc (.cells #[.int .i64 s] 3)) u.val.heap.size 24 [.int .i64 n1, .slice a l1.length cap]) := Lib.hid (((RowL.new u.val 24 _).keep ((Below.refl _ _).alloc (Nat.le_refl _) _)).keep ((Below.refl _ _).alloc (Nat.le_refl _) _))
  have X2 : Hid (RowL (((u.val.alloc (.cells #[.int .i64 n1, .slice a l1.length cap] 24)).alloc (.cells #[.int .i64 n2, .slice b l2.length capb] 24)).alloc (.cells #[.int .i64 s] 3)) (u.val.heap.size + 1) 24 [.int .i64 n2, .slice b l2.length capb]) := Lib.hid (by
    have h := (RowL.new (u.val.alloc (.cells #[.int .i64 n1, .slice a l1.length cap] 24)) 24 [.int .i64 n2, .slice b l2.length capb]).keep ((Below.refl _ _).alloc (Nat.le_refl _) (.cells #[.int .i64 s] 3))
    rwa [k1] at h)
  have X3 : Hid (RowAt1 (((u.val.alloc (.cells #[.int .i64 n1, .slice a l1.length cap] 24)).alloc (.cells #[.int .i64 n2, .slice b l2.length capb] 24)).alloc (.cells #[.int .i64 s] 3)) (u.val.heap.size + 2) 3 (.int .i64 s)) := Lib.hid (by
    have h := RowAt1.new ((u.val.alloc (.cells #[.int .i64 n1, .slice a l1.length cap] 24)).alloc (.cells #[.int .i64 n2, .slice b l2.length capb] 24)) 3 (.int .i64 s)
    rwa [k2] at h)
  have hYs : (((u.val.alloc (.cells #[.int .i64 n1, .slice a l1.length cap] 24)).alloc (.cells #[.int .i64 n2, .slice b l2.length capb] 24)).alloc (.cells #[.int .i64 s] 3)).heap.size = u.val.heap.size + 3 := by simp
  have HV : Hid (∀ v : Later (((u.val.alloc (.cells #[.int .i64 n1, .slice a l1.length cap] 24)).alloc (.cells #[.int .i64 n2, .slice b l2.length capb] 24)).alloc (.cells #[.int .i64 s] 3)).heap.size (((u.val.alloc (.cells #[.int .i64 n1, .slice a l1.length cap] 24)).alloc (.cells #[.int .i64 n2, .slice b l2.length capb] 24)).alloc (.cells #[.int .i64 s] 3)), ∃ w : Later B W, w.val = v.val) := Lib.hid (fun v => ⟨(((u.alloc _).alloc _).alloc _).up v, rfl⟩)
  have HI1 : Hid (IntsAt (((u.val.alloc (.cells #[.int .i64 n1, .slice a l1.length cap] 24)).alloc (.cells #[.int .i64 n2, .slice b l2.length capb] 24)).alloc (.cells #[.int .i64 s] 3)).heap.size (((u.val.alloc (.cells #[.int .i64 n1, .slice a l1.length cap] 24)).alloc (.cells #[.int .i64 n2, .slice b l2.length capb] 24)).alloc (.cells #[.int .i64 s] 3)) a l1) := Lib.hid (hi1.to (((u.alloc _).alloc _).alloc _))
  have HI2 : Hid (IntsAt (((u.val.alloc (.cells #[.int .i64 n1, .slice a l1.length cap] 24)).alloc (.cells #[.int .i64 n2, .slice b l2.length capb] 24)).alloc (.cells #[.int .i64 s] 3)).heap.size (((u.val.alloc (.cells #[.int .i64 n1, .slice a l1.length cap] 24)).alloc (.cells #[.int .i64 n2, .slice b l2.length capb] 24)).alloc (.cells #[.int .i64 s] 3)) b l2) := Lib.hid (hi2.to (((u.alloc _).alloc _).alloc _))
  have HYS := Lib.hid hYs
  clear hYs k1 k2 hi1 hi2
  go_enter Try.func3, Try.ntmps3
  go_upto_region 1 with fail
  generalize (((u.val.alloc (.cells #[.int .i64 n1, .slice a l1.length cap] 24)).alloc (.cells #[.int .i64 n2, .slice b l2.length capb] 24)).alloc (.cells #[.int .i64 s] 3)) = V at *
  generalize u.val.heap.size = gu at *
  have hgu : gu + 2 < V.heap.size := by have := HYS.out; omega
  have q0 : ∀ w : Later V.heap.size V, w.val.cell? ⟨gu, 0, none⟩ = some (.int .i64 n1) := fun w => (X1.out.keep w.below).cell rfl
  have q1 : ∀ w : Later V.heap.size V, w.val.cell? ⟨gu, 1, none⟩ = some (.slice a l1.length cap) := fun w => (X1.out.keep w.below).cell rfl
  have q2 : ∀ w : Later V.heap.size V, w.val.cell? ⟨gu + 1, 0, none⟩ = some (.int .i64 n2) := fun w => (X2.out.keep w.below).cell rfl
  have q3 : ∀ w : Later V.heap.size V, w.val.cell? ⟨gu + 1, 1, none⟩ = some (.slice b l2.length capb) := fun w => (X2.out.keep w.below).cell rfl
  have q4 : ∀ w : Later V.heap.size V, w.val.cell? ⟨gu + 2, 0, none⟩ = some (.int .i64 s) := fun w => (X3.out.keep w.below).c0
  have Q4 : Hid (V.cell? ⟨gu + 2, 0, none⟩ = some (.int .i64 s)) := Lib.hid (q4 (Later.self V))
  have Q1 : Hid (V.cell? ⟨gu, 1, none⟩ = some (.slice a l1.length cap)) := Lib.hid (q1 (Later.self V))
  clear X1 X2 X3
  have HA := Lib.hid A
  clear A
  rw [show gu + 1 + 1 = gu + 2 from rfl]
  obtain ⟨z, hz⟩ : ∃ z : Later V.heap.size V, z.val = V := ⟨Later.self _, rfl⟩
  rw [← hz]
  clear hz
  have K1 : Hid (∀ v : Later V.heap.size V, Calls Try.prog 4 #[.agg #[.int .i64 n1, .slice a l1.length cap]] v.val (Ret V.heap.size V (.int .i64 e1))) := Lib.hid (fun v => c_refMatroid v n1 l1 a cap e1 HI1.out hlen1 HA.out.m1)
  have K2 : Hid (∀ v : Later V.heap.size V, Calls Try.prog 4 #[.agg #[.int .i64 n2, .slice b l2.length capb]] v.val (Ret V.heap.size V (.int .i64 e2))) := Lib.hid (fun v => c_refMatroid v n2 l2 b capb e2 HI2.out hlen2 HA.out.m2)
  go_upto_region 3 with (first | (go_at_call 4; (with_reducible refine (K1.out _).mono ?_); rintro e _ ⟨rfl, v1, rfl⟩) | fail)
  clear z K1
  go_upto_if 35 with fail
  go_cut [8] from 34 to 37 (fun x w => IAt V f1 x w)
  case first => as_aux_lemma =>
    rcases ieq e1 0 with ⟨c, d1, d2⟩ | ⟨c, d1, d2⟩
    · have hf := HA.out.f1y c
      have HC := Lib.hid c
      clear c
      subst hf
      go_wp2_with (first | (go_at_call 4; (with_reducible refine (K2.out _).mono ?_); rintro e _ ⟨rfl, v2, rfl⟩) | fail)
      go_meet
      case rel => exact ⟨rfl, v2, rfl⟩
    · have hf := HA.out.f1n c
      have HC := Lib.hid c
      clear c
      subst hf
      go_wp2
      go_meet
      case rel => exact ⟨rfl, v1, rfl⟩
  case rest => as_aux_lemma =>
  obtain ⟨rfl, v2, rfl⟩ := hcut
  clear v1 K2
  go_upto_region 5 with fail
  go_cut [47] from 38 to 46 (fun x w => x = .bool (decide (f1 = 0 ∧ 8 < n1 + n2)) ∧ ∃ v : Later V.heap.size V, w = v.val)
  case first => as_aux_lemma =>
    have q0v := q0 v2
    have q2v := q2 v2
    rcases ieq f1 0 with ⟨c, d1, d2⟩ | ⟨c, d1, d2⟩
    · obtain ⟨b1, b2, b3, b4⟩ := HA.out.fb c
      have ws := IntWalk.i64_in (n1 + n2) (by omega)
      have hr : Hid (decide (8 < n1 + n2) = decide (f1 = 0 ∧ 8 < n1 + n2)) := Lib.hid (by simp [c])
      clear c b1 b2 b3 b4
      generalize decide (f1 = 0 ∧ 8 < n1 + n2) = res at *
      go_wp2
      go_meet
      case rel => exact ⟨by rw [← hr.out], v2, rfl⟩
    · have hr : Hid (false = decide (f1 = 0 ∧ 8 < n1 + n2)) := Lib.hid (decide_eq_false (fun h => c h.1)).symm
      have HC := Lib.hid c
      clear c
      generalize decide (f1 = 0 ∧ 8 < n1 + n2) = res at *
      go_wp2
      go_meet
      case rel => exact ⟨by rw [← hr.out], v2, rfl⟩
  case rest => as_aux_lemma =>
  obtain ⟨rfl, w2, rfl⟩ := hcut
  clear v2
  go_upto_if 47 with fail
  go_cut [8] from 47 to 47 (fun x w => IAt V f x w)
  case first => as_aux_lemma =>
    by_cases c : f1 = 0 ∧ 8 < n1 + n2
    · have hf := Lib.hid (HA.out.fy c)
      have hd : decide (f1 = 0 ∧ 8 < n1 + n2) = true := decide_eq_true c
      clear c
      rw [hd]
      clear hd
      go_wp2
      go_meet
      case rel => exact ⟨by rw [hf.out], w2, rfl⟩
    · have hf := Lib.hid (HA.out.fn c)
      have hd : decide (f1 = 0 ∧ 8 < n1 + n2) = false := decide_eq_false c
      clear c
      rw [hd]
      clear hd
      go_wp2
      go_meet
      case rel => exact ⟨by rw [hf.out], w2, rfl⟩
  case rest => as_aux_lemma =>
  obtain ⟨rfl, v3, rfl⟩ := hcut
  clear w2
  go_upto_region 9 with fail
  have hx1 : (v3.val.alloc (.cells #[.int .i64 0, .slice none 0 0] 24)).heap.size = v3.val.heap.size + 1 := by simp
  have hx2 : ((v3.val.alloc (.cells #[.int .i64 0, .slice none 0 0] 24)).alloc (.cells #[.int .i64 0, .slice none 0 0] 24)).heap.size = v3.val.heap.size + 2 := by simp
  have hx3 : (((v3.val.alloc (.cells #[.int .i64 0, .slice none 0 0] 24)).alloc (.cells #[.int .i64 0, .slice none 0 0] 24)).alloc (.cells #[.int .i64 0, .slice none 0 0] 24)).heap.size = v3.val.heap.size + 3 := by simp
  have hx4 : Hid (((((v3.val.alloc (.cells #[.int .i64 0, .slice none 0 0] 24)).alloc (.cells #[.int .i64 0, .slice none 0 0] 24)).alloc (.cells #[.int .i64 0, .slice none 0 0] 24)).alloc (.cells #[.int .i64 0, .slice none 0 0] 24)).heap.size = v3.val.heap.size + 4) := Lib.hid (by simp)
  have A0 : RowL (v3.val.alloc (.cells #[.int .i64 0, .slice none 0 0] 24)) v3.val.heap.size 24 [.int .i64 0, .slice none 0 0] := RowL.new _ _ _
  have A1 : RowL ((v3.val.alloc (.cells #[.int .i64 0, .slice none 0 0] 24)).alloc (.cells #[.int .i64 0, .slice none 0 0] 24)) (v3.val.alloc (.cells #[.int .i64 0, .slice none 0 0] 24)).heap.size 24 [.int .i64 0, .slice none 0 0] := RowL.new _ _ _
  have A2 : RowL (((v3.val.alloc (.cells #[.int .i64 0, .slice none 0 0] 24)).alloc (.cells #[.int .i64 0, .slice none 0 0] 24)).alloc (.cells #[.int .i64 0, .slice none 0 0] 24)) ((v3.val.alloc (.cells #[.int .i64 0, .slice none 0 0] 24)).alloc (.cells #[.int .i64 0, .slice none 0 0] 24)).heap.size 24 [.int .i64 0, .slice none 0 0] := RowL.new _ _ _
  have A3 : RowL ((((v3.val.alloc (.cells #[.int .i64 0, .slice none 0 0] 24)).alloc (.cells #[.int .i64 0, .slice none 0 0] 24)).alloc (.cells #[.int .i64 0, .slice none 0 0] 24)).alloc (.cells #[.int .i64 0, .slice none 0 0] 24)) (((v3.val.alloc (.cells #[.int .i64 0, .slice none 0 0] 24)).alloc (.cells #[.int .i64 0, .slice none 0 0] 24)).alloc (.cells #[.int .i64 0, .slice none 0 0] 24)).heap.size 24 [.int .i64 0, .slice none 0 0] := RowL.new _ _ _
  rw [hx1] at A1
  rw [hx2] at A2
  rw [hx3] at A3
  have R1 : Hid (RowL ((((v3.val.alloc (.cells #[.int .i64 0, .slice none 0 0] 24)).alloc (.cells #[.int .i64 0, .slice none 0 0] 24)).alloc (.cells #[.int .i64 0, .slice none 0 0] 24)).alloc (.cells #[.int .i64 0, .slice none 0 0] 24)) v3.val.heap.size 24 [.int .i64 0, .slice none 0 0]) := Lib.hid (((A0.keep ((Below.refl _ _).alloc (Nat.le_refl _) _)).keep ((Below.refl _ _).alloc (Nat.le_refl _) _)).keep ((Below.refl _ _).alloc (Nat.le_refl _) _))
  have R2 : Hid (RowL ((((v3.val.alloc (.cells #[.int .i64 0, .slice none 0 0] 24)).alloc (.cells #[.int .i64 0, .slice none 0 0] 24)).alloc (.cells #[.int .i64 0, .slice none 0 0] 24)).alloc (.cells #[.int .i64 0, .slice none 0 0] 24)) (v3.val.heap.size + 1) 24 [.int .i64 0, .slice none 0 0]) := Lib.hid ((A1.keep ((Below.refl _ _).alloc (Nat.le_refl _) _)).keep ((Below.refl _ _).alloc (Nat.le_refl _) _))
  have R3 : Hid (RowL ((((v3.val.alloc (.cells #[.int .i64 0, .slice none 0 0] 24)).alloc (.cells #[.int .i64 0, .slice none 0 0] 24)).alloc (.cells #[.int .i64 0, .slice none 0 0] 24)).alloc (.cells #[.int .i64 0, .slice none 0 0] 24)) (v3.val.heap.size + 2) 24 [.int .i64 0, .slice none 0 0]) := Lib.hid (A2.keep ((Below.refl _ _).alloc (Nat.le_refl _) _))
  have R4 : Hid (RowL ((((v3.val.alloc (.cells #[.int .i64 0, .slice none 0 0] 24)).alloc (.cells #[.int .i64 0, .slice none 0 0] 24)).alloc (.cells #[.int .i64 0, .slice none 0 0] 24)).alloc (.cells #[.int .i64 0, .slice none 0 0] 24)) (v3.val.heap.size + 3) 24 [.int .i64 0, .slice none 0 0]) := Lib.hid A3
  have hLX : Hid (∃ v : Later V.heap.size V, v.val = ((((v3.val.alloc (.cells #[.int .i64 0, .slice none 0 0] 24)).alloc (.cells #[.int .i64 0, .slice none 0 0] 24)).alloc (.cells #[.int .i64 0, .slice none 0 0] 24)).alloc (.cells #[.int .i64 0, .slice none 0 0] 24))) := Lib.hid ⟨(((v3.alloc _).alloc _).alloc _).alloc _, rfl⟩
  have hv3 := v3.size
  clear A0 A1 A2 A3 hx1 hx2 hx3
  try rw [show v3.val.heap.size + 1 + 1 + 1 = v3.val.heap.size + 3 from rfl]
  try rw [show v3.val.heap.size + 1 + 1 = v3.val.heap.size + 2 from rfl]
  generalize ((((v3.val.alloc (.cells #[.int .i64 0, .slice none 0 0] 24)).alloc (.cells #[.int .i64 0, .slice none 0 0] 24)).alloc (.cells #[.int .i64 0, .slice none 0 0] 24)).alloc (.cells #[.int .i64 0, .slice none 0 0] 24)) = XX at *
  obtain ⟨g1, hg1⟩ : ∃ g, g = v3.val.heap.size := ⟨_, rfl⟩
  obtain ⟨g2, hg2⟩ : ∃ g, g = v3.val.heap.size + 1 := ⟨_, rfl⟩
  obtain ⟨g3, hg3⟩ : ∃ g, g = v3.val.heap.size + 2 := ⟨_, rfl⟩
  obtain ⟨g4, hg4⟩ : ∃ g, g = v3.val.heap.size + 3 := ⟨_, rfl⟩
  obtain ⟨bx, hbx⟩ : ∃ g, g = v3.val.heap.size + 4 := ⟨_, rfl⟩
  rw [← hg4] at R4 ⊢
  rw [← hg3] at R3 ⊢
  rw [← hg2] at R2 ⊢
  rw [← hg1] at R1 ⊢
  have HG : Hid (Lie V bx g1 g2 g3 g4) := Lib.hid (by unfold Lie; omega)
  have hXs : Hid (bx ≤ XX.heap.size) := Lib.hid (by have := hx4.out; omega)
  have S0 : Hid (St4 V bx g1 g2 g3 g4 0 [] 0 [] 0 [] 0 [] XX) := Lib.hid ⟨hLX.out, hXs.out, MX.nil R1.out, MX.nil R2.out, MX.nil R3.out, MX.nil R4.out⟩
  clear R1 R2 R3 R4 hLX hx4 hg1 hg2 hg3 hg4 hbx hXs hv3
  obtain ⟨x, rfl⟩ := S0.out.lat
  clear v3
  have hVg4 : V.heap.size ≤ g4 := by have := HG.out; unfold Lie at this; omega
  have hVg3 : V.heap.size ≤ g3 := by have := HG.out; unfold Lie at this; omega
  have hVg2 : V.heap.size ≤ g2 := by have := HG.out; unfold Lie at this; omega
  have hVg1 : V.heap.size ≤ g1 := by have := HG.out; unfold Lie at this; omega

  have sa : ∀ w, Bel V w → w.cell? ⟨gu, 0, none⟩ = some (.int .i64 n1) ∧ w.cell? ⟨gu, 1, none⟩ = some (.slice a l1.length cap) ∧ w.cell? ⟨gu + 2, 0, none⟩ = some (.int .i64 s) := fun w h => by
    obtain ⟨v, rfl⟩ := h.later
    exact ⟨q0 v, q1 v, q4 v⟩
  have SA := Lib.hid sa
  clear sa
  have T1 : Hid (∀ w, Bel V w → IntsAt w.heap.size w a l1) := Lib.hid (fun w h => by obtain ⟨v, rfl⟩ := h.later; exact HI1.out.to v)
  have T2 : Hid (∀ w, Bel V w → IntsAt w.heap.size w b l2) := Lib.hid (fun w h => by obtain ⟨v, rfl⟩ := h.later; exact HI2.out.to v)
  have Q := Lib.hid (And.intro q0 (And.intro q1 (And.intro q2 (And.intro q3 q4))))
  clear q0 q1 q2 q3 q4
  go_upto_if 49 with fail
  go_cut [9, 10, 15, 16] from 48 to 77 (fun x9 x10 x15 x16 w => StB V bx g1 g2 g3 g4 nZ xZ g h xC xP x9 x10 x15 x16 w)
  case first => as_aux_lemma =>
    rcases ieq e1 0 with ⟨c, d1, d2⟩ | ⟨c, d1, d2⟩
    · have hbx0 : Bel V x.val := Bel.of x
      have HBX := Lib.hid hbx0
      obtain ⟨q0, q1, q2, q3, q4⟩ := Q.out
      have p0 : ∀ w : Later x.val.heap.size x.val, w.val.cell? ⟨gu, 0, none⟩ = some (.int .i64 n1) := fun w => q0 (x.up w)
      have p4 : ∀ w : Later x.val.heap.size x.val, w.val.cell? ⟨gu + 2, 0, none⟩ = some (.int .i64 s) := fun w => q4 (x.up w)
      have KG : Hid (∀ v : Later x.val.heap.size x.val, Calls Try.prog 5 #[.bool (decide (n1 < 8)), .int .i64 2] v.val (Ret x.val.heap.size x.val (.int .i64 g))) := Lib.hid (fun v => by rw [HA.out.gy c]; exact c_bad v _ 2)
      have KI : Hid (∀ v : Later x.val.heap.size x.val, Calls Try.prog 6 #[.int .i64 n1, .int .i64 s] v.val (Ret x.val.heap.size x.val (.bool (decide (isSet n1 s))))) := Lib.hid (fun v => c_isSet v n1 s)
      have KH0 : Hid (∀ v : Later x.val.heap.size x.val, Calls Try.prog 5 #[.bool (decide (isSet n1 s)), .int .i64 1] v.val (Ret x.val.heap.size x.val (.int .i64 h0))) := Lib.hid (fun v => by rw [HA.out.h0y c]; exact c_bad v _ 1)
      have KCi : Hid (∀ w, Bel V w → Calls Try.prog 8 #[.agg #[.int .i64 n1, .slice a l1.length cap]] w (RetInts w.heap.size w C)) := Lib.hid (fun w hw => HA.out.rCi c _ _ (Later.self w) (T1.out w hw))
      have KHy : Hid (∀ w, Bel V w → Calls Try.prog 9 #[.agg #[.int .i64 n1, .slice a l1.length cap]] w (RetInts w.heap.size w H)) := Lib.hid (fun w hw => HA.out.rHy c _ _ (Later.self w) (T1.out w hw))
      have KCl : Hid (∀ w, Bel V w → Calls Try.prog 10 #[.agg #[.int .i64 n1, .slice a l1.length cap]] w (RetOwn w.heap.size w xC)) := Lib.hid (fun w hw => HA.out.rC c _ _ (Later.self w) (T1.out w hw))
      have KP : Hid (∀ w, Bel V w → Calls Try.prog 11 #[.agg #[.int .i64 n1, .slice a l1.length cap]] w (RetOwn w.heap.size w xP)) := Lib.hid (fun w hw => HA.out.rP c _ _ (Later.self w) (T1.out w hw))
      have KZ : Hid (∀ w, Bel V w → Calls Try.prog 12 #[.agg #[.int .i64 n1, .slice a l1.length cap]] w (RetP w.heap.size w (MatO w.heap.size nZ xZ))) := Lib.hid (fun w hw => HA.out.rZ c _ _ (Later.self w) (T1.out w hw))
      have KHc : Hid (∀ (w : World) (ad : Option Addr) (cp : Nat), IntsAt w.heap.size w ad C → Calls Try.prog 7 #[.slice ad C.length cp, .int .i64 s] w (Ret w.heap.size w (.bool okc))) := Lib.hid (fun w ad cp hh => by
        have := c_has (Later.self w) C s ad cp hh (by have := HA.out.lenc; omega)
        rwa [HA.out.okc] at this)
      have KHh : Hid (∀ (w : World) (ad : Option Addr) (cp : Nat), IntsAt w.heap.size w ad H → Calls Try.prog 7 #[.slice ad H.length cp, .int .i64 s] w (Ret w.heap.size w (.bool okh))) := Lib.hid (fun w ad cp hh => by
        have := c_has (Later.self w) H s ad cp hh (by have := HA.out.lenc; omega)
        rwa [HA.out.okh] at this)
      have HE : Hid (h0 ≠ 0 → h = h0) := Lib.hid (HA.out.h1 c)
      have HE0 : Hid (h0 = 0 → h = errno (okc && okh) 3) := Lib.hid (HA.out.h2 c)
      have HC := Lib.hid c
      clear c hbx0 q0 q1 q2 q3 q4
      generalize decide (isSet n1 s) = oki at *
      obtain ⟨okn, hokn⟩ : ∃ okn, okn = decide (n1 < 8) := ⟨_, rfl⟩
      rw [← hokn] at KG
      have hok := hokn.symm
      clear hokn
      obtain ⟨z, hz⟩ : ∃ z : Later x.val.heap.size x.val, z.val = x.val := ⟨Later.self _, rfl⟩
      rw [← hz]
      clear hz
      go_upto_region 12 with (first | (go_at_call 5; first | ((with_reducible refine (KG.out _).mono ?_); rintro e _ ⟨rfl, y1, rfl⟩) | ((with_reducible refine (KH0.out _).mono ?_); rintro e _ ⟨rfl, y3, rfl⟩)) | (go_at_call 6; (with_reducible refine (KI.out _).mono ?_); rintro e _ ⟨rfl, y2, rfl⟩) | fail)
      clear z y1 y2 KG KI KH0 hok p0 p4
      go_upto_if 60 with fail
      go_cut [10] from 59 to 71 (fun x10 w => IAt x.val h x10 w)
      case first => as_aux_lemma =>
        rcases ieq h0 0 with ⟨c, d3, d4⟩ | ⟨c, d3, d4⟩
        · have hh := HE0.out c
          have hbz : Bel V y3.val := Bel.up HBX.out y3
          have HBU : Hid (Bel x.val y3.val) := Lib.hid (Bel.of y3)
          have HC0 := Lib.hid c
          clear c
          rcases btf okc with ho | ho
          · subst ho
            have KB : Hid (∀ w, Calls Try.prog 5 #[.bool okh, .int .i64 3] w (Ret w.heap.size w (.int .i64 h))) := Lib.hid (fun w => by rw [hh, Bool.true_and]; exact c_bad (Later.self w) _ 3)
            clear hh HE HE0
            go_wp2_with fail
            go_region_held3 (fun w' => w'.cell? ⟨gu, 0, none⟩ = some (.int .i64 n1) ∧ w'.cell? ⟨gu, 1, none⟩ = some (.slice a l1.length cap) ∧ w'.cell? ⟨gu + 2, 0, none⟩ = some (.int .i64 s)) (first | (refine SA.out _ ?_; (repeat (first | (with_reducible exact hbz) | (with_reducible exact Bel.refl _) | (with_reducible refine Bel.up ?_ _) | (with_reducible refine Bel.alloc ?_ _) | (with_reducible refine Bel.drew ?_) | (with_reducible refine Bel.set ?_ (by first | assumption | omega | (dsimp only; omega) | (simp; omega)) _))); done) | fail) (first | (go_at_call 8; (with_reducible refine (KCi.out _ ?_).mono ?_); (repeat (first | (with_reducible exact hbz) | (with_reducible exact Bel.refl _) | (with_reducible refine Bel.up ?_ _) | (with_reducible refine Bel.alloc ?_ _) | (with_reducible refine Bel.drew ?_) | (with_reducible refine Bel.set ?_ (by first | assumption | omega | (dsimp only; omega) | (simp; omega)) _))); rintro e _ ⟨_, rfl, ⟨ad1, cp1, rfl, hJ1, hc1⟩, w1, rfl⟩) | (go_at_call 7; (with_reducible refine (KHc.out _ _ _ hJ1).mono ?_); rintro e _ ⟨rfl, w2, rfl⟩) | (go_at_call 9; (with_reducible refine (KHy.out _ ?_).mono ?_); (repeat (first | (with_reducible exact hbz) | (with_reducible exact Bel.refl _) | (with_reducible refine Bel.up ?_ _) | (with_reducible refine Bel.alloc ?_ _) | (with_reducible refine Bel.drew ?_) | (with_reducible refine Bel.set ?_ (by first | assumption | omega | (dsimp only; omega) | (simp; omega)) _))); rintro e _ ⟨_, rfl, ⟨ad3, cp3, rfl, hJ3, hc3⟩, w3, rfl⟩) | (go_at_call 7; (with_reducible refine (KHh.out _ _ _ hJ3).mono ?_); rintro e _ ⟨rfl, w4, rfl⟩) | (go_at_call 5; (with_reducible refine (KB.out _).mono ?_); rintro e _ ⟨rfl, w5, rfl⟩) | fail)
            all_goals
              go_wp2
              go_meet
              case rel => exact IAt.of (HBU.out.trans (by (repeat (first | (with_reducible exact hbz) | (with_reducible exact Bel.refl _) | (with_reducible refine Bel.up ?_ _) | (with_reducible refine Bel.alloc ?_ _) | (with_reducible refine Bel.drew ?_) | (with_reducible refine Bel.set ?_ (by first | assumption | omega | (dsimp only; omega) | (simp; omega)) _)))))
          · subst ho
            have KB : Hid (∀ w, Calls Try.prog 5 #[.bool false, .int .i64 3] w (Ret w.heap.size w (.int .i64 h))) := Lib.hid (fun w => by rw [hh, Bool.false_and]; exact c_bad (Later.self w) _ 3)
            clear hh HE HE0
            have t0 := SA.out y3.val hbz
            go_wp2_with fail
            go_region_with (first | (go_at_call 8; (with_reducible refine (KCi.out _ ?_).mono ?_); (repeat (first | (with_reducible exact hbz) | (with_reducible exact Bel.refl _) | (with_reducible refine Bel.up ?_ _) | (with_reducible refine Bel.alloc ?_ _) | (with_reducible refine Bel.drew ?_) | (with_reducible refine Bel.set ?_ (by first | assumption | omega | (dsimp only; omega) | (simp; omega)) _))); rintro e _ ⟨_, rfl, ⟨ad1, cp1, rfl, hJ1, hc1⟩, w1, rfl⟩; have t1 := SA.out w1.val (by (repeat (first | (with_reducible exact hbz) | (with_reducible exact Bel.refl _) | (with_reducible refine Bel.up ?_ _) | (with_reducible refine Bel.alloc ?_ _) | (with_reducible refine Bel.drew ?_) | (with_reducible refine Bel.set ?_ (by first | assumption | omega | (dsimp only; omega) | (simp; omega)) _))))) | (go_at_call 7; (with_reducible refine (KHc.out _ _ _ hJ1).mono ?_); rintro e _ ⟨rfl, w2, rfl⟩; have t2 := SA.out w2.val (by (repeat (first | (with_reducible exact hbz) | (with_reducible exact Bel.refl _) | (with_reducible refine Bel.up ?_ _) | (with_reducible refine Bel.alloc ?_ _) | (with_reducible refine Bel.drew ?_) | (with_reducible refine Bel.set ?_ (by first | assumption | omega | (dsimp only; omega) | (simp; omega)) _))))) | (go_at_call 5; (with_reducible refine (KB.out _).mono ?_); rintro e _ ⟨rfl, w5, rfl⟩) | fail)
            all_goals
              go_wp2
              go_meet
              case rel => exact IAt.of (HBU.out.trans (by (repeat (first | (with_reducible exact hbz) | (with_reducible exact Bel.refl _) | (with_reducible refine Bel.up ?_ _) | (with_reducible refine Bel.alloc ?_ _) | (with_reducible refine Bel.drew ?_) | (with_reducible refine Bel.set ?_ (by first | assumption | omega | (dsimp only; omega) | (simp; omega)) _)))))
        · have hh := Lib.hid (HE.out c)
          have HC0 := Lib.hid c
          clear c
          go_wp2
          go_meet
          case rel => exact ⟨by rw [hh.out], y3, rfl⟩
      case rest => as_aux_lemma =>
      obtain ⟨rfl, y, rfl⟩ := hcut
      clear y3 KCi KHy KHc KHh HE HE0
      have hbz : Bel V y.val := Bel.up HBX.out y
      have hSy : Hid (St4 V bx g1 g2 g3 g4 0 [] 0 [] 0 [] 0 [] y.val) := Lib.hid (S0.out.bel (Bel.of y))
      obtain ⟨adx, cpx, hRx, _⟩ := hSy.out.m4
      have HRX : Hid (RowL y.val g4 24 [.int .i64 0, .slice adx 0 cpx]) := Lib.hid hRx
      have hg4 : g4 < y.val.heap.size := hRx.lt
      have hbxy := hSy.out.hbx
      clear hRx S0
      have f0 : ∀ (w : Later y.val.heap.size y.val), w.val.cell? ⟨g4, 0, none⟩ = some (.int .i64 0) := fun w => (HRX.out.keep_at w.below hg4).cell rfl
      have z0 : ∀ (w : Later y.val.heap.size y.val), w.val.frozen? ⟨g4, 0, none⟩ = false := fun w => (HRX.out.keep_at w.below hg4).fz 0
      have f1 : ∀ (w : Later y.val.heap.size y.val) (x0 : Value), (w.val.setCell ⟨g4, 0, none⟩ x0).cell? ⟨g4, 1, none⟩ = some (.slice adx 0 cpx) := fun w x0 => ((HRX.out.keep_at w.below hg4).set 0 x0).cell rfl
      have z1 : ∀ (w : Later y.val.heap.size y.val) (x0 : Value), (w.val.setCell ⟨g4, 0, none⟩ x0).frozen? ⟨g4, 1, none⟩ = false := fun w x0 => ((HRX.out.keep_at w.below hg4).set 0 x0).fz 1
      go_upto_region 14 with fail
      go_region_held3 (fun w' => w'.cell? ⟨gu, 0, none⟩ = some (.int .i64 n1) ∧ w'.cell? ⟨gu, 1, none⟩ = some (.slice a l1.length cap) ∧ w'.cell? ⟨gu + 2, 0, none⟩ = some (.int .i64 s)) (first | (refine SA.out _ ?_; (repeat (first | (with_reducible exact hbz) | (with_reducible exact Bel.refl _) | (with_reducible refine Bel.up ?_ _) | (with_reducible refine Bel.alloc ?_ _) | (with_reducible refine Bel.drew ?_) | (with_reducible refine Bel.set ?_ (by first | assumption | omega | (dsimp only; omega) | (simp; omega)) _))); done) | (refine SA.out _ (Bel.up hbz _); done) | fail) (first | (go_at_call 10; (with_reducible refine (KCl.out _ ?_).mono ?_); (repeat (first | (with_reducible exact hbz) | (with_reducible exact Bel.refl _) | (with_reducible refine Bel.up ?_ _) | (with_reducible refine Bel.alloc ?_ _) | (with_reducible refine Bel.drew ?_) | (with_reducible refine Bel.set ?_ (by first | assumption | omega | (dsimp only; omega) | (simp; omega)) _))); rintro e _ ⟨_, rfl, ⟨ad5, cp5, rfl, hO5⟩, w5, rfl⟩) | (go_at_call 11; (with_reducible refine (KP.out _ ?_).mono ?_); (repeat (first | (with_reducible exact hbz) | (with_reducible exact Bel.refl _) | (with_reducible refine Bel.up ?_ _) | (with_reducible refine Bel.alloc ?_ _) | (with_reducible refine Bel.drew ?_) | (with_reducible refine Bel.set ?_ (by first | assumption | omega | (dsimp only; omega) | (simp; omega)) _))); rintro e _ ⟨_, rfl, ⟨ad6, cp6, rfl, hO6⟩, w6, rfl⟩) | (go_at_call 12; (with_reducible refine (KZ.out _ ?_).mono ?_); (repeat (first | (with_reducible exact hbz) | (with_reducible exact Bel.refl _) | (with_reducible refine Bel.up ?_ _) | (with_reducible refine Bel.alloc ?_ _) | (with_reducible refine Bel.drew ?_) | (with_reducible refine Bel.set ?_ (by first | assumption | omega | (dsimp only; omega) | (simp; omega)) _))); rintro e _ ⟨_, rfl, ⟨ad4, cp4, rfl, hO4⟩, w7, rfl⟩; have b5 : Bel w5.val w7.val := (by (repeat (first | (with_reducible exact hbz) | (with_reducible exact Bel.refl _) | (with_reducible refine Bel.up ?_ _) | (with_reducible refine Bel.alloc ?_ _) | (with_reducible refine Bel.drew ?_) | (with_reducible refine Bel.set ?_ (by first | assumption | omega | (dsimp only; omega) | (simp; omega)) _)))); have b6 : Bel w6.val w7.val := (by (repeat (first | (with_reducible exact hbz) | (with_reducible exact Bel.refl _) | (with_reducible refine Bel.up ?_ _) | (with_reducible refine Bel.alloc ?_ _) | (with_reducible refine Bel.drew ?_) | (with_reducible refine Bel.set ?_ (by first | assumption | omega | (dsimp only; omega) | (simp; omega)) _)))); have c5 : Bel y.val w5.val := (by (repeat (first | (with_reducible exact hbz) | (with_reducible exact Bel.refl _) | (with_reducible refine Bel.up ?_ _) | (with_reducible refine Bel.alloc ?_ _) | (with_reducible refine Bel.drew ?_) | (with_reducible refine Bel.set ?_ (by first | assumption | omega | (dsimp only; omega) | (simp; omega)) _)))); have c6 : Bel y.val w6.val := (by (repeat (first | (with_reducible exact hbz) | (with_reducible exact Bel.refl _) | (with_reducible refine Bel.up ?_ _) | (with_reducible refine Bel.alloc ?_ _) | (with_reducible refine Bel.drew ?_) | (with_reducible refine Bel.set ?_ (by first | assumption | omega | (dsimp only; omega) | (simp; omega)) _)))); obtain ⟨y7, hy7⟩ : ∃ y7 : Later y.val.heap.size y.val, y7.val = w7.val := ⟨(((Later.self y.val).drew.up w5).up w6).up w7, rfl⟩; rw [← hy7] at hO4 b5 b6 ⊢; clear hy7) | fail)
      all_goals
        go_wp2
        go_meet
        case rel =>
          have hlt : g4 < bx := by have := HG.out; unfold Lie at this; omega
          have k5 := c5.sz
          have k6 := c6.sz
          exact ⟨rfl, rfl, ad5, cp5, ad6, cp6, rfl, rfl, hSy.out.fill4 HG.out (Bel.of y7) (hO4.mono (by omega)), ((((hO5.mono hbxy).bel b5).set hlt _).set hlt _), ((((hO6.mono (Nat.le_trans hbxy k5)).bel b6).set hlt _).set hlt _)⟩
    · have hg := HA.out.gn c
      have hh := HA.out.hn c
      obtain ⟨hc1, hc2⟩ := HA.out.zC c
      have HST : Hid (StB V bx g1 g2 g3 g4 nZ xZ g h xC xP (.int .i64 e1) (.int .i64 e1) (.slice none 0 0) (.slice none 0 0) x.val) := Lib.hid (by
        refine ⟨by rw [hg], by rw [hh], none, 0, none, 0, by rw [hc1]; rfl, by rw [hc2]; rfl, ⟨S0.out.lat, S0.out.hbx, S0.out.m1, S0.out.m2, S0.out.m3, S0.out.m4.as HA.out.zZ c⟩, ?_, ?_⟩
        · rw [hc1]; exact Own.nil _ _
        · rw [hc2]; exact Own.nil _ _)
      have HC := Lib.hid c
      clear c hg hh hc1 hc2
      go_wp2
      go_meet
      case rel => exact HST.out
  case rest => as_aux_lemma =>
  obtain ⟨rfl, rfl, a5, c5, a6, c6, rfl, rfl, hS⟩ := hcut
  clear S0 x
  obtain ⟨x, rfl⟩ := hS.1.lat
  have S1 := Lib.hid hS
  clear hS
  go_upto_if 79 with fail
  go_cut [8] from 78 to 82 (fun x8 w => x8 = .int .i64 f ∧ St6 V bx g1 g2 g3 g4 nS xS 0 [] 0 [] nZ xZ a5 c5 xC a6 c6 xP w)
  case first => as_aux_lemma =>
    rcases ieq f 0 with ⟨c, d1, d2⟩ | ⟨c, d1, d2⟩
    · have KS : Hid (∀ w, Bel V w → Calls Try.prog 13 #[.agg #[.int .i64 n1, .slice a l1.length cap], .agg #[.int .i64 n2, .slice b l2.length capb]] w (RetP w.heap.size w (MatO w.heap.size nS xS))) := Lib.hid (fun w hw => HA.out.rS c _ _ (Later.self w) (T1.out w hw) (T2.out w hw))
      have hbz : Bel V x.val := Bel.of x
      obtain ⟨adx, cpx, hRx, _⟩ := S1.out.1.m1
      have HRX : Hid (RowL x.val g1 24 [.int .i64 0, .slice adx 0 cpx]) := Lib.hid hRx
      have hgx : g1 < x.val.heap.size := hRx.lt
      have HBX : Hid (bx ≤ x.val.heap.size) := Lib.hid S1.out.1.hbx
      have HC := Lib.hid c
      clear c hRx
      have f0 : ∀ (w : Later x.val.heap.size x.val), w.val.cell? ⟨g1, 0, none⟩ = some (.int .i64 0) := fun w => (HRX.out.keep_at w.below hgx).cell rfl
      have z0 : ∀ (w : Later x.val.heap.size x.val), w.val.frozen? ⟨g1, 0, none⟩ = false := fun w => (HRX.out.keep_at w.below hgx).fz 0
      have f1 : ∀ (w : Later x.val.heap.size x.val) (x0 : Value), (w.val.setCell ⟨g1, 0, none⟩ x0).cell? ⟨g1, 1, none⟩ = some (.slice adx 0 cpx) := fun w x0 => ((HRX.out.keep_at w.below hgx).set 0 x0).cell rfl
      have z1 : ∀ (w : Later x.val.heap.size x.val) (x0 : Value), (w.val.setCell ⟨g1, 0, none⟩ x0).frozen? ⟨g1, 1, none⟩ = false := fun w x0 => ((HRX.out.keep_at w.below hgx).set 0 x0).fz 1
      obtain ⟨q0, q1, q2, q3, q4⟩ := Q.out
      have p0 := q0 x
      have p1 := q1 x
      have p2 := q2 x
      have p3 := q3 x
      clear q0 q1 q2 q3 q4
      go_wp2_with (first | (go_at_call 13; (with_reducible refine (KS.out _ ?_).mono ?_); (repeat (first | (with_reducible exact hbz) | (with_reducible exact Bel.refl _) | (with_reducible refine Bel.up ?_ _) | (with_reducible refine Bel.alloc ?_ _) | (with_reducible refine Bel.drew ?_) | (with_reducible refine Bel.set ?_ (by first | assumption | omega | (dsimp only; omega) | (simp; omega)) _))); rintro e _ ⟨_, rfl, ⟨ad4, cp4, rfl, hO4⟩, y7, rfl⟩) | fail)
      go_meet
      case rel => exact ⟨rfl, S1.out.fill1 HG.out (Bel.of y7) (hO4.mono HBX.out)⟩
    · have hz := HA.out.zS c
      have HST : Hid (St6 V bx g1 g2 g3 g4 nS xS 0 [] 0 [] nZ xZ a5 c5 xC a6 c6 xP x.val) := Lib.hid ⟨⟨S1.out.1.lat, S1.out.1.hbx, by rw [hz.1, hz.2]; exact S1.out.1.m1, S1.out.1.m2, S1.out.1.m3, S1.out.1.m4⟩, S1.out.2.1, S1.out.2.2⟩
      have HC := Lib.hid c
      clear c hz
      go_wp2
      go_meet
      case rel => exact ⟨rfl, HST.out⟩
  case rest => as_aux_lemma =>
  obtain ⟨rfl, hS⟩ := hcut
  clear S1 x
  obtain ⟨x, rfl⟩ := hS.1.lat
  have S1 := Lib.hid hS
  clear hS
  go_upto_if 84 with fail
  go_cut [9] from 83 to 86 (fun x9 w => x9 = .int .i64 g ∧ St6 V bx g1 g2 g3 g4 nS xS nF xF 0 [] nZ xZ a5 c5 xC a6 c6 xP w)
  case first => as_aux_lemma =>
    rcases ieq g 0 with ⟨c, d1, d2⟩ | ⟨c, d1, d2⟩
    · have KS : Hid (∀ w, Bel V w → Calls Try.prog 14 #[.agg #[.int .i64 n1, .slice a l1.length cap]] w (RetP w.heap.size w (MatO w.heap.size nF xF))) := Lib.hid (fun w hw => HA.out.rF c _ _ (Later.self w) (T1.out w hw))
      have hbz : Bel V x.val := Bel.of x
      obtain ⟨adx, cpx, hRx, _⟩ := S1.out.1.m2
      have HRX : Hid (RowL x.val g2 24 [.int .i64 0, .slice adx 0 cpx]) := Lib.hid hRx
      have hgx : g2 < x.val.heap.size := hRx.lt
      have HBX : Hid (bx ≤ x.val.heap.size) := Lib.hid S1.out.1.hbx
      have HC := Lib.hid c
      clear c hRx
      have f0 : ∀ (w : Later x.val.heap.size x.val), w.val.cell? ⟨g2, 0, none⟩ = some (.int .i64 0) := fun w => (HRX.out.keep_at w.below hgx).cell rfl
      have z0 : ∀ (w : Later x.val.heap.size x.val), w.val.frozen? ⟨g2, 0, none⟩ = false := fun w => (HRX.out.keep_at w.below hgx).fz 0
      have f1 : ∀ (w : Later x.val.heap.size x.val) (x0 : Value), (w.val.setCell ⟨g2, 0, none⟩ x0).cell? ⟨g2, 1, none⟩ = some (.slice adx 0 cpx) := fun w x0 => ((HRX.out.keep_at w.below hgx).set 0 x0).cell rfl
      have z1 : ∀ (w : Later x.val.heap.size x.val) (x0 : Value), (w.val.setCell ⟨g2, 0, none⟩ x0).frozen? ⟨g2, 1, none⟩ = false := fun w x0 => ((HRX.out.keep_at w.below hgx).set 0 x0).fz 1
      obtain ⟨q0, q1, q2, q3, q4⟩ := Q.out
      have p0 := q0 x
      have p1 := q1 x
      clear q0 q1 q2 q3 q4
      go_wp2_with (first | (go_at_call 14; (with_reducible refine (KS.out _ ?_).mono ?_); (repeat (first | (with_reducible exact hbz) | (with_reducible exact Bel.refl _) | (with_reducible refine Bel.up ?_ _) | (with_reducible refine Bel.alloc ?_ _) | (with_reducible refine Bel.drew ?_) | (with_reducible refine Bel.set ?_ (by first | assumption | omega | (dsimp only; omega) | (simp; omega)) _))); rintro e _ ⟨_, rfl, ⟨ad4, cp4, rfl, hO4⟩, y7, rfl⟩) | fail)
      go_meet
      case rel => exact ⟨rfl, S1.out.fill2 HG.out (Bel.of y7) (hO4.mono HBX.out)⟩
    · have hz := HA.out.zF c
      have HST : Hid (St6 V bx g1 g2 g3 g4 nS xS nF xF 0 [] nZ xZ a5 c5 xC a6 c6 xP x.val) := Lib.hid ⟨⟨S1.out.1.lat, S1.out.1.hbx, S1.out.1.m1, by rw [hz.1, hz.2]; exact S1.out.1.m2, S1.out.1.m3, S1.out.1.m4⟩, S1.out.2.1, S1.out.2.2⟩
      have HC := Lib.hid c
      clear c hz
      go_wp2
      go_meet
      case rel => exact ⟨rfl, HST.out⟩
  case rest => as_aux_lemma =>
  obtain ⟨rfl, hS⟩ := hcut
  clear S1 x
  obtain ⟨x, rfl⟩ := hS.1.lat
  have S1 := Lib.hid hS
  clear hS
  go_upto_if 88 with fail
  go_cut [10] from 87 to 95 (fun x10 w => x10 = .int .i64 h ∧ St6 V bx g1 g2 g3 g4 nS xS nF xF nR xR nZ xZ a5 c5 xC a6 c6 xP w)
  case first => as_aux_lemma =>
    rcases ieq h 0 with ⟨c, d1, d2⟩ | ⟨c, d1, d2⟩
    · have KS : Hid (∀ w, Bel V w → Calls Try.prog 15 #[.int .i64 n1, .func (.func 16) #[] #[.pointer (some ⟨gu + 2, 0, none⟩), .pointer (some ⟨gu, 0, none⟩)]] w (RetOwn w.heap.size w xR)) := Lib.hid (fun w hw => by
        have hs := hw.sz
        have hc := SA.out w hw
        exact HA.out.rR c _ _ (Later.self w) (gu + 2) gu (by omega) (by omega) hc.2.2 hc.2.1 (T1.out w hw))
      have hbz : Bel V x.val := Bel.of x
      obtain ⟨adx, cpx, hRx, _⟩ := S1.out.1.m3
      have HRX : Hid (RowL x.val g3 24 [.int .i64 0, .slice adx 0 cpx]) := Lib.hid hRx
      have hgx : g3 < x.val.heap.size := hRx.lt
      have HBX : Hid (bx ≤ x.val.heap.size) := Lib.hid S1.out.1.hbx
      have hnr := (HA.out.nR1 c).symm
      subst hnr
      have HC := Lib.hid c
      clear c hRx
      have f0 : ∀ (w : Later x.val.heap.size x.val), w.val.cell? ⟨g3, 0, none⟩ = some (.int .i64 0) := fun w => (HRX.out.keep_at w.below hgx).cell rfl
      have z0 : ∀ (w : Later x.val.heap.size x.val), w.val.frozen? ⟨g3, 0, none⟩ = false := fun w => (HRX.out.keep_at w.below hgx).fz 0
      have f1 : ∀ (w : Later x.val.heap.size x.val) (x0 : Value), (w.val.setCell ⟨g3, 0, none⟩ x0).cell? ⟨g3, 1, none⟩ = some (.slice adx 0 cpx) := fun w x0 => ((HRX.out.keep_at w.below hgx).set 0 x0).cell rfl
      have z1 : ∀ (w : Later x.val.heap.size x.val) (x0 : Value), (w.val.setCell ⟨g3, 0, none⟩ x0).frozen? ⟨g3, 1, none⟩ = false := fun w x0 => ((HRX.out.keep_at w.below hgx).set 0 x0).fz 1
      go_wp2_with fail
      go_region_held3 (fun w' => w'.cell? ⟨gu, 0, none⟩ = some (.int .i64 n1) ∧ w'.cell? ⟨gu, 1, none⟩ = some (.slice a l1.length cap) ∧ w'.cell? ⟨gu + 2, 0, none⟩ = some (.int .i64 s)) (first | (refine SA.out _ ?_; (repeat (first | (with_reducible exact hbz) | (with_reducible exact Bel.refl _) | (with_reducible refine Bel.up ?_ _) | (with_reducible refine Bel.alloc ?_ _) | (with_reducible refine Bel.drew ?_) | (with_reducible refine Bel.set ?_ (by first | assumption | omega | (dsimp only; omega) | (simp; omega)) _))); done) | (refine SA.out _ (Bel.up hbz _); done) | fail) (first | (go_at_call 15; (with_reducible refine (KS.out _ ?_).mono ?_); (repeat (first | (with_reducible exact hbz) | (with_reducible exact Bel.refl _) | (with_reducible refine Bel.up ?_ _) | (with_reducible refine Bel.alloc ?_ _) | (with_reducible refine Bel.drew ?_) | (with_reducible refine Bel.set ?_ (by first | assumption | omega | (dsimp only; omega) | (simp; omega)) _))); rintro e _ ⟨_, rfl, ⟨ad4, cp4, rfl, hO4⟩, w7, rfl⟩; obtain ⟨y7, hy7⟩ : ∃ y7 : Later x.val.heap.size x.val, y7.val = w7.val := ⟨(Later.self x.val).drew.up w7, rfl⟩; rw [← hy7] at hO4 ⊢; clear hy7) | fail)
      all_goals
        go_wp2
        go_meet
        case rel => exact ⟨rfl, S1.out.fill3 HG.out (Bel.of y7) (hO4.mono HBX.out)⟩
    · have hz := HA.out.zR c
      have HST : Hid (St6 V bx g1 g2 g3 g4 nS xS nF xF nR xR nZ xZ a5 c5 xC a6 c6 xP x.val) := Lib.hid ⟨⟨S1.out.1.lat, S1.out.1.hbx, S1.out.1.m1, S1.out.1.m2, by rw [hz.1, hz.2]; exact S1.out.1.m3, S1.out.1.m4⟩, S1.out.2.1, S1.out.2.2⟩
      have HC := Lib.hid c
      clear c hz
      go_wp2
      go_meet
      case rel => exact ⟨rfl, HST.out⟩
  case rest => as_aux_lemma =>
  obtain ⟨rfl, hS⟩ := hcut
  clear S1 x
  obtain ⟨x, rfl⟩ := hS.1.lat
  have S1 := Lib.hid hS
  clear hS
  obtain ⟨q0, q1, q2, q3, q4⟩ := Q.out
  have PSum : Hid (∀ w, Bel V w → Calls Try.prog 17 #[.agg #[.int .i64 n1, .slice a l1.length cap], .agg #[.int .i64 n2, .slice b l2.length capb]] w (RetP w.heap.size w (MatTO w.heap.size nS xS f))) := Lib.hid (fun w hw => HA.out.pS _ _ (Later.self w) (T1.out w hw) (T2.out w hw))
  have PFree : Hid (∀ w, Bel V w → Calls Try.prog 18 #[.agg #[.int .i64 n1, .slice a l1.length cap]] w (RetP w.heap.size w (MatTO w.heap.size nF xF g))) := Lib.hid (fun w hw => HA.out.pF _ _ (Later.self w) (T1.out w hw))
  have PRelax : Hid (∀ w, Bel V w → Calls Try.prog 19 #[.agg #[.int .i64 n1, .slice a l1.length cap], .int .i64 s] w (RetP w.heap.size w (MatTO w.heap.size nR xR h))) := Lib.hid (fun w hw => HA.out.pR _ _ (Later.self w) (T1.out w hw))
  have PClasses : Hid (∀ w, Bel V w → Calls Try.prog 20 #[.agg #[.int .i64 n1, .slice a l1.length cap]] w (RetP w.heap.size w (ListE xC e1))) := Lib.hid (fun w hw => HA.out.pC _ _ (Later.self w) (T1.out w hw))
  have PComponents : Hid (∀ w, Bel V w → Calls Try.prog 21 #[.agg #[.int .i64 n1, .slice a l1.length cap]] w (RetP w.heap.size w (ListE xP e1))) := Lib.hid (fun w hw => HA.out.pP _ _ (Later.self w) (T1.out w hw))
  have PSimple : Hid (∀ w, Bel V w → Calls Try.prog 22 #[.agg #[.int .i64 n1, .slice a l1.length cap]] w (RetP w.heap.size w (MatTO w.heap.size nZ xZ e1))) := Lib.hid (fun w hw => HA.out.pZ _ _ (Later.self w) (T1.out w hw))
  have HL := Lib.hid HA.out.lens
  have HZ := Lib.hid (And.intro HA.out.zS (And.intro HA.out.zF (And.intro HA.out.zR (And.intro HA.out.zZ HA.out.zC))))
  clear HA T1 T2 SA Q1 Q4
  have hbz : Bel V x.val := Bel.of x
  go_upto_region 22 with (first | (go_at_call 17; (with_reducible refine (PSum.out _ ?_).mono ?_); (repeat (first | (with_reducible exact hbz) | (with_reducible exact Bel.refl _) | (with_reducible refine Bel.up ?_ _) | (with_reducible refine Bel.alloc ?_ _) | (with_reducible refine Bel.drew ?_) | (with_reducible refine Bel.set ?_ (by first | assumption | omega | (dsimp only; omega) | (simp; omega)) _))); rintro e _ ⟨_, rfl, ⟨aah1, cch1, rfl, hO⟩, y, rfl⟩) | fail)
  have hby : Bel x.val (y.val.alloc (.cells #[.int .i64 nS, .slice aah1 xS.length cch1] 24)) := (Bel.of y).alloc _
  have Nh1 : Hid (MB (y.val.alloc (.cells #[.int .i64 nS, .slice aah1 xS.length cch1] 24)) y.val.heap.size nS aah1 cch1 xS) := Lib.hid ⟨RowL.new _ _ _, (hO.reads).to ((Later.self y.val).alloc _)⟩
  have S2 := Lib.hid (S1.out.bel hby)
  obtain ⟨z, hz⟩ : ∃ z : Later V.heap.size V, z.val = (y.val.alloc (.cells #[.int .i64 nS, .slice aah1 xS.length cch1] 24)) := ⟨x.up (y.alloc _), rfl⟩
  rw [← hz] at Nh1 S2  ⊢
  clear hz hby hbz hO S1  PSum
  have S1 := S2
  clear S2
  obtain ⟨h1, hhh1⟩ : ∃ g, g = y.val.heap.size := ⟨_, rfl⟩
  rw [← hhh1] at Nh1 ⊢
  clear hhh1 y x
  obtain ⟨x, hx⟩ : ∃ x : Later V.heap.size V, x = z := ⟨_, rfl⟩
  rw [← hx] at Nh1 S1  ⊢
  clear hx z
  have hbz : Bel V x.val := Bel.of x
  go_upto_region 23 with (first | (go_at_call 18; (with_reducible refine (PFree.out _ ?_).mono ?_); (repeat (first | (with_reducible exact hbz) | (with_reducible exact Bel.refl _) | (with_reducible refine Bel.up ?_ _) | (with_reducible refine Bel.alloc ?_ _) | (with_reducible refine Bel.drew ?_) | (with_reducible refine Bel.set ?_ (by first | assumption | omega | (dsimp only; omega) | (simp; omega)) _))); rintro e _ ⟨_, rfl, ⟨aah2, cch2, rfl, hO⟩, y, rfl⟩) | fail)
  have hby : Bel x.val (y.val.alloc (.cells #[.int .i64 nF, .slice aah2 xF.length cch2] 24)) := (Bel.of y).alloc _
  have Nh2 : Hid (MB (y.val.alloc (.cells #[.int .i64 nF, .slice aah2 xF.length cch2] 24)) y.val.heap.size nF aah2 cch2 xF) := Lib.hid ⟨RowL.new _ _ _, (hO.reads).to ((Later.self y.val).alloc _)⟩
  have S2 := Lib.hid (S1.out.bel hby)
  have Nh1x := Lib.hid (Nh1.out.bel hby)
  obtain ⟨z, hz⟩ : ∃ z : Later V.heap.size V, z.val = (y.val.alloc (.cells #[.int .i64 nF, .slice aah2 xF.length cch2] 24)) := ⟨x.up (y.alloc _), rfl⟩
  rw [← hz] at Nh2 S2 Nh1x ⊢
  clear hz hby hbz hO S1 Nh1 PFree
  have Nh1 := Nh1x
  clear Nh1x
  have S1 := S2
  clear S2
  obtain ⟨h2, hhh2⟩ : ∃ g, g = y.val.heap.size := ⟨_, rfl⟩
  rw [← hhh2] at Nh2 ⊢
  clear hhh2 y x
  obtain ⟨x, hx⟩ : ∃ x : Later V.heap.size V, x = z := ⟨_, rfl⟩
  rw [← hx] at Nh2 S1 Nh1 ⊢
  clear hx z
  have hbz : Bel V x.val := Bel.of x
  go_upto_region 24 with (first | (go_at_call 19; (with_reducible refine (PRelax.out _ ?_).mono ?_); (repeat (first | (with_reducible exact hbz) | (with_reducible exact Bel.refl _) | (with_reducible refine Bel.up ?_ _) | (with_reducible refine Bel.alloc ?_ _) | (with_reducible refine Bel.drew ?_) | (with_reducible refine Bel.set ?_ (by first | assumption | omega | (dsimp only; omega) | (simp; omega)) _))); rintro e _ ⟨_, rfl, ⟨aah3, cch3, rfl, hO⟩, y, rfl⟩) | fail)
  have hby : Bel x.val (y.val.alloc (.cells #[.int .i64 nR, .slice aah3 xR.length cch3] 24)) := (Bel.of y).alloc _
  have Nh3 : Hid (MB (y.val.alloc (.cells #[.int .i64 nR, .slice aah3 xR.length cch3] 24)) y.val.heap.size nR aah3 cch3 xR) := Lib.hid ⟨RowL.new _ _ _, (hO.reads).to ((Later.self y.val).alloc _)⟩
  have S2 := Lib.hid (S1.out.bel hby)
  have Nh1x := Lib.hid (Nh1.out.bel hby)
  have Nh2x := Lib.hid (Nh2.out.bel hby)
  obtain ⟨z, hz⟩ : ∃ z : Later V.heap.size V, z.val = (y.val.alloc (.cells #[.int .i64 nR, .slice aah3 xR.length cch3] 24)) := ⟨x.up (y.alloc _), rfl⟩
  rw [← hz] at Nh3 S2 Nh1x Nh2x ⊢
  clear hz hby hbz hO S1 Nh1 Nh2 PRelax
  have Nh1 := Nh1x
  have Nh2 := Nh2x
  clear Nh1x Nh2x
  have S1 := S2
  clear S2
  obtain ⟨h3, hhh3⟩ : ∃ g, g = y.val.heap.size := ⟨_, rfl⟩
  rw [← hhh3] at Nh3 ⊢
  clear hhh3 y x
  obtain ⟨x, hx⟩ : ∃ x : Later V.heap.size V, x = z := ⟨_, rfl⟩
  rw [← hx] at Nh3 S1 Nh1 Nh2 ⊢
  clear hx z
  have hbz : Bel V x.val := Bel.of x
  go_upto_region 25 with (first | (go_at_call 20; (with_reducible refine (PClasses.out _ ?_).mono ?_); (repeat (first | (with_reducible exact hbz) | (with_reducible exact Bel.refl _) | (with_reducible refine Bel.up ?_ _) | (with_reducible refine Bel.alloc ?_ _) | (with_reducible refine Bel.drew ?_) | (with_reducible refine Bel.set ?_ (by first | assumption | omega | (dsimp only; omega) | (simp; omega)) _))); rintro e _ ⟨_, rfl, ⟨_, rfl, ⟨aal7, ccl7, rfl, hJ, _⟩⟩, y, rfl⟩) | fail)
  have hby : Bel x.val y.val := Bel.of y
  have Nl7 : Hid (IntsAt y.val.heap.size y.val aal7 xC) := Lib.hid hJ
  have S2 := Lib.hid (S1.out.bel hby)
  have Nh1x := Lib.hid (Nh1.out.bel hby)
  have Nh2x := Lib.hid (Nh2.out.bel hby)
  have Nh3x := Lib.hid (Nh3.out.bel hby)
  obtain ⟨z, hz⟩ : ∃ z : Later V.heap.size V, z.val = y.val := ⟨x.up y, rfl⟩
  rw [← hz] at Nl7 S2 Nh1x Nh2x Nh3x ⊢
  clear hz hby hbz hJ S1 Nh1 Nh2 Nh3 PClasses
  have Nh1 := Nh1x
  have Nh2 := Nh2x
  have Nh3 := Nh3x
  clear Nh1x Nh2x Nh3x
  have S1 := S2
  clear S2 y x
  obtain ⟨x, hx⟩ : ∃ x : Later V.heap.size V, x = z := ⟨_, rfl⟩
  rw [← hx] at Nl7 S1 Nh1 Nh2 Nh3 ⊢
  clear hx z
  have hbz : Bel V x.val := Bel.of x
  go_upto_region 26 with (first | (go_at_call 21; (with_reducible refine (PComponents.out _ ?_).mono ?_); (repeat (first | (with_reducible exact hbz) | (with_reducible exact Bel.refl _) | (with_reducible refine Bel.up ?_ _) | (with_reducible refine Bel.alloc ?_ _) | (with_reducible refine Bel.drew ?_) | (with_reducible refine Bel.set ?_ (by first | assumption | omega | (dsimp only; omega) | (simp; omega)) _))); rintro e _ ⟨_, rfl, ⟨_, rfl, ⟨aal8, ccl8, rfl, hJ, _⟩⟩, y, rfl⟩) | fail)
  have hby : Bel x.val y.val := Bel.of y
  have Nl8 : Hid (IntsAt y.val.heap.size y.val aal8 xP) := Lib.hid hJ
  have S2 := Lib.hid (S1.out.bel hby)
  have Nh1x := Lib.hid (Nh1.out.bel hby)
  have Nh2x := Lib.hid (Nh2.out.bel hby)
  have Nh3x := Lib.hid (Nh3.out.bel hby)
  have Nl7x := Lib.hid (Nl7.out.bel hby)
  obtain ⟨z, hz⟩ : ∃ z : Later V.heap.size V, z.val = y.val := ⟨x.up y, rfl⟩
  rw [← hz] at Nl8 S2 Nh1x Nh2x Nh3x Nl7x ⊢
  clear hz hby hbz hJ S1 Nh1 Nh2 Nh3 Nl7 PComponents
  have Nh1 := Nh1x
  have Nh2 := Nh2x
  have Nh3 := Nh3x
  have Nl7 := Nl7x
  clear Nh1x Nh2x Nh3x Nl7x
  have S1 := S2
  clear S2 y x
  obtain ⟨x, hx⟩ : ∃ x : Later V.heap.size V, x = z := ⟨_, rfl⟩
  rw [← hx] at Nl8 S1 Nh1 Nh2 Nh3 Nl7 ⊢
  clear hx z
  have hbz : Bel V x.val := Bel.of x
  go_upto_region 27 with (first | (go_at_call 22; (with_reducible refine (PSimple.out _ ?_).mono ?_); (repeat (first | (with_reducible exact hbz) | (with_reducible exact Bel.refl _) | (with_reducible refine Bel.up ?_ _) | (with_reducible refine Bel.alloc ?_ _) | (with_reducible refine Bel.drew ?_) | (with_reducible refine Bel.set ?_ (by first | assumption | omega | (dsimp only; omega) | (simp; omega)) _))); rintro e _ ⟨_, rfl, ⟨aah4, cch4, rfl, hO⟩, y, rfl⟩) | fail)
  have hby : Bel x.val (y.val.alloc (.cells #[.int .i64 nZ, .slice aah4 xZ.length cch4] 24)) := (Bel.of y).alloc _
  have Nh4 : Hid (MB (y.val.alloc (.cells #[.int .i64 nZ, .slice aah4 xZ.length cch4] 24)) y.val.heap.size nZ aah4 cch4 xZ) := Lib.hid ⟨RowL.new _ _ _, (hO.reads).to ((Later.self y.val).alloc _)⟩
  have S2 := Lib.hid (S1.out.bel hby)
  have Nh1x := Lib.hid (Nh1.out.bel hby)
  have Nh2x := Lib.hid (Nh2.out.bel hby)
  have Nh3x := Lib.hid (Nh3.out.bel hby)
  have Nl7x := Lib.hid (Nl7.out.bel hby)
  have Nl8x := Lib.hid (Nl8.out.bel hby)
  obtain ⟨z, hz⟩ : ∃ z : Later V.heap.size V, z.val = (y.val.alloc (.cells #[.int .i64 nZ, .slice aah4 xZ.length cch4] 24)) := ⟨x.up (y.alloc _), rfl⟩
  rw [← hz] at Nh4 S2 Nh1x Nh2x Nh3x Nl7x Nl8x ⊢
  clear hz hby hbz hO S1 Nh1 Nh2 Nh3 Nl7 Nl8 PSimple
  have Nh1 := Nh1x
  have Nh2 := Nh2x
  have Nh3 := Nh3x
  have Nl7 := Nl7x
  have Nl8 := Nl8x
  clear Nh1x Nh2x Nh3x Nl7x Nl8x
  have S1 := S2
  clear S2
  obtain ⟨h4, hhh4⟩ : ∃ g, g = y.val.heap.size := ⟨_, rfl⟩
  rw [← hhh4] at Nh4 ⊢
  clear hhh4 y x
  obtain ⟨x, hx⟩ : ∃ x : Later V.heap.size V, x = z := ⟨_, rfl⟩
  rw [← hx] at Nh4 S1 Nh1 Nh2 Nh3 Nl7 Nl8 ⊢
  clear hx z
  obtain ⟨r1, t1, hm1, ho1⟩ := S1.out.1.m1
  obtain ⟨r2, t2, hm2, ho2⟩ := S1.out.1.m2
  obtain ⟨r3, t3, hm3, ho3⟩ := S1.out.1.m3
  obtain ⟨r4, t4, hm4, ho4⟩ := S1.out.1.m4
  have KT1 : Hid (∀ w : Later x.val.heap.size x.val, Calls Try.prog 23 #[.agg #[.int .i64 nS, .slice aah1 xS.length cch1], .int .i64 f, .agg #[.int .i64 nS, .slice r1 xS.length t1], .int .i64 f] w.val (Ret x.val.heap.size x.val (.bool true))) := Lib.hid (fun w => c_told w nS nS xS xS aah1 r1 cch1 t1 f f Nh1.out.2 ho1.reads (HL.out.1) rfl (told_ok (HZ.out.1)))
  have a10 : ∀ w : Later x.val.heap.size x.val, w.val.cell? ⟨h1, 0, none⟩ = some (.int .i64 nS) := fun w => (Nh1.out.1.keep w.below).cell rfl
  have a11 : ∀ w : Later x.val.heap.size x.val, w.val.cell? ⟨h1, 1, none⟩ = some (.slice aah1 xS.length cch1) := fun w => (Nh1.out.1.keep w.below).cell rfl
  have b10 : ∀ w : Later x.val.heap.size x.val, w.val.cell? ⟨g1, 0, none⟩ = some (.int .i64 nS) := fun w => (hm1.keep w.below).cell rfl
  have b11 : ∀ w : Later x.val.heap.size x.val, w.val.cell? ⟨g1, 1, none⟩ = some (.slice r1 xS.length t1) := fun w => (hm1.keep w.below).cell rfl
  have KT2 : Hid (∀ w : Later x.val.heap.size x.val, Calls Try.prog 23 #[.agg #[.int .i64 nF, .slice aah2 xF.length cch2], .int .i64 g, .agg #[.int .i64 nF, .slice r2 xF.length t2], .int .i64 g] w.val (Ret x.val.heap.size x.val (.bool true))) := Lib.hid (fun w => c_told w nF nF xF xF aah2 r2 cch2 t2 g g Nh2.out.2 ho2.reads (HL.out.2.1) rfl (told_ok (HZ.out.2.1)))
  have a20 : ∀ w : Later x.val.heap.size x.val, w.val.cell? ⟨h2, 0, none⟩ = some (.int .i64 nF) := fun w => (Nh2.out.1.keep w.below).cell rfl
  have a21 : ∀ w : Later x.val.heap.size x.val, w.val.cell? ⟨h2, 1, none⟩ = some (.slice aah2 xF.length cch2) := fun w => (Nh2.out.1.keep w.below).cell rfl
  have b20 : ∀ w : Later x.val.heap.size x.val, w.val.cell? ⟨g2, 0, none⟩ = some (.int .i64 nF) := fun w => (hm2.keep w.below).cell rfl
  have b21 : ∀ w : Later x.val.heap.size x.val, w.val.cell? ⟨g2, 1, none⟩ = some (.slice r2 xF.length t2) := fun w => (hm2.keep w.below).cell rfl
  have KT3 : Hid (∀ w : Later x.val.heap.size x.val, Calls Try.prog 23 #[.agg #[.int .i64 nR, .slice aah3 xR.length cch3], .int .i64 h, .agg #[.int .i64 nR, .slice r3 xR.length t3], .int .i64 h] w.val (Ret x.val.heap.size x.val (.bool true))) := Lib.hid (fun w => c_told w nR nR xR xR aah3 r3 cch3 t3 h h Nh3.out.2 ho3.reads (HL.out.2.2.1) rfl (told_ok (HZ.out.2.2.1)))
  have a30 : ∀ w : Later x.val.heap.size x.val, w.val.cell? ⟨h3, 0, none⟩ = some (.int .i64 nR) := fun w => (Nh3.out.1.keep w.below).cell rfl
  have a31 : ∀ w : Later x.val.heap.size x.val, w.val.cell? ⟨h3, 1, none⟩ = some (.slice aah3 xR.length cch3) := fun w => (Nh3.out.1.keep w.below).cell rfl
  have b30 : ∀ w : Later x.val.heap.size x.val, w.val.cell? ⟨g3, 0, none⟩ = some (.int .i64 nR) := fun w => (hm3.keep w.below).cell rfl
  have b31 : ∀ w : Later x.val.heap.size x.val, w.val.cell? ⟨g3, 1, none⟩ = some (.slice r3 xR.length t3) := fun w => (hm3.keep w.below).cell rfl
  have KT4 : Hid (∀ w : Later x.val.heap.size x.val, Calls Try.prog 23 #[.agg #[.int .i64 nZ, .slice aah4 xZ.length cch4], .int .i64 e1, .agg #[.int .i64 nZ, .slice r4 xZ.length t4], .int .i64 e1] w.val (Ret x.val.heap.size x.val (.bool true))) := Lib.hid (fun w => c_told w nZ nZ xZ xZ aah4 r4 cch4 t4 e1 e1 Nh4.out.2 ho4.reads (HL.out.2.2.2.1) rfl (told_ok (HZ.out.2.2.2.1)))
  have a40 : ∀ w : Later x.val.heap.size x.val, w.val.cell? ⟨h4, 0, none⟩ = some (.int .i64 nZ) := fun w => (Nh4.out.1.keep w.below).cell rfl
  have a41 : ∀ w : Later x.val.heap.size x.val, w.val.cell? ⟨h4, 1, none⟩ = some (.slice aah4 xZ.length cch4) := fun w => (Nh4.out.1.keep w.below).cell rfl
  have b40 : ∀ w : Later x.val.heap.size x.val, w.val.cell? ⟨g4, 0, none⟩ = some (.int .i64 nZ) := fun w => (hm4.keep w.below).cell rfl
  have b41 : ∀ w : Later x.val.heap.size x.val, w.val.cell? ⟨g4, 1, none⟩ = some (.slice r4 xZ.length t4) := fun w => (hm4.keep w.below).cell rfl
  have KT5 : Hid (∀ w : Later x.val.heap.size x.val, Calls Try.prog 24 #[.slice aal7 xC.length ccl7, .int .i64 e1, .slice a5 xC.length c5, .int .i64 e1] w.val (Ret x.val.heap.size x.val (.bool true))) := Lib.hid (fun w => c_list w xC xC aal7 a5 ccl7 c5 e1 e1 Nl7.out (Own.reads (S1.out.2.1)) (HL.out.2.2.2.2.1) rfl (list_ok (fun cc => (HZ.out.2.2.2.2 cc).1)))
  have KT6 : Hid (∀ w : Later x.val.heap.size x.val, Calls Try.prog 24 #[.slice aal8 xP.length ccl8, .int .i64 e1, .slice a6 xP.length c6, .int .i64 e1] w.val (Ret x.val.heap.size x.val (.bool true))) := Lib.hid (fun w => c_list w xP xP aal8 a6 ccl8 c6 e1 e1 Nl8.out (Own.reads (S1.out.2.2)) (HL.out.2.2.2.2.2) rfl (list_ok (fun cc => (HZ.out.2.2.2.2 cc).2)))
  clear S1 Nh1 Nh2 Nh3 Nl7 Nl8 Nh4 HL HZ hm1 hm2 hm3 hm4 ho1 ho2 ho3 ho4 q0 q1 q2 q3 q4 Q
  have HVX : Hid (∀ w : Later x.val.heap.size x.val, ∃ z : Later B W, z.val = w.val) := Lib.hid (fun w => HV.out (x.up w))
  obtain ⟨w, hw⟩ : ∃ w : Later x.val.heap.size x.val, w.val = x.val := ⟨Later.self _, rfl⟩
  rw [← hw]
  clear hw
  go_wp2_with (first | (go_at_call 23; first | ((with_reducible refine (KT1.out _).mono ?_); rintro e _ ⟨rfl, w, rfl⟩) | ((with_reducible refine (KT2.out _).mono ?_); rintro e _ ⟨rfl, w, rfl⟩) | ((with_reducible refine (KT3.out _).mono ?_); rintro e _ ⟨rfl, w, rfl⟩) | ((with_reducible refine (KT4.out _).mono ?_); rintro e _ ⟨rfl, w, rfl⟩)) | (go_at_call 24; first | ((with_reducible refine (KT5.out _).mono ?_); rintro e _ ⟨rfl, w, rfl⟩) | ((with_reducible refine (KT6.out _).mono ?_); rintro e _ ⟨rfl, w, rfl⟩)) | fail)
  go_ret
  exact Ret.of (HVX.out w) rfl

end Go.Proofs.Ytefkhnibempibaa

namespace Go.Proofs.Ytefkhnibempibaa
open Go.RowKit
set_option linter.unusedVariables false

theorem fam_card {m : Nat} {L : List Nat} (hm : m ≤ 8) (h : isFam (m : Int) (ints L)) : L.length ≤ bit m := by
  have hb := bit_le m hm
  obtain ⟨_, _, hf⟩ := h
  have key : ∀ i, i < L.length → i ≤ L.getD i 0 := by
    intro i
    induction i with
    | zero => intro _; omega
    | succ i ih =>
      intro hi
      have h1 := ih (by omega)
      have h2 := (hf (i + 1) (by rw [ints_len]; exact hi)).2.2 (by omega)
      rw [ints_getD, ints_getD, show i + 1 - 1 = i from rfl] at h2
      omega
  by_cases hz : L.length = 0
  · omega
  · have h3 := key (L.length - 1) (by omega)
    have h4 := (hf (L.length - 1) (by rw [ints_len]; omega)).2.1
    rw [ints_getD, all_nat] at h4
    omega

end Go.Proofs.Ytefkhnibempibaa
