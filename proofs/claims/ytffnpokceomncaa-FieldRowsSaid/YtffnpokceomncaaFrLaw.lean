
/-
  rotalaw.FieldRows.
-/
import Derived.Test.YtffnpokceomncaaFrG
import Derived.Test.YtffnpokceomncaaOnes
import Derived.Deep.RegionHeld3
namespace Go.Proofs.Ytffnpokceomncaa
open Go.RowKit
set_option linter.unusedVariables false

/-- what Kernel answers -/
def KAns (p C N n : Nat) (rx : Lls) (pk ck : Int) (k Ck : Nat) (Mk : Nat → Nat → Int) (ek : Int) : Prop :=
  (ek = 2 ∧ pk = 0 ∧ ck = 0 ∧ k = 0 ∧ 6 < C - n) ∨ (ek = 0 ∧ pk = p ∧ ck = C ∧ C = Ck ∧ k ≤ 6 ∧ k + n = C ∧ isMatrix (p : Int) (C : Int) (mxL k C Mk) ∧ (∃ A, RedP C k Mk A) ∧ Small p k C Mk ∧ ∀ i q, i < N → q < k → Cg p (dot C (ent rx i) (Mk q)) 0)
theorem KerRes.ans {B p C n : Nat} {rx : Lls} {v : Value} {w : World} (h : KerRes B p C rx.length (ent rx) v w) (hp : PrimeP p) (hC : C ≤ 8) (hn : RankIs p C rx.length (ent rx) n) : ∃ (pk ck : Int) (k Ck : Nat) (Mk : Nat → Nat → Int) (ek : Int), MatM B pk ck k Ck Mk ek v w ∧ KAns p C rx.length n rx pk ck k Ck Mk ek := by
  obtain ⟨A, M, cc, hR, hcc, hend, hor⟩ := h
  have hAn : A.length = n := (hR.rank hp hcc hend).uniq hp hC hn (fun i hi => InSp.mem hi) (fun i hi => InSp.mem hi)
  rcases hor with ⟨h6, hM⟩ | ⟨h6, k, M2, hSt, hM⟩
  · exact ⟨0, 0, 0, 0, _, 2, hM, .inl ⟨rfl, rfl, rfl, rfl, by omega⟩⟩
  · have hk := ker_facts hp hR hcc hend hSt
    have hk6 : k ≤ 6 := by omega
    exact ⟨p, C, k, C, M2, 0, hM, .inr ⟨rfl, rfl, rfl, rfl, hk6, by omega, hSt.isM hp hC hk6, hSt.red, hSt.small, hk.2⟩⟩

set_option maxRecDepth 100000 in
set_option maxHeartbeats 20000000 in
theorem law_fr_no {B : Nat} {W : World} (u : Later B W) (px cx : Int) (rx : Lls) (ax : Option Addr) (capx : Nat) (hx : RowsI B W ax rx)
    (hlx : rx.length ≤ 17592186044416) (hrx : ∀ i, i < rx.length → (rx.getD i []).length ≤ 17592186044416) (hN : ¬ isMatrix px cx rx) :
    Calls Try.prog 4 #[.agg #[.int .i64 px, .int .i64 cx, .slice ax rx.length capx]] u.val (Ret B W (.bool true)) := by
  have TX : Hid (RowL (u.val.alloc (.cells #[.int .i64 px, .int .i64 cx, .slice ax rx.length capx] 24)) u.val.heap.size 24 [.int .i64 px, .int .i64 cx, .slice ax rx.length capx]) := Lib.hid (RowL.new u.val 24 _)
  have HV : Hid (∀ v : Later (u.val.alloc (.cells #[.int .i64 px, .int .i64 cx, .slice ax rx.length capx] 24)).heap.size (u.val.alloc (.cells #[.int .i64 px, .int .i64 cx, .slice ax rx.length capx] 24)), ∃ w : Later B W, w.val = v.val) := Lib.hid (fun v => ⟨(u.alloc _).up v, rfl⟩)
  have HXs : Hid (RowsI (u.val.alloc (.cells #[.int .i64 px, .int .i64 cx, .slice ax rx.length capx] 24)).heap.size (u.val.alloc (.cells #[.int .i64 px, .int .i64 cx, .slice ax rx.length capx] 24)) ax rx) := Lib.hid (hx.to (u.alloc _))
  have HRx := Lib.hid hrx
  clear hx hrx
  go_enter Try.func4, Try.ntmps4
  go_upto_region 1 with fail
  generalize (u.val.alloc (.cells #[.int .i64 px, .int .i64 cx, .slice ax rx.length capx] 24)) = Y at *
  generalize u.val.heap.size = g0 at *
  clear u
  have x0 : ∀ v : Later Y.heap.size Y, v.val.cell? ⟨g0, 0, none⟩ = some (.int .i64 px) := fun v => (TX.out.keep v.below).cell rfl
  have x1 : ∀ v : Later Y.heap.size Y, v.val.cell? ⟨g0, 1, none⟩ = some (.int .i64 cx) := fun v => (TX.out.keep v.below).cell rfl
  have x2 : ∀ v : Later Y.heap.size Y, v.val.cell? ⟨g0, 2, none⟩ = some (.slice ax rx.length capx) := fun v => (TX.out.keep v.below).cell rfl
  have KD := Lib.hid (fun v : Later Y.heap.size Y => c_fieldReduced_no (Later.self v.val) px cx rx ax capx (HXs.out.to v) hlx HRx.out hN)
  have KT := Lib.hid (fun v : Later Y.heap.size Y => c_fieldRank_no (Later.self v.val) px cx rx ax capx (HXs.out.to v) hlx HRx.out hN)
  have KU := Lib.hid (fun v : Later Y.heap.size Y => c_fieldKernel_no (Later.self v.val) px cx rx ax capx (HXs.out.to v) hlx HRx.out hN)
  obtain ⟨z, hz⟩ : ∃ z : Later Y.heap.size Y, z.val = Y := ⟨Later.self _, rfl⟩
  rw [← hz]
  clear hz
  have d0 := x0 z
  have d1 := x1 z
  have d2 := x2 z
  have KDz := Lib.hid (KD.out z)
  dsimp only [Later.self] at KDz
  go_upto_region 2 with (first | (go_at_call 16; (with_reducible refine (KDz.out).mono ?_); rintro e _ ⟨rfl, v1, rfl⟩) | fail)
  clear d0 d1 d2 KD KDz
  have TA : Hid (RowL (v1.val.alloc (.cells #[.int .i64 0, .int .i64 0, .slice none 0 0] 24)) v1.val.heap.size 24 [.int .i64 0, .int .i64 0, .slice none 0 0]) := Lib.hid (RowL.new _ _ _)
  obtain ⟨v3, hv3⟩ : ∃ v3 : Later Y.heap.size Y, v3.val = (v1.val.alloc (.cells #[.int .i64 0, .int .i64 0, .slice none 0 0] 24)) := ⟨(z.up v1).alloc _, rfl⟩
  rw [← hv3] at TA ⊢
  generalize v1.val.heap.size = ga at *
  clear hv3 v1 z
  have d0 := x0 v3
  have d1 := x1 v3
  have d2 := x2 v3
  have KTz := Lib.hid (KT.out v3)
  dsimp only [Later.self] at KTz
  go_upto_region 3 with (first | (go_at_call 17; (with_reducible refine (KTz.out).mono ?_); rintro e _ ⟨rfl, v4, rfl⟩) | fail)
  clear d0 d1 d2 KT KTz
  have TA4 := Lib.hid (TA.out.keep v4.below)
  obtain ⟨v5, hv5⟩ : ∃ v5 : Later Y.heap.size Y, v5.val = v4.val := ⟨v3.up v4, rfl⟩
  rw [← hv5] at TA4 ⊢
  clear hv5 TA v4 v3
  have d0 := x0 v5
  have d1 := x1 v5
  have d2 := x2 v5
  have KUz := Lib.hid (KU.out v5)
  dsimp only [Later.self] at KUz
  go_upto_region 4 with (first | (go_at_call 18; (with_reducible refine (KUz.out).mono ?_); rintro e _ ⟨rfl, v6, rfl⟩) | fail)
  clear d0 d1 d2 KU KUz
  have TB : Hid (RowL (v6.val.alloc (.cells #[.int .i64 0, .int .i64 0, .slice none 0 0] 24)) v6.val.heap.size 24 [.int .i64 0, .int .i64 0, .slice none 0 0]) := Lib.hid (RowL.new _ _ _)
  have TA7 : Hid (RowL (v6.val.alloc (.cells #[.int .i64 0, .int .i64 0, .slice none 0 0] 24)) ga 24 [.int .i64 0, .int .i64 0, .slice none 0 0]) := Lib.hid ((TA4.out.keep v6.below).keep ((Below.refl _ _).alloc (Nat.le_refl _) _))
  obtain ⟨v7, hv7⟩ : ∃ v7 : Later Y.heap.size Y, v7.val = (v6.val.alloc (.cells #[.int .i64 0, .int .i64 0, .slice none 0 0] 24)) := ⟨(v5.up v6).alloc _, rfl⟩
  rw [← hv7] at TB TA7 ⊢
  generalize v6.val.heap.size = gb at *
  have HV7 : Hid (∀ w : Later v7.val.heap.size v7.val, ∃ x : Later B W, x.val = w.val) := Lib.hid (fun w => HV.out (v7.up w))
  have KM : Hid (Calls Try.prog 10 #[.agg #[.int .i64 px, .int .i64 cx, .slice ax rx.length capx]] v7.val (Ret v7.val.heap.size v7.val (.bool false))) := Lib.hid (by
    have := c_isMatrix (Later.self v7.val) px cx rx ax capx (HXs.out.to v7) hlx HRx.out
    rwa [decide_eq_false hN] at this)
  have KG := Lib.hid (fun (w : Later v7.val.heap.size v7.val) (a : Option Addr) (cap : Nat) => c_goneM w a cap)
  have r0 : ∀ w : Later v7.val.heap.size v7.val, w.val.cell? ⟨ga, 0, none⟩ = some (.int .i64 0) := fun w => (TA7.out.keep w.below).cell rfl
  have r1 : ∀ w : Later v7.val.heap.size v7.val, w.val.cell? ⟨ga, 1, none⟩ = some (.int .i64 0) := fun w => (TA7.out.keep w.below).cell rfl
  have r2 : ∀ w : Later v7.val.heap.size v7.val, w.val.cell? ⟨ga, 2, none⟩ = some (.slice none 0 0) := fun w => (TA7.out.keep w.below).cell rfl
  have s0 : ∀ w : Later v7.val.heap.size v7.val, w.val.cell? ⟨gb, 0, none⟩ = some (.int .i64 0) := fun w => (TB.out.keep w.below).cell rfl
  have s1 : ∀ w : Later v7.val.heap.size v7.val, w.val.cell? ⟨gb, 1, none⟩ = some (.int .i64 0) := fun w => (TB.out.keep w.below).cell rfl
  have s2 : ∀ w : Later v7.val.heap.size v7.val, w.val.cell? ⟨gb, 2, none⟩ = some (.slice none 0 0) := fun w => (TB.out.keep w.below).cell rfl
  have d0 := x0 v7
  have d1 := x1 v7
  have d2 := x2 v7
  clear x0 x1 x2 HV HXs HRx TX TA7 TB TA4 hN hv7
  go_wp2_with (first | (go_at_call 10; (with_reducible refine (KM.out).mono ?_); rintro e _ ⟨rfl, w1, rfl⟩; have r0a := r0 w1; have r1a := r1 w1; have r2a := r2 w1) | (go_at_call 13; (with_reducible refine (KG.out w1 none 0).mono ?_); rintro e _ ⟨rfl, w2, rfl⟩; have s0a := s0 w2; have s1a := s1 w2; have s2a := s2 w2) | (go_at_call 13; (with_reducible refine (KG.out w2 none 0).mono ?_); rintro e _ ⟨rfl, w3, rfl⟩) | fail)
  go_ret
  exact Ret.of (HV7.out w3) rfl

set_option maxRecDepth 100000 in
set_option maxHeartbeats 20000000 in
theorem law_fr_yes {B : Nat} {W : World} (u : Later B W) (p C : Nat) (rx : Lls) (ax : Option Addr) (capx : Nat) (hx : RowsI B W ax rx) (hcap : ax = none → capx = 0) (hp : PrimeP p) (hN : isMatrix (p : Int) (C : Int) rx) :
    Calls Try.prog 4 #[.agg #[.int .i64 p, .int .i64 C, .slice ax rx.length capx]] u.val (Ret B W (.bool true)) := by
  have TX : Hid (RowL (u.val.alloc (.cells #[.int .i64 p, .int .i64 C, .slice ax rx.length capx] 24)) u.val.heap.size 24 [.int .i64 p, .int .i64 C, .slice ax rx.length capx]) := Lib.hid (RowL.new u.val 24 _)
  have HV : Hid (∀ v : Later (u.val.alloc (.cells #[.int .i64 p, .int .i64 C, .slice ax rx.length capx] 24)).heap.size (u.val.alloc (.cells #[.int .i64 p, .int .i64 C, .slice ax rx.length capx] 24)), ∃ w : Later B W, w.val = v.val) := Lib.hid (fun v => ⟨(u.alloc _).up v, rfl⟩)
  have HXs : Hid (RowsI (u.val.alloc (.cells #[.int .i64 p, .int .i64 C, .slice ax rx.length capx] 24)).heap.size (u.val.alloc (.cells #[.int .i64 p, .int .i64 C, .slice ax rx.length capx] 24)) ax rx) := Lib.hid (hx.to (u.alloc _))
  have hp7 := hp.le
  have hC8 : C ≤ 8 := by have := hN.2.1.2; omega
  have hN6 : rx.length ≤ 6 := hN.2.2.1
  have hrX : ∀ i, i < rx.length → (rx.getD i []).length = C := fun i hi => by have := (hN.2.2.2 i hi).1; omega
  have hsX : Small p rx.length C (ent rx) := fun i j hi hj => (hN.2.2.2 i hi).2 j (by rw [hrX i hi]; exact hj)
  have HrX := Lib.hid hrX
  have HsX := Lib.hid hsX
  have HNh := Lib.hid hN
  have HCap : Hid (ax = none → rx.length = 0 ∧ capx = 0) := Lib.hid (fun e => ⟨by
    by_cases hne : rx = []
    · rw [hne]; rfl
    · obtain ⟨b, off, e2, _⟩ := hx hne
      rw [e] at e2
      exact absurd e2 (by simp), hcap e⟩)
  clear hx hN hrX hsX hcap
  go_enter Try.func4, Try.ntmps4
  go_upto_region 1 with fail
  generalize (u.val.alloc (.cells #[.int .i64 p, .int .i64 C, .slice ax rx.length capx] 24)) = Y at *
  generalize u.val.heap.size = g0 at *
  clear u
  have x0 : ∀ v : Later Y.heap.size Y, v.val.cell? ⟨g0, 0, none⟩ = some (.int .i64 p) := fun v => (TX.out.keep v.below).cell rfl
  have x1 : ∀ v : Later Y.heap.size Y, v.val.cell? ⟨g0, 1, none⟩ = some (.int .i64 C) := fun v => (TX.out.keep v.below).cell rfl
  have x2 : ∀ v : Later Y.heap.size Y, v.val.cell? ⟨g0, 2, none⟩ = some (.slice ax rx.length capx) := fun v => (TX.out.keep v.below).cell rfl
  have KD := Lib.hid (fun v : Later Y.heap.size Y => c_fieldReduced (Later.self v.val) p C rx ax capx (HXs.out.to v) hp HNh.out)
  obtain ⟨z, hz⟩ : ∃ z : Later Y.heap.size Y, z.val = Y := ⟨Later.self _, rfl⟩
  rw [← hz]
  clear hz
  have d0 := x0 z
  have d1 := x1 z
  have d2 := x2 z
  have KDz := Lib.hid (KD.out z)
  dsimp only [Later.self] at KDz
  go_upto_region 2 with (first | (go_at_call 16; (with_reducible refine (KDz.out).mono ?_); rintro e _ ⟨_, rfl, ⟨n, Ma, hSt, adA, gcA, hdA, rA, cpA, rfl, hMA⟩, v1, rfl⟩) | fail)
  clear d0 d1 d2 KD KDz
  have hRk := hSt.rank hp
  have hnN := hSt.le
  have HSt := Lib.hid hSt
  have HRk := Lib.hid hRk
  have HnA : Hid (adA = none → n = 0 ∧ gcA = 0) := Lib.hid (fun e => by
    rcases hMA.form with ⟨_, h1, h2⟩ | ⟨g, e2, _⟩
    · exact ⟨h2, h1⟩
    · rw [e] at e2; cases e2)
  have TA : Hid (RowL (v1.val.alloc (.cells #[.int .i64 p, .int .i64 C, .slice adA n gcA] 24)) v1.val.heap.size 24 [.int .i64 p, .int .i64 C, .slice adA n gcA]) := Lib.hid (RowL.new _ _ _)
  have RA : Hid (RowsI (v1.val.alloc (.cells #[.int .i64 p, .int .i64 C, .slice adA n gcA] 24)).heap.size (v1.val.alloc (.cells #[.int .i64 p, .int .i64 C, .slice adA n gcA] 24)) adA (mxL n C Ma)) := Lib.hid (hMA.rows.to ((Later.self v1.val).alloc _))
  obtain ⟨v3, hv3⟩ : ∃ v3 : Later Y.heap.size Y, v3.val = (v1.val.alloc (.cells #[.int .i64 p, .int .i64 C, .slice adA n gcA] 24)) := ⟨(z.up v1).alloc _, rfl⟩
  rw [← hv3] at TA RA ⊢
  generalize v1.val.heap.size = ga at *
  clear hv3 hSt hRk hMA hdA rA cpA v1 z
  have d0 := x0 v3
  have d1 := x1 v3
  have d2 := x2 v3
  have KTz : Hid (Calls Try.prog 17 #[.agg #[.int .i64 p, .int .i64 C, .slice ax rx.length capx]] v3.val (Ret v3.val.heap.size v3.val (.tuple #[.int .i64 n, .int .i64 0]))) := Lib.hid (by
    refine (c_fieldRank (Later.self v3.val) p C rx ax capx (HXs.out.to v3) hp HNh.out).mono ?_
    rintro e _ ⟨_, rfl, ⟨n2, M2, hS2, rfl⟩, v4, rfl⟩
    have : n2 = n := (hS2.rank hp).uniq hp hC8 HRk.out (fun i hi => InSp.mem hi) (fun i hi => InSp.mem hi)
    rw [this]
    exact ⟨rfl, v4, rfl⟩)
  go_upto_region 3 with (first | (go_at_call 17; (with_reducible refine (KTz.out).mono ?_); rintro e _ ⟨rfl, v4, rfl⟩) | fail)
  clear d0 d1 d2 KTz
  have TA4 := Lib.hid (TA.out.keep v4.below)
  have RA4 := Lib.hid (RA.out.to v4)
  obtain ⟨v5, hv5⟩ : ∃ v5 : Later Y.heap.size Y, v5.val = v4.val := ⟨v3.up v4, rfl⟩
  rw [← hv5] at TA4 RA4 ⊢
  clear hv5 TA RA v4 v3
  have d0 := x0 v5
  have d1 := x1 v5
  have d2 := x2 v5
  have KUz : Hid (Calls Try.prog 18 #[.agg #[.int .i64 p, .int .i64 C, .slice ax rx.length capx]] v5.val (RetP v5.val.heap.size v5.val (fun v w => ∃ (pk ck : Int) (k Ck : Nat) (Mk : Nat → Nat → Int) (ek : Int), MatM v5.val.heap.size pk ck k Ck Mk ek v w ∧ KAns p C rx.length n rx pk ck k Ck Mk ek))) := Lib.hid (by
    refine (c_fieldKernel (Later.self v5.val) p C rx ax capx (HXs.out.to v5) hp HNh.out).mono ?_
    rintro e _ ⟨_, rfl, hk, v6, rfl⟩
    exact ⟨_, rfl, hk.ans hp hC8 HRk.out, v6, rfl⟩)
  go_upto_region 4 with (first | (go_at_call 18; (with_reducible refine (KUz.out).mono ?_); rintro e _ ⟨_, rfl, ⟨pk, ck, k, Ck, Mk, ek, ⟨adB, gcB, hdB, rB, cpB, rfl, hMB⟩, hKA⟩, v6, rfl⟩) | fail)
  clear d0 d1 d2 KUz
  have HKA := Lib.hid hKA
  have TB : Hid (RowL (v6.val.alloc (.cells #[.int .i64 pk, .int .i64 ck, .slice adB k gcB] 24)) v6.val.heap.size 24 [.int .i64 pk, .int .i64 ck, .slice adB k gcB]) := Lib.hid (RowL.new _ _ _)
  have TA7 : Hid (RowL (v6.val.alloc (.cells #[.int .i64 pk, .int .i64 ck, .slice adB k gcB] 24)) ga 24 [.int .i64 p, .int .i64 C, .slice adA n gcA]) := Lib.hid ((TA4.out.keep v6.below).keep ((Below.refl _ _).alloc (Nat.le_refl _) _))
  have RB : Hid (RowsI (v6.val.alloc (.cells #[.int .i64 pk, .int .i64 ck, .slice adB k gcB] 24)).heap.size (v6.val.alloc (.cells #[.int .i64 pk, .int .i64 ck, .slice adB k gcB] 24)) adB (mxL k Ck Mk)) := Lib.hid (hMB.rows.to ((Later.self v6.val).alloc _))
  have RA7 : Hid (RowsI (v6.val.alloc (.cells #[.int .i64 pk, .int .i64 ck, .slice adB k gcB] 24)).heap.size (v6.val.alloc (.cells #[.int .i64 pk, .int .i64 ck, .slice adB k gcB] 24)) adA (mxL n C Ma)) := Lib.hid ((RA4.out.to v6).to ((Later.self v6.val).alloc _))
  obtain ⟨v7, hv7⟩ : ∃ v7 : Later Y.heap.size Y, v7.val = (v6.val.alloc (.cells #[.int .i64 pk, .int .i64 ck, .slice adB k gcB] 24)) := ⟨(v5.up v6).alloc _, rfl⟩
  rw [← hv7] at TB TA7 RB RA7 ⊢
  generalize v6.val.heap.size = gb at *
  have e0 : ∀ w : Later v7.val.heap.size v7.val, w.val.cell? ⟨g0, 0, none⟩ = some (.int .i64 p) := fun w => x0 (v7.up w)
  have e1 : ∀ w : Later v7.val.heap.size v7.val, w.val.cell? ⟨g0, 1, none⟩ = some (.int .i64 C) := fun w => x1 (v7.up w)
  have e2 : ∀ w : Later v7.val.heap.size v7.val, w.val.cell? ⟨g0, 2, none⟩ = some (.slice ax rx.length capx) := fun w => x2 (v7.up w)
  have RX : Hid (RowsI v7.val.heap.size v7.val ax rx) := Lib.hid (HXs.out.to v7)
  have HV7 : Hid (∀ w : Later v7.val.heap.size v7.val, ∃ x : Later B W, x.val = w.val) := Lib.hid (fun w => HV.out (v7.up w))
  clear hKA hMB hdB rB cpB TA4 RA4 HV HXs x0 x1 x2 TX
  obtain ⟨V, hVV⟩ : ∃ V, V = v7.val := ⟨_, rfl⟩
  rw [← hVV] at TB TA7 RB RA7 e0 e1 e2 RX HV7 ⊢
  clear hVV hv7 v7 v6 v5
  have r0 : ∀ w : Later V.heap.size V, w.val.cell? ⟨ga, 0, none⟩ = some (.int .i64 p) := fun w => (TA7.out.keep w.below).cell rfl
  have r1 : ∀ w : Later V.heap.size V, w.val.cell? ⟨ga, 1, none⟩ = some (.int .i64 C) := fun w => (TA7.out.keep w.below).cell rfl
  have r2 : ∀ w : Later V.heap.size V, w.val.cell? ⟨ga, 2, none⟩ = some (.slice adA n gcA) := fun w => (TA7.out.keep w.below).cell rfl
  have s0 : ∀ w : Later V.heap.size V, w.val.cell? ⟨gb, 0, none⟩ = some (.int .i64 pk) := fun w => (TB.out.keep w.below).cell rfl
  have s1 : ∀ w : Later V.heap.size V, w.val.cell? ⟨gb, 1, none⟩ = some (.int .i64 ck) := fun w => (TB.out.keep w.below).cell rfl
  have s2 : ∀ w : Later V.heap.size V, w.val.cell? ⟨gb, 2, none⟩ = some (.slice adB k gcB) := fun w => (TB.out.keep w.below).cell rfl
  have KM : Hid (∀ w : Later V.heap.size V, Calls Try.prog 10 #[.agg #[.int .i64 p, .int .i64 C, .slice ax rx.length capx]] w.val (Ret V.heap.size V (.bool true))) := Lib.hid (fun w => by
    have := c_isMatrix w p C rx ax capx RX.out (by omega) (fun i hi => by rw [HrX.out i hi]; omega)
    rwa [decide_eq_true HNh.out] at this)
  have KH : Hid (∀ w : Later V.heap.size V, Calls Try.prog 19 #[.int .i64 p, .slice ax rx.length capx] w.val (Ret V.heap.size V (.int .i64 n))) := Lib.hid (fun w => by
    refine (c_hangA w p C rx ax capx RX.out hp (by omega) hC8 HrX.out HsX.out).mono ?_
    rintro e _ ⟨_, rfl, ⟨m, hm, rfl⟩, w', rfl⟩
    rw [show m = n from hm.uniq hp hC8 HRk.out (fun i hi => InSp.mem hi) (fun i hi => InSp.mem hi)]
    exact ⟨rfl, w', rfl⟩)
  have KIs : Hid (∀ w : Later V.heap.size V, Calls Try.prog 20 #[.agg #[.int .i64 p, .int .i64 C, .slice adA n gcA]] w.val (Ret V.heap.size V (.bool true))) := Lib.hid (fun w => by
    obtain ⟨A, hA⟩ := HSt.out.red
    have := c_isReduced w p C (mxL n C Ma) adA gcA RA7.out (HSt.out.isM hp hC8 (by omega)) A hA.mxL
    rwa [mxL_len] at this)
  obtain ⟨vsA, hA1, hA2, hA3, hA4⟩ := RA7.out.heads
  obtain ⟨vsX, hX1, hX2, hX3, hX4⟩ := RX.out.heads
  rw [mxL_len] at hA1 hA3
  have KH2 : Hid (∀ (w : Later V.heap.size V) (ad2 : Option Addr) (c2 : Nat), w.val.ownsRow V.heap.size 35 1 (.slice ad2 (n + rx.length : Nat) c2) (n + rx.length) (vsA ++ vsX) → Calls Try.prog 19 #[.int .i64 p, .slice ad2 (n + rx.length : Nat) c2] w.val (Ret V.heap.size V (.int .i64 n))) := Lib.hid (fun w ad2 c2 hown => by
    have hl : (mxL n C Ma ++ rx).length = n + rx.length := by rw [List.length_append, mxL_len]
    have hR : RowsI w.val.heap.size w.val ad2 (mxL n C Ma ++ rx) := RowsI.of_own hown hl (fun i hi => by
      by_cases e : i < n
      · obtain ⟨ad', cp', h1, h2, h3⟩ := hA3 i e
        rw [getD_left (by rw [mxL_len]; exact e)]
        exact ⟨ad', cp', by rw [List.getElem?_append_left (by omega)]; exact h1, h2.to w, h3⟩
      · obtain ⟨ad', cp', h1, h2, h3⟩ := hX3 (i - n) (by omega)
        rw [getD_right (by rw [mxL_len]; omega), mxL_len]
        exact ⟨ad', cp', by rw [List.getElem?_append_right (by omega), hA1]; exact h1, h2.to w, h3⟩)
    have hrows : ∀ i, i < (mxL n C Ma ++ rx).length → ((mxL n C Ma ++ rx).getD i []).length = C := fun i hi => by
      rw [hl] at hi
      by_cases e : i < n
      · rw [getD_left (by rw [mxL_len]; exact e), mxL_get e, tabL_len]
      · rw [getD_right (by rw [mxL_len]; omega), mxL_len]
        exact HrX.out _ (by omega)
    have hsm : Small p (mxL n C Ma ++ rx).length C (ent (mxL n C Ma ++ rx)) := fun i j hi hj => by
      rw [hl] at hi
      rw [ent_both hj]
      by_cases e : i < n
      · rw [if_pos e]; exact HSt.out.small i j e hj
      · rw [if_neg e]; exact HsX.out _ j (by omega) hj
    have := c_hangA (Later.self w.val) p C (mxL n C Ma ++ rx) ad2 c2 hR hp (by omega) hC8 hrows hsm
    rw [hl] at this
    refine this.mono ?_
    rintro e _ ⟨_, rfl, ⟨m, hm, rfl⟩, w', rfl⟩
    rw [show m = n from rank_both HSt.out hp hC8 hm]
    exact ⟨rfl, w.up w', rfl⟩)
  have HA2 := Lib.hid hA2
  have HA4 := Lib.hid hA4
  have HX2 := Lib.hid hX2
  have HX4 := Lib.hid hX4
  have HA1 := Lib.hid hA1
  have HX1 := Lib.hid hX1
  clear hA1 hA2 hA3 hA4 hX1 hX2 hX3 hX4 TA7 RA7
  obtain ⟨z, hz⟩ : ∃ z : Later V.heap.size V, z.val = V := ⟨Later.self _, rfl⟩
  rw [← hz]
  clear hz
  have d0 := e0 z
  have d1 := e1 z
  have d2 := e2 z
  go_upto_region 7 with (first | (go_at_call 10; (with_reducible refine (KM.out z).mono ?_); rintro e _ ⟨rfl, w1, rfl⟩; have g0' := e0 w1; have g2' := e2 w1) | (go_at_call 19; (with_reducible refine (KH.out w1).mono ?_); rintro e _ ⟨rfl, w2, rfl⟩) | fail)
  clear d0 d1 d2 g0' g2' KM KH z w1
  have q : ∀ w : Later V.heap.size V, w.val.cell? ⟨g0, 0, none⟩ = some (.int .i64 p) ∧ w.val.cell? ⟨g0, 1, none⟩ = some (.int .i64 C) ∧ w.val.cell? ⟨g0, 2, none⟩ = some (.slice ax rx.length capx) ∧ w.val.cell? ⟨ga, 0, none⟩ = some (.int .i64 p) ∧ w.val.cell? ⟨ga, 1, none⟩ = some (.int .i64 C) ∧ w.val.cell? ⟨ga, 2, none⟩ = some (.slice adA n gcA) := fun w => ⟨e0 w, e1 w, e2 w, r0 w, r1 w, r2 w⟩
  have qz := q w2.drew
  have KI0 := Lib.hid (KIs.out w2.drew)
  dsimp only [Later.drew, Later.to] at qz KI0
  have hnz : 0 + n = n := Nat.zero_add n
  have hk1 : n ≤ 1000000 := by omega
  have hk2 : n + rx.length ≤ 1000000 := by omega
  have HVs : Hid (∀ w : Later V.heap.size V, V.heap.size ≤ w.val.heap.size) := Lib.hid (fun w => w.size)
  have HA5 : Hid (∀ y : Later V.heap.size V, ∀ A, adA = some A → ∀ j v, vsA[j]? = some v → y.val.cell? (A.add j) = some v) := HA4
  have HX5 : Hid (∀ (y : Later V.heap.size V) (u1 : Later V.heap.size y.val), ∀ A, ax = some A → ∀ j v, vsX[j]? = some v → u1.val.cell? (A.add j) = some v) := Lib.hid (fun y u1 => HX4.out (y.to u1.val u1.below))
  have KHx : Hid (∀ (y : Later V.heap.size V) (u1 : Later V.heap.size y.val) (u2 : Later V.heap.size u1.val) (ad2 : Option Addr) (c2 : Nat), u2.val.ownsRow V.heap.size 35 1 (.slice ad2 (n + rx.length : Nat) c2) (n + rx.length) (vsA ++ vsX) → Calls Try.prog 19 #[.int .i64 p, .slice ad2 (n + rx.length : Nat) c2] u2.val (Ret V.heap.size V (.int .i64 n))) := Lib.hid (fun y u1 u2 ad2 c2 h => KH2.out ((y.to u1.val u1.below).to u2.val u2.below) ad2 c2 h)
  have q1 : ∀ (y : Later V.heap.size V) (u1 : Later V.heap.size y.val), u1.val.cell? ⟨g0, 0, none⟩ = some (.int .i64 p) ∧ u1.val.cell? ⟨g0, 1, none⟩ = some (.int .i64 C) ∧ u1.val.cell? ⟨g0, 2, none⟩ = some (.slice ax rx.length capx) ∧ u1.val.cell? ⟨ga, 0, none⟩ = some (.int .i64 p) ∧ u1.val.cell? ⟨ga, 1, none⟩ = some (.int .i64 C) ∧ u1.val.cell? ⟨ga, 2, none⟩ = some (.slice adA n gcA) := fun y u1 => q (y.to u1.val u1.below)
  have q2 : ∀ (y : Later V.heap.size V) (u1 : Later V.heap.size y.val) (u2 : Later V.heap.size u1.val), u2.val.cell? ⟨g0, 0, none⟩ = some (.int .i64 p) ∧ u2.val.cell? ⟨g0, 1, none⟩ = some (.int .i64 C) ∧ u2.val.cell? ⟨g0, 2, none⟩ = some (.slice ax rx.length capx) ∧ u2.val.cell? ⟨ga, 0, none⟩ = some (.int .i64 p) ∧ u2.val.cell? ⟨ga, 1, none⟩ = some (.int .i64 C) ∧ u2.val.cell? ⟨ga, 2, none⟩ = some (.slice adA n gcA) := fun y u1 u2 => q ((y.to u1.val u1.below).to u2.val u2.below)
  go_region_held3 (fun w' => w'.cell? ⟨g0, 0, none⟩ = some (.int .i64 p) ∧ w'.cell? ⟨g0, 1, none⟩ = some (.int .i64 C) ∧ w'.cell? ⟨g0, 2, none⟩ = some (.slice ax rx.length capx) ∧ w'.cell? ⟨ga, 0, none⟩ = some (.int .i64 p) ∧ w'.cell? ⟨ga, 1, none⟩ = some (.int .i64 C) ∧ w'.cell? ⟨ga, 2, none⟩ = some (.slice adA n gcA)) (first | exact qz | exact q w3 | exact q2 y u1 u2 | exact q1 y u1 | exact q y | fail) (first | (rw [if_pos (by rfl)]; refine wp_appR (w := u1.val) _ _ (by rfl) V.heap.size u1.size ad1 n c1 vsA (by rfl) hown1 ax rx.length capx vsX (by rfl) HX1.out (HX5.out y u1) HX2.out HCap.out (n + rx.length) rfl hk2 ?_; intro u2 ad2 c2 hown2) | (rw [if_pos (by rfl)]; refine wp_appR (w := y.val) _ _ (by rfl) V.heap.size y.size none 0 0 [] (by rfl) (World.ownsRow_nil _ _ _ _) adA n gcA vsA (by rfl) HA1.out (HA5.out y) HA2.out HnA.out n hnz hk1 ?_; intro u1 ad1 c1 hown1; rw [List.nil_append] at hown1) | (go_at_call 20; (with_reducible refine (KI0.out).mono ?_); rintro e _ ⟨rfl, y, rfl⟩) | (go_at_call 19; (with_reducible refine (KHx.out y u1 u2 ad2 c2 hown2).mono ?_); rintro e _ ⟨rfl, w3, rfl⟩) | fail)
  all_goals
    clear qz KI0 KIs KH2 KHx q q1 q2 HA5 HX5 HA2 HA4 HX2 HX4 HA1 HX1 hown1 hown2 r0 r1 r2
    rcases HKA.out with ⟨rfl, rfl, rfl, rfl, h6⟩ | ⟨rfl, rfl, rfl, rfl, hk6, hkn, hisM, ⟨A, hA⟩, hsm, hnt⟩
    · have d1 := e1 w3
      obtain ⟨dd, hdd⟩ : ∃ dd, dd = (C : Int) - (n : Int) := ⟨_, rfl⟩
      have w1' : IntKind.i64.wrap ((C : Int) - (n : Int)) = dd := by rw [hdd]; exact IntWalk.i64_in _ (by omega)
      have h6d : 6 < dd := by omega
      have t0 := s0 w3
      have t1 := s1 w3
      have t2 := s2 w3
      have KG := Lib.hid (c_goneM w3 adB gcB)
      clear hdd h6
      go_wp2_with (first | (go_at_call 13; (with_reducible refine (KG.out).mono ?_); rintro e _ ⟨rfl, w4, rfl⟩) | fail)
      go_ret
      exact Ret.of (HV7.out w4) rfl
    · have d0 := e0 w3
      have d1 := e1 w3
      have d2 := e2 w3
      have w1' : IntKind.i64.wrap ((C : Int) - (n : Int)) = (k : Int) := by
        rw [show (C : Int) - (n : Int) = (k : Int) by omega]; exact IntWalk.i64_in _ (by omega)
      have h6d : ¬ 6 < (k : Int) := by omega
      have h6e : ¬ 6 < k := by omega
      have t0 := s0 w3
      have t1 := s1 w3
      have t2 := s2 w3
      have KI : Hid (Calls Try.prog 20 #[.agg #[.int .i64 p, .int .i64 C, .slice adB k gcB]] w3.val (Ret V.heap.size V (.bool true))) := Lib.hid (by
        have := c_isReduced w3 p C (mxL k C Mk) adB gcB RB.out hisM A hA.mxL
        rwa [mxL_len] at this)
      have KN : Hid (∀ w : Later V.heap.size V, Calls Try.prog 21 #[.agg #[.int .i64 p, .int .i64 C, .slice ax rx.length capx], .agg #[.int .i64 p, .int .i64 C, .slice adB k gcB]] w.val (Ret V.heap.size V (.bool true))) := Lib.hid (fun w => by
        have := c_nought w p C rx (mxL k C Mk) ax adB capx gcB RX.out RB.out hp hC8 (by omega) (by rw [mxL_len]; omega) HrX.out (fun i hi => by rw [mxL_len] at hi; rw [mxL_get hi, tabL_len]) HsX.out (fun i j hi hj => by rw [mxL_len] at hi; rw [mxL_ent hi hj]; exact hsm i j hi hj) (fun i q hi hq => by
          rw [mxL_len] at hq
          exact (dot_cg (fun j _ => Cg.refl _) (fun j hj => Cg.of_eq (mxL_ent hq hj))).trans (hnt i q hi hq))
        rwa [mxL_len] at this)
      clear hisM hA hsm hnt hkn hk6
      go_wp2_with (first | (go_at_call 20; (with_reducible refine (KI.out).mono ?_); rintro e _ ⟨rfl, w4, rfl⟩; have t2b := s2 w4; have d1b := e1 w4; have d0b := e0 w4; have d2b := e2 w4; have t0b := s0 w4; have t1b := s1 w4) | (go_at_call 21; (with_reducible refine (KN.out w4).mono ?_); rintro e _ ⟨rfl, w5, rfl⟩) | fail)
      go_ret
      exact Ret.of (HV7.out w5) rfl

theorem law_fieldRows {B : Nat} {W : World} (u : Later B W) (px cx : Int) (rx : Lls) (ax : Option Addr) (capx : Nat) (hx : RowsI B W ax rx)
    (lx : rx.length ≤ 17592186044416 ∧ (∀ i, i < rx.length → (rx.getD i []).length ≤ 17592186044416) ∧ rx.length ≤ capx ∧ (ax = none → capx = 0)) :
    Calls Try.prog 4 #[.agg #[.int .i64 px, .int .i64 cx, .slice ax rx.length capx]] u.val (Ret B W (.bool true)) := by
  by_cases h : isMatrix px cx rx
  · obtain ⟨p, rfl, hp⟩ := PrimeP.of h.1
    obtain ⟨C, rfl⟩ := Int.eq_ofNat_of_zero_le h.2.1.1
    exact law_fr_yes u p C rx ax capx hx lx.2.2.2 hp h
  · exact law_fr_no u px cx rx ax capx hx lx.1 lx.2.1 h

end Go.Proofs.Ytffnpokceomncaa
