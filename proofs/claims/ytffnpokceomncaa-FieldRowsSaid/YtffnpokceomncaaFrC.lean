
/-
  field.reduced on whatever matrix of the call's own; field.Reduced, field.Rank.
-/
import Derived.Test.YtffnpokceomncaaFrB
namespace Go.Proofs.Ytffnpokceomncaa
open Go.RowKit
set_option linter.unusedVariables false

theorem c_reduced {b : Nat} {X : World} (u : Later b X) (go gc N C p : Nat) (ad : Option Addr) (hd : Nat → Option Addr) (r cp : Nat → Nat) (M0 : Nat → Nat → Int)
    (hbx : RowL u.val go 24 [.int .i64 p, .int .i64 C, .slice ad N gc]) (hmx : Mtx b u.val ad gc N C hd r cp M0) (hgo : b ≤ go) (h1 : ∀ g, ad = some ⟨g, 0, none⟩ → g ≠ go) (h2 : 0 < C → ∀ i, i < N → r i ≠ go) (hp : PrimeP p) (hN : N ≤ 8) (hC : C ≤ 8) (hs : Small p N C M0) :
    Calls Try.prog 39 #[.pointer (some ⟨go, 0, none⟩)] u.val (RetP b X (RdRes b u.val.heap.size go N C p M0)) := by
  by_cases h0 : C = 0 ∨ N = 0
  · exact c_reduced_idle u go gc N C p ad hd r cp M0 hbx hmx hgo h0 hN hs
  · have hC0 : 0 < C := by omega
    have hN0 : 0 < N := by omega
    obtain ⟨g, rfl, hg1, hg2⟩ := hmx.some' hN0
    exact c_reduced_main u go g gc N C p hd r cp M0 ⟨hmx, hbx, hC0, ⟨hg1, h1 g rfl, hg2⟩, fun i hi => ⟨h2 hC0 i hi, (hmx.rlt hC0 hi).2⟩, hbx.lt⟩ hgo hp hN hC hs

/-- reduced rows of a matrix: as many, and which -/
def RdSt (p C N : Nat) (M0 : Nat → Nat → Int) (n : Nat) (M : Nat → Nat → Int) : Prop := ∃ (A : List Nat) (cc : Nat), A.length = n ∧ RdS p C N M0 M cc A ∧ cc ≤ C ∧ (cc = C ∨ A.length = N)

set_option maxRecDepth 100000 in
set_option maxHeartbeats 8000000 in
theorem c_fieldReduced {B : Nat} {W : World} (u : Later B W) (p C : Nat) (rows : Lls) (a : Option Addr) (cap : Nat) (h : RowsI B W a rows) (hp : PrimeP p) (hm : isMatrix (p : Int) (C : Int) rows) :
    Calls Try.prog 16 #[.agg #[.int .i64 p, .int .i64 C, .slice a rows.length cap]] u.val (RetP B W (fun v w => ∃ n M, RdSt p C rows.length (ent rows) n M ∧ MatM B p C n C M 0 v w)) := by
  have hB := u.size
  have hn6 : rows.length ≤ 6 := hm.2.2.1
  have hC8 : C ≤ 8 := by have := hm.2.1.2; omega
  have k1 : (u.val.alloc (.cells #[.int .i64 p, .int .i64 C, .slice a rows.length cap] 24)).heap.size = u.val.heap.size + 1 := by simp
  have TX : Hid (RowL ((u.val.alloc (.cells #[.int .i64 p, .int .i64 C, .slice a rows.length cap] 24)).alloc (.cells #[.int .i64 0, .int .i64 0, .slice none 0 0] 24)) u.val.heap.size 24 [.int .i64 p, .int .i64 C, .slice a rows.length cap]) := Lib.hid ((RowL.new u.val 24 _).keep ((Below.refl _ _).alloc (Nat.le_refl _) _))
  have TZ : Hid (RowL ((u.val.alloc (.cells #[.int .i64 p, .int .i64 C, .slice a rows.length cap] 24)).alloc (.cells #[.int .i64 0, .int .i64 0, .slice none 0 0] 24)) (u.val.heap.size + 1) 24 [.int .i64 0, .int .i64 0, .slice none 0 0]) := Lib.hid (by
    have h := RowL.new (u.val.alloc (.cells #[.int .i64 p, .int .i64 C, .slice a rows.length cap] 24)) 24 [.int .i64 0, .int .i64 0, .slice none 0 0]
    rwa [k1] at h)
  have HZ : Hid (((u.val.alloc (.cells #[.int .i64 p, .int .i64 C, .slice a rows.length cap] 24)).alloc (.cells #[.int .i64 0, .int .i64 0, .slice none 0 0] 24)).heap.size = u.val.heap.size + 1 + 1) := Lib.hid (by simp)
  have HV : Hid (∀ w : World, Below (u.val.heap.size + 1) ((u.val.alloc (.cells #[.int .i64 p, .int .i64 C, .slice a rows.length cap] 24)).alloc (.cells #[.int .i64 0, .int .i64 0, .slice none 0 0] 24)) w → ∃ x : Later B W, x.val = w) := Lib.hid (fun w hb => ⟨⟨w, ((u.alloc _).alloc _).below.trans (hb.mono (by omega)), by have := hb.size; simp at this; omega⟩, rfl⟩)
  have HXs : Hid (RowsI ((u.val.alloc (.cells #[.int .i64 p, .int .i64 C, .slice a rows.length cap] 24)).alloc (.cells #[.int .i64 0, .int .i64 0, .slice none 0 0] 24)).heap.size ((u.val.alloc (.cells #[.int .i64 p, .int .i64 C, .slice a rows.length cap] 24)).alloc (.cells #[.int .i64 0, .int .i64 0, .slice none 0 0] 24)) a rows) := Lib.hid (h.to ((u.alloc _).alloc _))
  have hrl : ∀ i, i < rows.length → (rows.getD i []).length = C := fun i hi => by have := (hm.2.2.2 i hi).1; omega
  have hsm : Small p rows.length C (ent rows) := fun i j hi hj => (hm.2.2.2 i hi).2 j (by rw [hrl i hi]; exact hj)
  have HSm := Lib.hid hsm
  have HRl := Lib.hid hrl
  have HM := Lib.hid hm
  clear h k1 hsm hrl hm
  go_enter Try.func16, Try.ntmps16
  go_upto_region 1 with fail
  generalize ((u.val.alloc (.cells #[.int .i64 p, .int .i64 C, .slice a rows.length cap] 24)).alloc (.cells #[.int .i64 0, .int .i64 0, .slice none 0 0] 24)) = Y at *
  generalize u.val.heap.size = g0 at *
  clear u
  have x0 : ∀ v : Later Y.heap.size Y, v.val.cell? ⟨g0, 0, none⟩ = some (.int .i64 p) := fun v => (TX.out.keep v.below).cell rfl
  have x1 : ∀ v : Later Y.heap.size Y, v.val.cell? ⟨g0, 1, none⟩ = some (.int .i64 C) := fun v => (TX.out.keep v.below).cell rfl
  have x2 : ∀ v : Later Y.heap.size Y, v.val.cell? ⟨g0, 2, none⟩ = some (.slice a rows.length cap) := fun v => (TX.out.keep v.below).cell rfl
  obtain ⟨z, hz⟩ : ∃ z : Later Y.heap.size Y, z.val = Y := ⟨Later.self _, rfl⟩
  have KX : Hid (Calls Try.prog 32 #[.agg #[.int .i64 p, .int .i64 C, .slice a rows.length cap]] z.val (Ret Y.heap.size Y (.int .i64 0))) := Lib.hid (by
    have := c_checkMatrix z p C rows a cap HXs.out (by omega) (fun i hi => by rw [HRl.out i hi]; omega)
    rwa [decide_eq_true HM.out] at this)
  have KT := Lib.hid (fun v : Later Y.heap.size Y => c_twin v (p : Int) (C : Int) rows a cap C HXs.out hn6 hC8 HRl.out)
  rw [← hz]
  clear hz
  have d0 := x0 z
  have d1 := x1 z
  have d2 := x2 z
  go_upto_region 5 with (first | (go_at_call 32; (with_reducible refine (KX.out).mono ?_); rintro e _ ⟨rfl, v1, rfl⟩; have q0a := x0 v1; have q1a := x1 v1; have q2a := x2 v1) | (go_at_call 34; (with_reducible refine (KT.out v1).mono ?_); rintro e _ ⟨_, rfl, ⟨ad, gc, hd, r, cp, rfl, hMx⟩, v2, rfl⟩) | fail)
  clear d0 d1 d2 KX KT q0a q1a q2a x0 x1 x2
  obtain ⟨y, hy⟩ : ∃ y : Later Y.heap.size Y, y.val = (v2.val.alloc (.cells #[.int .i64 p, .int .i64 C, .slice ad rows.length gc] 24)) := ⟨v2.alloc _, rfl⟩
  have HBx : Hid (RowL y.val v2.val.heap.size 24 [.int .i64 p, .int .i64 C, .slice ad rows.length gc]) := Lib.hid (by rw [hy]; exact RowL.new _ _ _)
  have KR : Hid (Calls Try.prog 39 #[.pointer (some ⟨v2.val.heap.size, 0, none⟩)] y.val (RetP Y.heap.size Y (RdRes Y.heap.size y.val.heap.size v2.val.heap.size rows.length C p (ent rows)))) := Lib.hid (by
    refine c_reduced y v2.val.heap.size gc rows.length C p ad hd r cp (ent rows) HBx.out (by rw [hy]; exact hMx.keep ((Below.refl _ _).alloc (Nat.le_refl _) _)) v2.size (fun g e => ?_) (fun hC i hi => ?_) hp (by omega) hC8 HSm.out
    · rcases hMx.form with ⟨e1, _⟩ | ⟨g', e1, _, h2⟩
      · rw [e] at e1; cases e1
      · rw [e] at e1; cases e1; omega
    · have := (hMx.rlt hC hi).2; omega)
  have hgo := v2.size
  rw [← hy]
  generalize v2.val.heap.size = go at *
  clear hy hMx v1 v2
  go_upto_region 6 with (first | (go_at_call 39; (with_reducible refine (KR.out).mono ?_); rintro e _ ⟨_, rfl, ⟨A, M, cc, ada, cpa, ad', gc', hd', r', cp', rfl, hO, hR, hcc, hend, hbx, hmx⟩, v3, rfl⟩) | fail)
  have HT := Lib.hid (TZ.out.keep v3.below)
  have F0 : v3.val.cell? ⟨go, 0, none⟩ = some (.int .i64 p) := hbx.cell rfl
  have F1 : v3.val.cell? ⟨go, 1, none⟩ = some (.int .i64 C) := hbx.cell rfl
  have F2 : v3.val.cell? ⟨go, 2, none⟩ = some (.slice ad' A.length gc') := hbx.cell rfl
  have Z0 : v3.val.frozen? ⟨g0 + 1, 0, none⟩ = false := HT.out.fz 0
  have Z1 : ∀ x : Value, (v3.val.setCell ⟨g0 + 1, 0, none⟩ x).frozen? ⟨g0 + 1, 1, none⟩ = false := fun x => (HT.out.set 0 x).fz 1
  have Z2 : ∀ x y : Value, ((v3.val.setCell ⟨g0 + 1, 0, none⟩ x).setCell ⟨g0 + 1, 1, none⟩ y).frozen? ⟨g0 + 1, 2, none⟩ = false := fun x y => ((HT.out.set 0 x).set 1 y).fz 2
  have G0 : v3.val.cell? ⟨g0 + 1, 0, none⟩ = some (.int .i64 0) := HT.out.cell rfl
  have G1 : ∀ x : Value, (v3.val.setCell ⟨g0 + 1, 0, none⟩ x).cell? ⟨g0 + 1, 1, none⟩ = some (.int .i64 0) := fun x => (HT.out.set 0 x).cell rfl
  have G2 : ∀ x y : Value, ((v3.val.setCell ⟨g0 + 1, 0, none⟩ x).setCell ⟨g0 + 1, 1, none⟩ y).cell? ⟨g0 + 1, 2, none⟩ = some (.slice none 0 0) := fun x y => ((HT.out.set 0 x).set 1 y).cell rfl
  have hYs := HZ.out
  have HX : Hid (∃ x : Later B W, x.val = (((v3.val.setCell ⟨g0 + 1, 0, none⟩ (.int .i64 p)).setCell ⟨g0 + 1, 1, none⟩ (.int .i64 C)).setCell ⟨g0 + 1, 2, none⟩ (.slice ad' A.length gc'))) := Lib.hid (HV.out _ ((((v3.below.mono (by omega)).trans (below_set (Nat.le_refl _) (.int .i64 p))).trans (below_set (Nat.le_refl _) (.int .i64 C))).trans (below_set (i := 2) (Nat.le_refl _) (.slice ad' A.length gc'))))
  have HMf : Hid (Mtx Y.heap.size v3.val ad' gc' A.length C hd' r' cp' M) := Lib.hid hmx
  have HSt : Hid (RdSt p C rows.length (ent rows) A.length M) := Lib.hid ⟨A, cc, rfl, hR, hcc, hend⟩
  clear hO hR hcc hend hbx hmx HBx KR TX TZ HV HXs HSm HRl HM
  go_wp2
  refine bodyPost_ret (results_row (vs := [.int .i64 p, .int .i64 C, .slice ad' A.length gc']) rfl _ _ (g0 + 1) rfl (((HT.out.set 0 _).set 1 _).set 2 _) Try.underlying24 (by kernel_rfl)) rfl ?_
  refine RetP.of HX.out ⟨A.length, M, HSt.out, ad', gc', hd', r', cp', rfl, (((HMf.out.old (by omega) _).old (by omega) _).old (by omega) _).mono (by omega)⟩

set_option maxRecDepth 100000 in
set_option maxHeartbeats 8000000 in
theorem c_fieldReduced_no {B : Nat} {W : World} (u : Later B W) (p C : Int) (rows : Lls) (a : Option Addr) (cap : Nat) (h : RowsI B W a rows) (hl : rows.length ≤ 17592186044416) (hrl : ∀ i, i < rows.length → (rows.getD i []).length ≤ 17592186044416) (hm : ¬ isMatrix p C rows) :
    Calls Try.prog 16 #[.agg #[.int .i64 p, .int .i64 C, .slice a rows.length cap]] u.val (Ret B W (.tuple #[.agg #[.int .i64 0, .int .i64 0, .slice none 0 0], .int .i64 1])) := by
  have hB := u.size
  have k1 : (u.val.alloc (.cells #[.int .i64 p, .int .i64 C, .slice a rows.length cap] 24)).heap.size = u.val.heap.size + 1 := by simp
  have TX : Hid (RowL ((u.val.alloc (.cells #[.int .i64 p, .int .i64 C, .slice a rows.length cap] 24)).alloc (.cells #[.int .i64 0, .int .i64 0, .slice none 0 0] 24)) u.val.heap.size 24 [.int .i64 p, .int .i64 C, .slice a rows.length cap]) := Lib.hid ((RowL.new u.val 24 _).keep ((Below.refl _ _).alloc (Nat.le_refl _) _))
  have TZ : Hid (RowL ((u.val.alloc (.cells #[.int .i64 p, .int .i64 C, .slice a rows.length cap] 24)).alloc (.cells #[.int .i64 0, .int .i64 0, .slice none 0 0] 24)) (u.val.heap.size + 1) 24 [.int .i64 0, .int .i64 0, .slice none 0 0]) := Lib.hid (by
    have h := RowL.new (u.val.alloc (.cells #[.int .i64 p, .int .i64 C, .slice a rows.length cap] 24)) 24 [.int .i64 0, .int .i64 0, .slice none 0 0]
    rwa [k1] at h)
  have HZ : Hid (((u.val.alloc (.cells #[.int .i64 p, .int .i64 C, .slice a rows.length cap] 24)).alloc (.cells #[.int .i64 0, .int .i64 0, .slice none 0 0] 24)).heap.size = u.val.heap.size + 1 + 1) := Lib.hid (by simp)
  have HV : Hid (∀ w : World, Below (u.val.heap.size + 1) ((u.val.alloc (.cells #[.int .i64 p, .int .i64 C, .slice a rows.length cap] 24)).alloc (.cells #[.int .i64 0, .int .i64 0, .slice none 0 0] 24)) w → ∃ x : Later B W, x.val = w) := Lib.hid (fun w hb => ⟨⟨w, ((u.alloc _).alloc _).below.trans (hb.mono (by omega)), by have := hb.size; simp at this; omega⟩, rfl⟩)
  have HXs : Hid (RowsI ((u.val.alloc (.cells #[.int .i64 p, .int .i64 C, .slice a rows.length cap] 24)).alloc (.cells #[.int .i64 0, .int .i64 0, .slice none 0 0] 24)).heap.size ((u.val.alloc (.cells #[.int .i64 p, .int .i64 C, .slice a rows.length cap] 24)).alloc (.cells #[.int .i64 0, .int .i64 0, .slice none 0 0] 24)) a rows) := Lib.hid (h.to ((u.alloc _).alloc _))
  have HRl := Lib.hid hrl
  clear h k1 hrl
  go_enter Try.func16, Try.ntmps16
  go_upto_region 1 with fail
  generalize ((u.val.alloc (.cells #[.int .i64 p, .int .i64 C, .slice a rows.length cap] 24)).alloc (.cells #[.int .i64 0, .int .i64 0, .slice none 0 0] 24)) = Y at *
  generalize u.val.heap.size = g0 at *
  clear u
  have x0 : ∀ v : Later Y.heap.size Y, v.val.cell? ⟨g0, 0, none⟩ = some (.int .i64 p) := fun v => (TX.out.keep v.below).cell rfl
  have x1 : ∀ v : Later Y.heap.size Y, v.val.cell? ⟨g0, 1, none⟩ = some (.int .i64 C) := fun v => (TX.out.keep v.below).cell rfl
  have x2 : ∀ v : Later Y.heap.size Y, v.val.cell? ⟨g0, 2, none⟩ = some (.slice a rows.length cap) := fun v => (TX.out.keep v.below).cell rfl
  obtain ⟨z, hz⟩ : ∃ z : Later Y.heap.size Y, z.val = Y := ⟨Later.self _, rfl⟩
  have KX : Hid (Calls Try.prog 32 #[.agg #[.int .i64 p, .int .i64 C, .slice a rows.length cap]] z.val (Ret Y.heap.size Y (.int .i64 1))) := Lib.hid (by
    have := c_checkMatrix z p C rows a cap HXs.out hl HRl.out
    rwa [decide_eq_false hm] at this)
  rw [← hz]
  clear hz hm
  have d0 := x0 z
  have d1 := x1 z
  have d2 := x2 z
  go_upto_region 2 with (first | (go_at_call 32; (with_reducible refine (KX.out).mono ?_); rintro e _ ⟨rfl, v3, rfl⟩) | fail)
  clear d0 d1 d2 KX x0 x1 x2
  have HT := Lib.hid (TZ.out.keep v3.below)
  have Z0 : v3.val.frozen? ⟨g0 + 1, 0, none⟩ = false := HT.out.fz 0
  have Z1 : ∀ x : Value, (v3.val.setCell ⟨g0 + 1, 0, none⟩ x).frozen? ⟨g0 + 1, 1, none⟩ = false := fun x => (HT.out.set 0 x).fz 1
  have Z2 : ∀ x y : Value, ((v3.val.setCell ⟨g0 + 1, 0, none⟩ x).setCell ⟨g0 + 1, 1, none⟩ y).frozen? ⟨g0 + 1, 2, none⟩ = false := fun x y => ((HT.out.set 0 x).set 1 y).fz 2
  have G0 : v3.val.cell? ⟨g0 + 1, 0, none⟩ = some (.int .i64 0) := HT.out.cell rfl
  have G1 : ∀ x : Value, (v3.val.setCell ⟨g0 + 1, 0, none⟩ x).cell? ⟨g0 + 1, 1, none⟩ = some (.int .i64 0) := fun x => (HT.out.set 0 x).cell rfl
  have G2 : ∀ x y : Value, ((v3.val.setCell ⟨g0 + 1, 0, none⟩ x).setCell ⟨g0 + 1, 1, none⟩ y).cell? ⟨g0 + 1, 2, none⟩ = some (.slice none 0 0) := fun x y => ((HT.out.set 0 x).set 1 y).cell rfl
  have hYs := HZ.out
  have HX : Hid (∃ x : Later B W, x.val = (((v3.val.setCell ⟨g0 + 1, 0, none⟩ (.int .i64 0)).setCell ⟨g0 + 1, 1, none⟩ (.int .i64 0)).setCell ⟨g0 + 1, 2, none⟩ (.slice none 0 0))) := Lib.hid (HV.out _ ((((v3.below.mono (by omega)).trans (below_set (Nat.le_refl _) (.int .i64 0))).trans (below_set (Nat.le_refl _) (.int .i64 0))).trans (below_set (i := 2) (Nat.le_refl _) (.slice none 0 0))))
  clear TX TZ HV HXs HRl hl
  go_wp2
  refine bodyPost_ret (results_row (vs := [.int .i64 0, .int .i64 0, .slice none 0 0]) rfl _ _ (g0 + 1) rfl (((HT.out.set 0 _).set 1 _).set 2 _) Try.underlying24 (by kernel_rfl)) rfl ?_
  exact Ret.of HX.out rfl

set_option maxRecDepth 100000 in
set_option maxHeartbeats 8000000 in
theorem c_fieldRank {B : Nat} {W : World} (u : Later B W) (p C : Nat) (rows : Lls) (a : Option Addr) (cap : Nat) (h : RowsI B W a rows) (hp : PrimeP p) (hm : isMatrix (p : Int) (C : Int) rows) :
    Calls Try.prog 17 #[.agg #[.int .i64 p, .int .i64 C, .slice a rows.length cap]] u.val (RetP B W (fun v w => ∃ n M, RdSt p C rows.length (ent rows) n M ∧ v = .tuple #[.int .i64 n, .int .i64 0])) := by
  have hB := u.size
  have hn6 : rows.length ≤ 6 := hm.2.2.1
  have hC8 : C ≤ 8 := by have := hm.2.1.2; omega
  have TX : Hid (RowL (u.val.alloc (.cells #[.int .i64 p, .int .i64 C, .slice a rows.length cap] 24)) u.val.heap.size 24 [.int .i64 p, .int .i64 C, .slice a rows.length cap]) := Lib.hid (RowL.new u.val 24 _)
  have HV : Hid (∀ v : Later (u.val.alloc (.cells #[.int .i64 p, .int .i64 C, .slice a rows.length cap] 24)).heap.size (u.val.alloc (.cells #[.int .i64 p, .int .i64 C, .slice a rows.length cap] 24)), ∃ x : Later B W, x.val = v.val) := Lib.hid (fun v => ⟨(u.alloc _).up v, rfl⟩)
  have HXs : Hid (RowsI (u.val.alloc (.cells #[.int .i64 p, .int .i64 C, .slice a rows.length cap] 24)).heap.size (u.val.alloc (.cells #[.int .i64 p, .int .i64 C, .slice a rows.length cap] 24)) a rows) := Lib.hid (h.to (u.alloc _))
  have hrl : ∀ i, i < rows.length → (rows.getD i []).length = C := fun i hi => by have := (hm.2.2.2 i hi).1; omega
  have hsm : Small p rows.length C (ent rows) := fun i j hi hj => (hm.2.2.2 i hi).2 j (by rw [hrl i hi]; exact hj)
  have HSm := Lib.hid hsm
  have HRl := Lib.hid hrl
  have HM := Lib.hid hm
  clear h hsm hrl hm
  go_enter Try.func17, Try.ntmps17
  go_upto_region 1 with fail
  generalize (u.val.alloc (.cells #[.int .i64 p, .int .i64 C, .slice a rows.length cap] 24)) = Y at *
  generalize u.val.heap.size = g0 at *
  clear u
  have x0 : ∀ v : Later Y.heap.size Y, v.val.cell? ⟨g0, 0, none⟩ = some (.int .i64 p) := fun v => (TX.out.keep v.below).cell rfl
  have x1 : ∀ v : Later Y.heap.size Y, v.val.cell? ⟨g0, 1, none⟩ = some (.int .i64 C) := fun v => (TX.out.keep v.below).cell rfl
  have x2 : ∀ v : Later Y.heap.size Y, v.val.cell? ⟨g0, 2, none⟩ = some (.slice a rows.length cap) := fun v => (TX.out.keep v.below).cell rfl
  obtain ⟨z, hz⟩ : ∃ z : Later Y.heap.size Y, z.val = Y := ⟨Later.self _, rfl⟩
  have KX : Hid (Calls Try.prog 32 #[.agg #[.int .i64 p, .int .i64 C, .slice a rows.length cap]] z.val (Ret Y.heap.size Y (.int .i64 0))) := Lib.hid (by
    have := c_checkMatrix z p C rows a cap HXs.out (by omega) (fun i hi => by rw [HRl.out i hi]; omega)
    rwa [decide_eq_true HM.out] at this)
  have KT := Lib.hid (fun v : Later Y.heap.size Y => c_twin v (p : Int) (C : Int) rows a cap C HXs.out hn6 hC8 HRl.out)
  rw [← hz]
  clear hz
  have d0 := x0 z
  have d1 := x1 z
  have d2 := x2 z
  go_upto_region 5 with (first | (go_at_call 32; (with_reducible refine (KX.out).mono ?_); rintro e _ ⟨rfl, v1, rfl⟩; have q0a := x0 v1; have q1a := x1 v1; have q2a := x2 v1) | (go_at_call 34; (with_reducible refine (KT.out v1).mono ?_); rintro e _ ⟨_, rfl, ⟨ad, gc, hd, r, cp, rfl, hMx⟩, v2, rfl⟩) | fail)
  clear d0 d1 d2 KX KT q0a q1a q2a x0 x1 x2
  obtain ⟨y, hy⟩ : ∃ y : Later Y.heap.size Y, y.val = (v2.val.alloc (.cells #[.int .i64 p, .int .i64 C, .slice ad rows.length gc] 24)) := ⟨v2.alloc _, rfl⟩
  have HBx : Hid (RowL y.val v2.val.heap.size 24 [.int .i64 p, .int .i64 C, .slice ad rows.length gc]) := Lib.hid (by rw [hy]; exact RowL.new _ _ _)
  have KR : Hid (Calls Try.prog 39 #[.pointer (some ⟨v2.val.heap.size, 0, none⟩)] y.val (RetP Y.heap.size Y (RdRes Y.heap.size y.val.heap.size v2.val.heap.size rows.length C p (ent rows)))) := Lib.hid (by
    refine c_reduced y v2.val.heap.size gc rows.length C p ad hd r cp (ent rows) HBx.out (by rw [hy]; exact hMx.keep ((Below.refl _ _).alloc (Nat.le_refl _) _)) v2.size (fun g e => ?_) (fun hC i hi => ?_) hp (by omega) hC8 HSm.out
    · rcases hMx.form with ⟨e1, _⟩ | ⟨g', e1, _, h2⟩
      · rw [e] at e1; cases e1
      · rw [e] at e1; cases e1; omega
    · have := (hMx.rlt hC hi).2; omega)
  have hgo := v2.size
  rw [← hy]
  generalize v2.val.heap.size = go at *
  clear hy hMx v1 v2
  go_wp2_with (first | (go_at_call 39; (with_reducible refine (KR.out).mono ?_); rintro e _ ⟨_, rfl, ⟨A, M, cc, ada, cpa, ad', gc', hd', r', cp', rfl, hO, hR, hcc, hend, hbx, hmx⟩, v3, rfl⟩) | fail)
  go_ret2
  exact RetP.of (HV.out v3) ⟨A.length, M, ⟨A, cc, rfl, hR, hcc, hend⟩, rfl⟩

set_option maxRecDepth 100000 in
set_option maxHeartbeats 8000000 in
theorem c_fieldRank_no {B : Nat} {W : World} (u : Later B W) (p C : Int) (rows : Lls) (a : Option Addr) (cap : Nat) (h : RowsI B W a rows) (hl : rows.length ≤ 17592186044416) (hrl : ∀ i, i < rows.length → (rows.getD i []).length ≤ 17592186044416) (hm : ¬ isMatrix p C rows) :
    Calls Try.prog 17 #[.agg #[.int .i64 p, .int .i64 C, .slice a rows.length cap]] u.val (Ret B W (.tuple #[.int .i64 0, .int .i64 1])) := by
  have TX : Hid (RowL (u.val.alloc (.cells #[.int .i64 p, .int .i64 C, .slice a rows.length cap] 24)) u.val.heap.size 24 [.int .i64 p, .int .i64 C, .slice a rows.length cap]) := Lib.hid (RowL.new u.val 24 _)
  have HV : Hid (∀ v : Later (u.val.alloc (.cells #[.int .i64 p, .int .i64 C, .slice a rows.length cap] 24)).heap.size (u.val.alloc (.cells #[.int .i64 p, .int .i64 C, .slice a rows.length cap] 24)), ∃ x : Later B W, x.val = v.val) := Lib.hid (fun v => ⟨(u.alloc _).up v, rfl⟩)
  have KX : Hid (Calls Try.prog 32 #[.agg #[.int .i64 p, .int .i64 C, .slice a rows.length cap]] (u.val.alloc (.cells #[.int .i64 p, .int .i64 C, .slice a rows.length cap] 24)) (Ret (u.val.alloc (.cells #[.int .i64 p, .int .i64 C, .slice a rows.length cap] 24)).heap.size (u.val.alloc (.cells #[.int .i64 p, .int .i64 C, .slice a rows.length cap] 24)) (.int .i64 1))) := Lib.hid (by
    have := c_checkMatrix (Later.self (u.val.alloc (.cells #[.int .i64 p, .int .i64 C, .slice a rows.length cap] 24))) p C rows a cap (h.to (u.alloc _)) hl hrl
    rwa [decide_eq_false hm] at this)
  clear h hrl hm
  go_enter Try.func17, Try.ntmps17
  go_upto_region 1 with fail
  generalize (u.val.alloc (.cells #[.int .i64 p, .int .i64 C, .slice a rows.length cap] 24)) = Y at *
  generalize u.val.heap.size = g0 at *
  have x0 : Y.cell? ⟨g0, 0, none⟩ = some (.int .i64 p) := TX.out.cell rfl
  have x1 : Y.cell? ⟨g0, 1, none⟩ = some (.int .i64 C) := TX.out.cell rfl
  have x2 : Y.cell? ⟨g0, 2, none⟩ = some (.slice a rows.length cap) := TX.out.cell rfl
  go_wp2_with (first | (go_at_call 32; (with_reducible refine (KX.out).mono ?_); rintro e _ ⟨rfl, v3, rfl⟩) | fail)
  go_ret2
  exact Ret.of (HV.out v3) rfl

end Go.Proofs.Ytffnpokceomncaa
