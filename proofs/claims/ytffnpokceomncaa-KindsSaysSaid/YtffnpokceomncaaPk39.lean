
/-
  kinds.Linear, rotaref.Linear.
  The least and the greatest sets of a family, its blocker and its shadow, GALE's order: plainly.
  convex.Check and rotaref.Antimatroid: both say the same of a family (ChkIs): 1, it is no family; 3, it is no antimatroid; 0.
-/
import Derived.Test.YtffnpokceomncaaPk26
import Derived.Test.YtffnpokceomncaaPk33
import Derived.Test.YtffnpokceomncaaPk27
import Derived.Test.YtffnpokceomncaaPk35
import Derived.Test.YtffnpokceomncaaPk37
import Derived.Test.YtffnpokceomncaaPk38
import Derived.Deep.RegionHeld3
import Derived.Test.YtffnpokceomncaaPk17
import Derived.Test.YtffnpokceomncaaPk34
import Derived.Test.YtffnpokceomncaaPk12
import Derived.Test.YtffnpokceomncaaPk01
namespace Go.Proofs.Ytffnpokceomncaa
open Go.RowKit
set_option linter.unusedVariables false

/-- no column of these hangs on others -/
noncomputable def linB (p : Nat) (rows : Lls) (s : Nat) : Bool := decide (rhoC p rows.length (ent rows) s = sz s)
set_option maxRecDepth 100000 in
set_option maxHeartbeats 4000000 in
theorem c_kLinTell {B : Nat} {W : World} (u : Later B W) (p C : Nat) (rows : Lls) (a : Option Addr) (cap gl : Nat) (h : RowsI B W a rows) (hp : PrimeP p) (hm : isMatrix (p : Int) (C : Int) rows) (hg : gl < B) (hc : RowL W gl 24 [.int .i64 p, .int .i64 C, .slice a rows.length cap]) (s : Nat) (hs : s < bit C) :
    Calls Try.prog 53 #[.int .i64 s, .pointer (some ⟨gl, 0, none⟩)] u.val (Ret B W (.bool (linB p rows s))) := by
  have hC8 : C ≤ 8 := by have := hm.2.1.2; omega
  have hs8 : s < 256 := by have := bit_le C hC8; omega
  have hb := hc.keep_at u.below hg
  have q0 : u.val.cell? ⟨gl, 0, none⟩ = some (.int .i64 p) := hb.cell rfl
  have q1 : u.val.cell? ⟨gl, 1, none⟩ = some (.int .i64 C) := hb.cell rfl
  have q2 : u.val.cell? ⟨gl, 2, none⟩ = some (.slice a rows.length cap) := hb.cell rfl
  obtain ⟨bb, hbb⟩ : ∃ bb, bb = linB p rows s := ⟨_, rfl⟩
  have KR : Hid (Calls Try.prog 54 #[.agg #[.int .i64 p, .int .i64 C, .slice a rows.length cap], .int .i64 s] u.val (RetP B W (fun v w => ∃ r : Nat, v = .int .i64 r ∧ ((r : Int) == (sz s : Int)) = bb ∧ (r == sz s) = bb))) := Lib.hid (by
    refine (c_rankOf u p C s rows a cap h hp hm hs).mono ?_
    rintro e _ ⟨_, rfl, ⟨r, rfl, hr⟩, v, rfl⟩
    refine ⟨_, rfl, ⟨r, rfl, ?_, ?_⟩, v, rfl⟩
    · rw [hbb]
      unfold linB
      rw [Bool.eq_iff_iff, beq_iff_eq, decide_eq_true_eq, ← hr]
      omega
    · rw [hbb]
      unfold linB
      rw [Bool.eq_iff_iff, beq_iff_eq, decide_eq_true_eq, ← hr])
  have KS := Lib.hid (fun w : Later B W => c_kSize w s hs8)
  rw [← hbb]
  clear h hm hc hb hbb hs
  generalize sz s = ss at *
  go_enter Try.func53, Try.ntmps53
  go_wp2_with (first | (go_at_call 54; (with_reducible refine (KR.out).mono ?_); rintro e _ ⟨_, rfl, ⟨r, rfl, hr1, hr2⟩, v, rfl⟩) | (go_at_call 55; (with_reducible refine (KS.out v).mono ?_); rintro e _ ⟨rfl, v2, rfl⟩) | fail)
  go_ret
  exact Ret.mk v2 rfl

set_option maxRecDepth 100000 in
set_option maxHeartbeats 8000000 in
theorem c_kLinear {B : Nat} {W : World} (u : Later B W) (p c : Int) (rows : Lls) (a : Option Addr) (cap : Nat) (e n' : Int) (xs' : List Int) (h : RowsI B W a rows) (hlen : rows.length ≤ 17592186044416) (hrl : ∀ i, i < rows.length → (rows.getD i []).length ≤ 17592186044416) (he : e = errno (decide (isMatrix p c rows)) 1) (hz : ZIf e n' xs')
    (hy : e = 0 → ∃ P C : Nat, p = (P : Int) ∧ c = (C : Int) ∧ PrimeP P ∧ isMatrix (P : Int) (C : Int) rows ∧ n' = (C : Nat) ∧ xs' = ints (biggest (those C (linB P rows)))) :
    Calls Try.prog 30 #[.agg #[.int .i64 p, .int .i64 c, .slice a rows.length cap]] u.val (RetP B W (MatTO B n' xs' e)) := by
  have hB := u.size
  have k1 : (u.val.alloc (.cells #[.int .i64 p, .int .i64 c, .slice a rows.length cap] 24)).heap.size = u.val.heap.size + 1 := by simp
  have X1 : RowL ((u.val.alloc (.cells #[.int .i64 p, .int .i64 c, .slice a rows.length cap] 24)).alloc (.cells #[.int .i64 0, .slice none 0 0] 45)) u.val.heap.size 24 [.int .i64 p, .int .i64 c, .slice a rows.length cap] := (RowL.new u.val _ _).keep ((Below.refl _ _).alloc (Nat.le_refl _) _)
  have X2 : RowL ((u.val.alloc (.cells #[.int .i64 p, .int .i64 c, .slice a rows.length cap] 24)).alloc (.cells #[.int .i64 0, .slice none 0 0] 45)) (u.val.heap.size + 1) 45 [.int .i64 0, .slice none 0 0] := by
    have h := RowL.new (u.val.alloc (.cells #[.int .i64 p, .int .i64 c, .slice a rows.length cap] 24)) 45 [.int .i64 0, .slice none 0 0]
    rwa [k1] at h
  have hYs : ((u.val.alloc (.cells #[.int .i64 p, .int .i64 c, .slice a rows.length cap] 24)).alloc (.cells #[.int .i64 0, .slice none 0 0] 45)).heap.size = u.val.heap.size + 2 := by simp
  have HVY : Hid (∀ v : Later ((u.val.alloc (.cells #[.int .i64 p, .int .i64 c, .slice a rows.length cap] 24)).alloc (.cells #[.int .i64 0, .slice none 0 0] 45)).heap.size ((u.val.alloc (.cells #[.int .i64 p, .int .i64 c, .slice a rows.length cap] 24)).alloc (.cells #[.int .i64 0, .slice none 0 0] 45)), ∃ w : Later B W, w.val = v.val) := Lib.hid (fun v => ⟨((u.alloc _).alloc _).up v, rfl⟩)
  have HI : Hid (RowsI ((u.val.alloc (.cells #[.int .i64 p, .int .i64 c, .slice a rows.length cap] 24)).alloc (.cells #[.int .i64 0, .slice none 0 0] 45)).heap.size ((u.val.alloc (.cells #[.int .i64 p, .int .i64 c, .slice a rows.length cap] 24)).alloc (.cells #[.int .i64 0, .slice none 0 0] 45)) a rows) := Lib.hid (h.to ((u.alloc _).alloc _))
  have HX := Lib.hid X2
  have HX1 := Lib.hid X1
  have HYs := Lib.hid hYs
  have HE := Lib.hid he
  have HRl := Lib.hid hrl
  clear h he k1 X1 X2 hYs hrl
  go_enter Try.func30, Try.ntmps30
  go_upto_region 1 with fail
  generalize ((u.val.alloc (.cells #[.int .i64 p, .int .i64 c, .slice a rows.length cap] 24)).alloc (.cells #[.int .i64 0, .slice none 0 0] 45)) = Y at *
  generalize u.val.heap.size = gu at *
  have hgY : gu + 1 < Y.heap.size := by have := HYs.out; omega
  have hgY0 : gu < Y.heap.size := by omega
  have q0 : ∀ v : Later Y.heap.size Y, v.val.cell? ⟨gu, 0, none⟩ = some (.int .i64 p) := fun v => (HX1.out.keep v.below).cell rfl
  have q1 : ∀ v : Later Y.heap.size Y, v.val.cell? ⟨gu, 1, none⟩ = some (.int .i64 c) := fun v => (HX1.out.keep v.below).cell rfl
  have q2 : ∀ v : Later Y.heap.size Y, v.val.cell? ⟨gu, 2, none⟩ = some (.slice a rows.length cap) := fun v => (HX1.out.keep v.below).cell rfl
  have f0 : ∀ (w : Later Y.heap.size Y), w.val.cell? ⟨gu + 1, 0, none⟩ = some (.int .i64 0) := fun w => (HX.out.keep_at w.below hgY).cell rfl
  have z0 : ∀ (w : Later Y.heap.size Y), w.val.frozen? ⟨gu + 1, 0, none⟩ = false := fun w => (HX.out.keep_at w.below hgY).fz 0
  have f1 : ∀ (w : Later Y.heap.size Y) (x0 : Value), (w.val.setCell ⟨gu + 1, 0, none⟩ x0).cell? ⟨gu + 1, 1, none⟩ = some (.slice none 0 0) := fun w x0 => ((HX.out.keep_at w.below hgY).set 0 x0).cell rfl
  have z1 : ∀ (w : Later Y.heap.size Y) (x0 : Value), (w.val.setCell ⟨gu + 1, 0, none⟩ x0).frozen? ⟨gu + 1, 1, none⟩ = false := fun w x0 => ((HX.out.keep_at w.below hgY).set 0 x0).fz 1
  have hfin : ∀ (v : Later Y.heap.size Y) (nn : Int) (ad : Option Addr) (cp : Nat) (xs : List Int) (ee : Int) (tm : Array Value), Own Y.heap.size v.val ad cp xs → tm.getD 2 undef = .pointer (some ⟨gu + 1, 0, none⟩) → tm.getD 3 undef = .int .i64 ee → nn = n' → xs = xs' → ee = e → bodyPost Try.prog Try.f30 (RetP B W (MatTO B n' xs' e)) .ret { tmps := tm, defers := [] } ((v.val.setCell ⟨gu + 1, 0, none⟩ (.int .i64 nn)).setCell ⟨gu + 1, 1, none⟩ (.slice ad xs.length cp)) := fun v nn ad cp xs ee tm hO h4 h5 e1 e2 e3 => by
    subst e1 e2 e3
    refine bodyPost_ret (results_row (vs := [.int .i64 nn, .slice ad xs.length cp]) rfl _ _ (gu + 1) h4 (((HX.out.keep v.below).set 0 _).set 1 _) Try.underlying45 (by kernel_rfl)) rfl ?_
    obtain ⟨x1, hx1⟩ := later_set (HVY.out v) (g := gu + 1) (i := 0) (by omega) (.int .i64 nn)
    obtain ⟨x2, hx2⟩ := later_set ⟨x1, hx1⟩ (g := gu + 1) (i := 1) (by omega) (.slice ad xs.length cp)
    exact RetP.of ⟨x2, hx2⟩ ⟨ad, cp, by rw [h5], ((hO.set hgY _).set hgY _).mono (by omega)⟩
  have HF := Lib.hid hfin
  have HNo : Hid (e ≠ 0 → 0 = n' ∧ [] = xs') := Lib.hid (fun h => by have := hz h; exact ⟨this.1.symm, this.2.symm⟩)
  have KF : Hid (∀ v : Later Y.heap.size Y, Calls Try.prog 32 #[.agg #[.int .i64 p, .int .i64 c, .slice a rows.length cap]] v.val (Ret Y.heap.size Y (.int .i64 e))) := Lib.hid (fun v => by rw [HE.out]; exact c_checkMatrix v p c rows a cap HI.out hlen HRl.out)
  clear hfin hz
  obtain ⟨z, hzz⟩ : ∃ z : Later Y.heap.size Y, z.val = Y := ⟨Later.self _, rfl⟩
  rw [← hzz]
  clear hzz
  have q0z := q0 z
  have q1z := q1 z
  have q2z := q2 z
  by_cases hfam : isMatrix p c rows
  case neg =>
    have e1 := Lib.hid (show e = 1 by rw [HE.out, decide_eq_false hfam]; rfl)
    have hno := Lib.hid (HNo.out (by have := e1.out; omega))
    rw [e1.out] at KF
    clear hfam
    go_wp2_with (first | (go_at_call 32; (with_reducible refine (KF.out _).mono ?_); rintro e _ ⟨rfl, v, rfl⟩) | fail)
    refine HF.out v 0 none 0 [] 1 _ (Own.nil _ _) ?_ ?_ hno.out.1 hno.out.2 e1.out.symm <;> rfl
  have e1 := Lib.hid (show e = 0 by rw [HE.out, decide_eq_true hfam]; rfl)
  obtain ⟨P, C, rfl, rfl, hP, hM, hn', hxs'⟩ := hy e1.out
  rw [e1.out] at KF
  have hC8 : C ≤ 8 := by have := hM.2.1.2; omega
  have KG : Hid (∀ x : Later Y.heap.size Y, Calls Try.prog 50 #[.int .i64 C, .func (.func 53) #[] #[.pointer (some ⟨gu, 0, none⟩)]] x.val (RetP Y.heap.size Y (MatO Y.heap.size C (ints (biggest (those C (linB P rows))))))) := Lib.hid (fun x => c_greatest x C hC8 53 _ (linB P rows) (fun args w => by kernel_rfl) (fun x v s hs => by
    have hxz := x.size
    exact c_kLinTell v P C rows a cap gu (HI.out.to x) hP hM (by omega) (HX1.out.keep x.below) s hs))
  have HH := Lib.hid (And.intro hn' (And.intro hxs' e1.out))
  clear hn' hxs' hy e1 hfam hM
  generalize ints (biggest (those C (linB P rows))) = A at *
  go_upto_region 4 with (first | (go_at_call 32; (with_reducible refine (KF.out _).mono ?_); rintro e _ ⟨rfl, v, rfl⟩))
  clear z q0z q1z q2z KF
  have q0v := q0 v
  have q1v := q1 v
  have q2v := q2 v
  go_wp2_with (first | (go_at_call 50; (with_reducible refine (KG.out _).mono ?_); rintro e _ ⟨_, rfl, ⟨ad, cp, rfl, hO⟩, v2, rfl⟩) | fail)
  refine HF.out v2 _ ad cp A 0 _ hO ?_ ?_ HH.out.1.symm HH.out.2.1.symm HH.out.2.2.symm <;> rfl

set_option maxRecDepth 100000 in
set_option maxHeartbeats 8000000 in
theorem c_refLinTell {B : Nat} {W : World} (u : Later B W) (p C : Nat) (rows : Lls) (a : Option Addr) (cap gl : Nat) (h : RowsI B W a rows) (hp : PrimeP p) (hm : isMatrix (p : Int) (C : Int) rows) (hg : gl < B) (hc : RowL W gl 24 [.int .i64 p, .int .i64 C, .slice a rows.length cap]) (s : Nat) (hs : s < bit C) :
    Calls Try.prog 48 #[.int .i64 s, .pointer (some ⟨gl, 0, none⟩)] u.val (Ret B W (.int .i64 (rhoC p rows.length (ent rows) s : Nat))) := by
  have hC8 : C ≤ 8 := by have := hm.2.1.2; omega
  have hN6 : rows.length ≤ 6 := hm.2.2.1
  have hs8 : s < 256 := by have := bit_le C hC8; omega
  have hrl : ∀ i, i < rows.length → (rows.getD i []).length = C := fun i hi => by have := (hm.2.2.2 i hi).1; omega
  have hsm : Small p rows.length C (ent rows) := fun i j hi hj => (hm.2.2.2 i hi).2 j (by rw [hrl i hi]; exact hj)
  have HRl := Lib.hid hrl
  have HSm := Lib.hid hsm
  have hE : ∀ j, j < (elems s).length → (elems s).getD j 0 < C := fun j hj => by
    have h1 := elems_mem s hj
    apply Classical.byContradiction
    intro hc
    rw [bitN_lt hs (show C ≤ (elems s).getD j 0 by omega)] at h1
    cases h1.2
  have HE := Lib.hid hE
  have hB := u.size
  obtain ⟨q, hq⟩ : ∃ q, q = (elems s).length := ⟨_, rfl⟩
  have hq8 : q ≤ 8 := by have := sz_le s; have := elems_sz s hs8; omega
  have HQ := Lib.hid hq
  have q0 : ∀ v : Later B W, v.val.cell? ⟨gl, 0, none⟩ = some (.int .i64 p) := fun v => (hc.keep_at v.below hg).cell rfl
  have q1 : ∀ v : Later B W, v.val.cell? ⟨gl, 1, none⟩ = some (.int .i64 C) := fun v => (hc.keep_at v.below hg).cell rfl
  have q2 : ∀ v : Later B W, v.val.cell? ⟨gl, 2, none⟩ = some (.slice a rows.length cap) := fun v => (hc.keep_at v.below hg).cell rfl
  have HI := Lib.hid h
  have KE := Lib.hid (c_elements u s hs8)
  obtain ⟨res, hres⟩ : ∃ res, res = rhoC p rows.length (ent rows) s := ⟨_, rfl⟩
  have HRes := Lib.hid hres
  rw [← hres]
  clear h hm hrl hsm hE hq hc hs hres
  go_enter Try.func48, Try.ntmps48
  go_upto_region 3 with (first | (go_at_call 45; (with_reducible refine (KE.out).mono ?_); rintro e _ ⟨_, rfl, ⟨ade, cpe, rfl, hIe, hce⟩, v0, rfl⟩) | fail)
  have HIe := Lib.hid hIe
  have hel : (ints (elems s)).length = q := by rw [HQ.out]; simp [ints]
  rw [hel]
  have HEl := Lib.hid hel
  clear KE hIe hce hel
  have q0v : ∀ w : Later v0.val.heap.size v0.val, w.val.cell? ⟨gl, 0, none⟩ = some (.int .i64 p) := fun w => q0 (v0.up w)
  have q1v : ∀ w : Later v0.val.heap.size v0.val, w.val.cell? ⟨gl, 1, none⟩ = some (.int .i64 C) := fun w => q1 (v0.up w)
  have q2v : ∀ w : Later v0.val.heap.size v0.val, w.val.cell? ⟨gl, 2, none⟩ = some (.slice a rows.length cap) := fun w => q2 (v0.up w)
  have HVB : Hid (∀ w : Later v0.val.heap.size v0.val, ∃ x : Later B W, x.val = w.val) := Lib.hid (fun w => ⟨v0.up w, rfl⟩)
  have HIv : Hid (RowsI v0.val.heap.size v0.val a rows) := Lib.hid (HI.out.to v0)
  clear q0 q1 q2 HI
  generalize v0.val = V at *
  clear v0
  obtain ⟨z, hz⟩ : ∃ z : Later V.heap.size V, z.val = V := ⟨Later.self _, rfl⟩
  rw [← hz]
  clear hz
  obtain ⟨cols, hcols⟩ : ∃ cols, cols = colV (ent rows) (elems s) := ⟨_, rfl⟩
  have HCols := Lib.hid hcols
  clear hcols
  go_wp2
  go_loopw [4, 6] (fun l i wr => ∃ (k : Nat) (v : Later V.heap.size V) (ad : Option Addr) (gc : Nat) (hd : Nat → Option Addr) (r cp : Nat → Nat), k ≤ q ∧ i = .int .i64 k ∧ l = .slice ad k gc ∧ wr = v.val ∧ Hid (Mtx V.heap.size v.val ad gc k rows.length hd r cp cols)) (fun _ i _ => q - (intOf i).toNat)
  case atStart => exact ⟨0, z, none, 0, fun _ => none, fun _ => 0, fun _ => 0, by omega, by first | rfl | go_num, rfl, rfl, Lib.hid (Mtx.start _ _ _ _ _ _ _)⟩
  case round =>
    clear z
    obtain ⟨k, v, ad, gc, hd, r, cp, hk, rfl, rfl, rfl, HM⟩ := hrel
    by_cases hlt : k < q
    · obtain ⟨be, oe, rfl, hbe, hce⟩ := HIe.out.at (show k < (ints (elems s)).length by rw [HEl.out]; exact hlt)
      have hek : (ints (elems s)).getD k 0 = (((elems s).getD k 0 : Nat) : Int) := ints_getD _ _
      have hce' : ∀ w : Later V.heap.size V, w.val.cell? ⟨be, oe + k, none⟩ = some (.int .i64 (((elems s).getD k 0 : Nat) : Int)) := fun w => by
        rw [← hek]; exact hce w k (by rw [HEl.out]; exact hlt)
      have heC := HE.out k (by rw [← HQ.out]; exact hlt)
      have HCk : Hid (∀ i, ent rows i ((elems s).getD k 0) = cols k i) := Lib.hid (fun i => by rw [HCols.out]; rfl)
      clear hce hek
      generalize (elems s).getD k 0 = ek at *
      have hvV := v.size
      have KC : Hid (Calls Try.prog 15 #[.agg #[.int .i64 p, .int .i64 C, .slice a rows.length cap], .int .i64 ek] v.val.drew (RetP v.val.drew.heap.size v.val.drew (fun vv w => ∃ adC cpC, vv = .slice adC rows.length cpC ∧ Own v.val.drew.heap.size w adC cpC (tabL rows.length (cols k))))) := Lib.hid (by
        have := c_column (Later.self v.val.drew) p C rows a cap ek (HIv.out.to v.drew) (by omega) (fun i hi => by rw [HRl.out i hi]; exact heC) (fun i hi => by rw [HRl.out i hi]; omega)
        rw [tabL_congr (A' := cols k) (fun i _ => HCk.out i)] at this
        unfold RetOwn at this
        rw [tabL_len] at this
        exact this)
      have HRn : Hid (∀ (y : Later v.val.drew.heap.size v.val.drew) (adC : Option Addr) (cpC : Nat), Own v.val.drew.heap.size y.val adC cpC (tabL rows.length (cols k)) → ∃ rr, RowO V.heap.size y.val rows.length adC rr cpC (cols k) ∧ (0 < rows.length → (∀ i, i < k → r i ≠ rr) ∧ ∀ g, ad = some ⟨g, 0, none⟩ → rr ≠ g)) := Lib.hid (fun y adC cpC hO => by
        have e3 : v.val.drew.heap.size = v.val.heap.size := rfl
        by_cases h0 : 0 < rows.length
        · obtain ⟨rr, rfl⟩ := own_some hO (by intro e; have h1 : rows.length = 0 := by { have h2 := congrArg List.length e; rwa [tabL_len] at h2 }; omega)
          have hl := hO.ltL.1
          refine ⟨rr, ⟨fun _ => rfl, fun _ => hO.mono (show V.heap.size ≤ v.val.heap.size from hvV), fun e => by cases e⟩, fun hC0 => ⟨fun i hi e => ?_, fun g hg e => ?_⟩⟩
          · have := (HM.out.rlt hC0 hi).2
            omega
          · rcases HM.out.form with ⟨e1, _⟩ | ⟨g', e1, e2⟩
            · rw [hg] at e1; cases e1
            · rw [hg] at e1; cases e1; omega
        · exact ⟨0, ⟨fun h => absurd h h0, fun h => absurd h h0, hO.cap⟩, fun h => absurd h h0⟩)
      have HMy : Hid (∀ y : Later v.val.drew.heap.size v.val.drew, Mtx V.heap.size y.val ad gc k rows.length hd r cp cols) := Lib.hid (fun y => HM.out.keep ((Below.refl _ _).drew.trans y.below))
      have hBy : Hid (∀ y : Later v.val.drew.heap.size v.val.drew, V.heap.size ≤ y.val.heap.size) := Lib.hid (fun y => by have := y.size; have e3 : v.val.drew.heap.size = v.val.heap.size := rfl; omega)
      have hk1 : k + 1 ≤ 4294967296 := by omega
      have qa : ∀ w : Later V.heap.size V, w.val.cell? ⟨gl, 0, none⟩ = some (.int .i64 p) ∧ w.val.cell? ⟨gl, 1, none⟩ = some (.int .i64 C) ∧ w.val.cell? ⟨gl, 2, none⟩ = some (.slice a rows.length cap) ∧ w.val.cell? ⟨be, oe + k, none⟩ = some (.int .i64 (ek : Int)) := fun w => ⟨q0v w, q1v w, q2v w, hce' w⟩
      have s0 := qa v.drew
      dsimp only [Later.drew, Later.to] at s0
      have s1 : ∀ y : Later v.val.drew.heap.size v.val.drew, y.val.cell? ⟨gl, 0, none⟩ = some (.int .i64 p) ∧ y.val.cell? ⟨gl, 1, none⟩ = some (.int .i64 C) ∧ y.val.cell? ⟨gl, 2, none⟩ = some (.slice a rows.length cap) ∧ y.val.cell? ⟨be, oe + k, none⟩ = some (.int .i64 (ek : Int)) := fun y => qa (v.drew.up y)
      have s2 : ∀ (y : Later v.val.drew.heap.size v.val.drew) (o : Obj), (y.val.alloc o).cell? ⟨gl, 0, none⟩ = some (.int .i64 p) ∧ (y.val.alloc o).cell? ⟨gl, 1, none⟩ = some (.int .i64 C) ∧ (y.val.alloc o).cell? ⟨gl, 2, none⟩ = some (.slice a rows.length cap) ∧ (y.val.alloc o).cell? ⟨be, oe + k, none⟩ = some (.int .i64 (ek : Int)) := fun y o => s1 (y.alloc o)
      have s3 : ∀ (y : Later v.val.drew.heap.size v.val.drew) (ar : Option Addr) (rr cr : Nat) (Q : Nat → Int) (pp : PushM V.heap.size y.val ad gc k rows.length hd r cp cols ar rr cr Q), pp.val.cell? ⟨gl, 0, none⟩ = some (.int .i64 p) ∧ pp.val.cell? ⟨gl, 1, none⟩ = some (.int .i64 C) ∧ pp.val.cell? ⟨gl, 2, none⟩ = some (.slice a rows.length cap) ∧ pp.val.cell? ⟨be, oe + k, none⟩ = some (.int .i64 (ek : Int)) := fun y ar rr cr Q pp => qa ((v.drew.up y).to pp.val pp.below)
      have HXp : Hid (∀ (y : Later v.val.drew.heap.size v.val.drew) (ar : Option Addr) (rr cr : Nat) (Q : Nat → Int) (pp : PushM V.heap.size y.val ad gc k rows.length hd r cp cols ar rr cr Q), ∃ x : Later V.heap.size V, x.val = pp.val) := Lib.hid (fun y ar rr cr Q pp => ⟨(v.drew.up y).to pp.val pp.below, rfl⟩)
      go_upto_region 6 with fail
      go_region_held3 (fun w' => w'.cell? ⟨gl, 0, none⟩ = some (.int .i64 p) ∧ w'.cell? ⟨gl, 1, none⟩ = some (.int .i64 C) ∧ w'.cell? ⟨gl, 2, none⟩ = some (.slice a rows.length cap) ∧ w'.cell? ⟨be, oe + k, none⟩ = some (.int .i64 (ek : Int))) (first | exact s0 | exact s1 y | exact s2 y _ | exact s3 y _ _ _ _ pp | fail) (first | ((refine step_pushM (w := y.val) (HMy.out y) hRO hRN (hBy.out y) (by rfl) _ _ (by rfl) (by rfl) (by rfl) hk1 ?_; intro pp)) | (go_at_call 15; (with_reducible refine (KC.out).mono ?_); rintro e _ ⟨_, rfl, ⟨adC, cpC, rfl, hC⟩, y, rfl⟩; obtain ⟨rr, hRO, hRN⟩ := HRn.out y adC cpC hC) | fail)
      all_goals
        obtain ⟨x, hx⟩ := HXp.out y _ _ _ _ pp
        have HMp : Hid (Mtx V.heap.size x.val (some ⟨pp.g, 0, none⟩) pp.gc' (k + 1) rows.length (fun i => if i = k then adC else hd i) (fun i => if i = k then rr else r i) (fun i => if i = k then cpC else cp i) cols) := Lib.hid (by
          rw [hx]
          refine pp.out.congr (fun i j hi hj => ?_)
          by_cases e : i = k
          · subst e; simp only [if_true]
          · simp only [if_neg e])
        rw [← hx]
        go_wp2
        go_roundw
        case rel => exact ⟨k + 1, x, _, _, _, _, _, by omega, by go_num, by trivial, (by first | exact hx.symm | rfl), HMp⟩
        case measure => simp [intOf]; omega
    · have hke : k = q := by omega
      subst hke
      have q0w := q0v v
      have KH : Hid (Calls Try.prog 19 #[.int .i64 p, .slice ad k gc] v.val (Ret v.val.heap.size v.val (.int .i64 (res : Nat)))) := Lib.hid (by
        have hcs : ∀ i j, i < k → j < rows.length → 0 ≤ cols i j ∧ cols i j < p := fun i j hi hj => by
          rw [HCols.out]
          exact HSm.out j _ hj (HE.out i (by rw [← HQ.out]; exact hi))
        have := c_hangA (Later.self v.val) p rows.length (mxL k rows.length cols) ad gc HM.out.rows hp (by rw [mxL_len]; omega) (by omega) (fun i hi => by rw [mxL_len] at hi; rw [mxL_get hi, tabL_len]) (fun i j hi hj => by rw [mxL_len] at hi; rw [mxL_ent hi hj]; exact hcs i j hi hj)
        rw [mxL_len] at this
        refine this.mono ?_
        rintro e _ ⟨_, rfl, ⟨m, hm, rfl⟩, w', rfl⟩
        have e1 : m = res := by
          rw [HRes.out]
          unfold rhoC
          rw [← HQ.out, ← HCols.out]
          refine hm.uniq hp (by omega) (mr_rank hp k) (fun i hi => ?_) (fun i hi => ?_)
          · exact (InSp.mem hi).cg (fun j hj => Cg.of_eq (mxL_ent hi hj))
          · exact (InSp.mem hi).cg (fun j hj => Cg.of_eq (mxL_ent hi hj).symm)
        rw [e1]
        exact ⟨rfl, w', rfl⟩)
      clear HM
      go_wp2_with (first | (go_at_call 19; (with_reducible refine (KH.out).mono ?_); rintro e _ ⟨rfl, v2, rfl⟩) | fail)
      go_ret
      exact Ret.of (HVB.out (v.up v2)) rfl

set_option maxRecDepth 100000 in
set_option maxHeartbeats 8000000 in
theorem c_refLinear {B : Nat} {W : World} (u : Later B W) (p C : Nat) (rows : Lls) (a : Option Addr) (cap : Nat) (h : RowsI B W a rows) (hp : PrimeP p) (hm : isMatrix (p : Int) (C : Int) rows) :
    Calls Try.prog 27 #[.agg #[.int .i64 p, .int .i64 C, .slice a rows.length cap]] u.val (RetP B W (MatO B C (ints (those C (ofRank C (fun s => (rhoC p rows.length (ent rows) s : Int))))))) := by
  obtain ⟨A, hA⟩ : ∃ A, A = ints (those C (ofRank C (fun s => (rhoC p rows.length (ent rows) s : Int)))) := ⟨_, rfl⟩
  rw [← hA]
  have HAe := Lib.hid hA
  clear hA
  have hB := u.size
  have hC8 : C ≤ 8 := by have := hm.2.1.2; omega
  have k1 : (u.val.alloc (.cells #[.int .i64 p, .int .i64 C, .slice a rows.length cap] 24)).heap.size = u.val.heap.size + 1 := by simp
  have X1 : RowL ((u.val.alloc (.cells #[.int .i64 p, .int .i64 C, .slice a rows.length cap] 24)).alloc (.cells #[.int .i64 0, .slice none 0 0] 45)) u.val.heap.size 24 [.int .i64 p, .int .i64 C, .slice a rows.length cap] := (RowL.new u.val _ _).keep ((Below.refl _ _).alloc (Nat.le_refl _) _)
  have X2 : RowL ((u.val.alloc (.cells #[.int .i64 p, .int .i64 C, .slice a rows.length cap] 24)).alloc (.cells #[.int .i64 0, .slice none 0 0] 45)) (u.val.heap.size + 1) 45 [.int .i64 0, .slice none 0 0] := by
    have h := RowL.new (u.val.alloc (.cells #[.int .i64 p, .int .i64 C, .slice a rows.length cap] 24)) 45 [.int .i64 0, .slice none 0 0]
    rwa [k1] at h
  have hYs : ((u.val.alloc (.cells #[.int .i64 p, .int .i64 C, .slice a rows.length cap] 24)).alloc (.cells #[.int .i64 0, .slice none 0 0] 45)).heap.size = u.val.heap.size + 2 := by simp
  have HVY : Hid (∀ v : Later ((u.val.alloc (.cells #[.int .i64 p, .int .i64 C, .slice a rows.length cap] 24)).alloc (.cells #[.int .i64 0, .slice none 0 0] 45)).heap.size ((u.val.alloc (.cells #[.int .i64 p, .int .i64 C, .slice a rows.length cap] 24)).alloc (.cells #[.int .i64 0, .slice none 0 0] 45)), ∃ w : Later B W, w.val = v.val) := Lib.hid (fun v => ⟨((u.alloc _).alloc _).up v, rfl⟩)
  have HI : Hid (RowsI ((u.val.alloc (.cells #[.int .i64 p, .int .i64 C, .slice a rows.length cap] 24)).alloc (.cells #[.int .i64 0, .slice none 0 0] 45)).heap.size ((u.val.alloc (.cells #[.int .i64 p, .int .i64 C, .slice a rows.length cap] 24)).alloc (.cells #[.int .i64 0, .slice none 0 0] 45)) a rows) := Lib.hid (h.to ((u.alloc _).alloc _))
  have HX := Lib.hid X2
  have HX1 := Lib.hid X1
  have HYs := Lib.hid hYs
  clear h k1 X1 X2 hYs
  go_enter Try.func27, Try.ntmps27
  go_upto_region 1 with fail
  generalize ((u.val.alloc (.cells #[.int .i64 p, .int .i64 C, .slice a rows.length cap] 24)).alloc (.cells #[.int .i64 0, .slice none 0 0] 45)) = Y at *
  generalize u.val.heap.size = gu at *
  have hgY : gu + 1 < Y.heap.size := by have := HYs.out; omega
  have hgY0 : gu < Y.heap.size := by omega
  have q1 : ∀ v : Later Y.heap.size Y, v.val.cell? ⟨gu, 1, none⟩ = some (.int .i64 C) := fun v => (HX1.out.keep v.below).cell rfl
  have f0 : ∀ (w : Later Y.heap.size Y), w.val.cell? ⟨gu + 1, 0, none⟩ = some (.int .i64 0) := fun w => (HX.out.keep_at w.below hgY).cell rfl
  have z0 : ∀ (w : Later Y.heap.size Y), w.val.frozen? ⟨gu + 1, 0, none⟩ = false := fun w => (HX.out.keep_at w.below hgY).fz 0
  have f1 : ∀ (w : Later Y.heap.size Y) (x0 : Value), (w.val.setCell ⟨gu + 1, 0, none⟩ x0).cell? ⟨gu + 1, 1, none⟩ = some (.slice none 0 0) := fun w x0 => ((HX.out.keep_at w.below hgY).set 0 x0).cell rfl
  have z1 : ∀ (w : Later Y.heap.size Y) (x0 : Value), (w.val.setCell ⟨gu + 1, 0, none⟩ x0).frozen? ⟨gu + 1, 1, none⟩ = false := fun w x0 => ((HX.out.keep_at w.below hgY).set 0 x0).fz 1
  have KG : Hid (∀ x : Later Y.heap.size Y, Calls Try.prog 23 #[.int .i64 C, .func (.func 48) #[] #[.pointer (some ⟨gu, 0, none⟩)]] x.val (RetP Y.heap.size Y (MatO Y.heap.size C A))) := Lib.hid (fun x => by
    rw [HAe.out]
    exact c_ofRank x C hC8 48 _ _ (fun args w => by kernel_rfl) (fun x v s hs => by
    have hxz := x.size
    exact c_refLinTell v p C rows a cap gu (HI.out.to x) hp hm (by omega) (HX1.out.keep x.below) s hs))
  clear hm HAe
  obtain ⟨z, hzz⟩ : ∃ z : Later Y.heap.size Y, z.val = Y := ⟨Later.self _, rfl⟩
  rw [← hzz]
  clear hzz
  have q1z := q1 z
  go_wp2_with (first | (go_at_call 23; (with_reducible refine (KG.out _).mono ?_); rintro e _ ⟨_, rfl, ⟨ad, cp, rfl, hO⟩, v2, rfl⟩) | fail)
  refine bodyPost_ret (results_cell_row rfl _ _ (gu + 1) 45 #[.int .i64 (C : Nat), .slice ad A.length cp] (0, 0) _ rfl (((HX.out.keep v2.below).set 0 _).set 1 _) Try.underlying45 rfl (by kernel_rfl)) rfl ?_
  obtain ⟨x1, hx1⟩ := later_set (HVY.out v2) (g := gu + 1) (i := 0) (by omega) (.int .i64 (C : Nat))
  obtain ⟨x2, hx2⟩ := later_set ⟨x1, hx1⟩ (g := gu + 1) (i := 1) (by omega) (.slice ad A.length cp)
  refine RetP.of ⟨x2, hx2⟩ ?_
  have hBY : B ≤ Y.heap.size := by have := HYs.out; omega
  exact ⟨ad, cp, rfl, ((hO.set hgY _).set hgY _).mono hBY⟩

end Go.Proofs.Ytffnpokceomncaa

namespace Go.Proofs.Ytffnpokceomncaa
set_option linter.unusedVariables false

theorem and_eq_iff {a b : Nat} : a &&& b = a ↔ sub a b := by
  constructor
  · intro h i hi
    rw [← h, Nat.testBit_and] at hi
    simp at hi; exact hi.2
  · exact and_eq_left
theorem ints_inj {a b : List Nat} (h : ints a = ints b) : a = b := by
  unfold ints at h
  exact (List.map_inj_right (fun x y h => by omega)).1 h
theorem nat_ext {a b : List Nat} (ha : a.Pairwise (· < ·)) (hb : b.Pairwise (· < ·)) (h : ∀ x, x ∈ a ↔ x ∈ b) : a = b := by
  refine ints_inj (pw_ext ?_ ?_ (fun x => ?_))
  · unfold ints; rw [List.pairwise_map]; exact ha.imp (fun h => by omega)
  · unfold ints; rw [List.pairwise_map]; exact hb.imp (fun h => by omega)
  · rw [mem_ints2, mem_ints2]
    constructor
    · rintro ⟨n, h1, e⟩; exact ⟨n, (h n).1 h1, e⟩
    · rintro ⟨n, h1, e⟩; exact ⟨n, (h n).2 h1, e⟩
theorem those_pwN (m : Nat) (p : Nat → Bool) : (those m p).Pairwise (· < ·) := List.Pairwise.filter p List.pairwise_lt_range

/-! ### the least and the greatest -/
def loneB (L : List Nat) (s : Nat) : Bool := !(L.any (fun t => decide (t ≠ s ∧ t &&& s = t)))
def topB (L : List Nat) (s : Nat) : Bool := !(L.any (fun t => decide (t ≠ s ∧ t &&& s = s)))
def filtTo (p : Nat → Bool) (L : List Nat) (k : Nat) : List Nat := (L.take k).filter p
theorem filtTo_step (p : Nat → Bool) (L : List Nat) {k : Nat} (hk : k < L.length) : filtTo p L (k + 1) = if p (L.getD k 0) = true then filtTo p L k ++ [L.getD k 0] else filtTo p L k := by
  unfold filtTo
  rw [List.take_add_one, List.getElem?_eq_getElem hk, List.filter_append]
  have : L.getD k 0 = L[k] := by simp [hk]
  rw [this]
  by_cases h : p L[k] = true
  · simp [h]
  · simp [h]
theorem filtTo_len (p : Nat → Bool) (L : List Nat) (k : Nat) : (filtTo p L k).length ≤ L.length := by
  have h1 := List.length_filter_le p (L.take k)
  have h2 := List.length_take_le k L
  have h3 : (L.take k).length ≤ L.length := by simp; omega
  unfold filtTo; omega
theorem filtTo_all (p : Nat → Bool) (L : List Nat) : filtTo p L L.length = L.filter p := by unfold filtTo; rw [List.take_length]
theorem leastB_iff {M : List Nat} {s : Nat} : leastB M s = true ↔ s ∈ M ∧ ∀ x, x ∈ M → sub x s → x = s := by
  unfold leastB
  rw [Bool.and_eq_true, decide_eq_true_eq, List.all_eq_true]
  constructor
  · rintro ⟨h1, h2⟩
    refine ⟨h1, fun x hx hs => ?_⟩
    have := h2 x hx
    simp [or_eq_iff.2 hs] at this
    exact this
  · rintro ⟨h1, h2⟩
    refine ⟨h1, fun x hx => ?_⟩
    by_cases e : x = s
    · simp [e]
    · have : ¬ x ||| s = s := fun h => e (h2 x hx (or_eq_iff.1 h))
      simp [e, this]
theorem loneB_iff {L : List Nat} {s : Nat} : loneB L s = true ↔ ∀ x, x ∈ L → sub x s → x = s := by
  unfold loneB
  rw [Bool.not_eq_true', Bool.eq_false_iff, ne_eq, List.any_eq_true]
  constructor
  · intro h x hx hs
    exact Classical.byContradiction fun e => h ⟨x, hx, by simpa using ⟨e, and_eq_iff.2 hs⟩⟩
  · rintro h ⟨x, hx, e⟩
    have e := of_decide_eq_true e
    exact e.1 (h x hx (and_eq_iff.1 e.2))
theorem topB_iff {L : List Nat} {s : Nat} : topB L s = true ↔ ∀ x, x ∈ L → sub s x → x = s := by
  unfold topB
  rw [Bool.not_eq_true', Bool.eq_false_iff, ne_eq, List.any_eq_true]
  constructor
  · intro h x hx hs
    exact Classical.byContradiction fun e => h ⟨x, hx, decide_eq_true ⟨e, by rw [Nat.and_comm]; exact and_eq_iff.2 hs⟩⟩
  · rintro h ⟨x, hx, e⟩
    have e := of_decide_eq_true e
    exact e.1 (h x hx (and_eq_iff.1 (by rw [Nat.and_comm]; exact e.2)))
theorem filt_least {m : Nat} {L : List Nat} (hr : L.Pairwise (· < ·)) (hlt : ∀ b, b ∈ L → b < bit m) : L.filter (loneB L) = those m (leastB L) :=
  nat_ext (hr.filter _) (those_pwN _ _) (fun x => by
    rw [List.mem_filter, mem_those, loneB_iff, leastB_iff]
    constructor
    · rintro ⟨h1, h2⟩; exact ⟨hlt x h1, h1, h2⟩
    · rintro ⟨_, h1, h2⟩; exact ⟨h1, h2⟩)
theorem filt_most {m : Nat} {L : List Nat} (hr : L.Pairwise (· < ·)) (hlt : ∀ b, b ∈ L → b < bit m) : L.filter (topB L) = those m (mostB L) :=
  nat_ext (hr.filter _) (those_pwN _ _) (fun x => by
    rw [List.mem_filter, mem_those, topB_iff, mostB_iff]
    constructor
    · rintro ⟨h1, h2⟩; exact ⟨hlt x h1, h1, h2⟩
    · rintro ⟨_, h1, h2⟩; exact ⟨h1, h2⟩)
/-- below each set of a family lies a least one -/
theorem least_below {V : List Nat} : ∀ k v, v ≤ k → v ∈ V → ∃ b, leastB V b = true ∧ sub b v
  | k, v, hk, hv => by
    by_cases h : ∀ x, x ∈ V → sub x v → x = v
    · exact ⟨v, leastB_iff.2 ⟨hv, h⟩, fun i h => h⟩
    · simp only [Classical.not_forall] at h
      obtain ⟨x, hx, hs, hne⟩ := h
      have hle := subLe hs
      cases k with
      | zero => omega
      | succ k =>
        obtain ⟨b, h1, h2⟩ := least_below k x (by omega) hx
        exact ⟨b, h1, sub_trans h2 hs⟩
where
  subLe {a b : Nat} (h : sub a b) : a ≤ b := by
    have := or_eq_iff.2 h
    have h2 : a ≤ a ||| b := Nat.left_le_or
    omega
/-- two families, one within the other, that lies above it: the same least sets -/
theorem least_eq {U V : List Nat} (h1 : ∀ u, u ∈ U → u ∈ V) (h2 : ∀ v, v ∈ V → ∃ u, u ∈ U ∧ sub u v) (s : Nat) : leastB U s = true ↔ leastB V s = true := by
  rw [leastB_iff, leastB_iff]
  constructor
  · rintro ⟨hs, h⟩
    refine ⟨h1 s hs, fun x hx hxs => ?_⟩
    obtain ⟨u, hu, hux⟩ := h2 x hx
    have e := h u hu (sub_trans hux hxs)
    subst e
    exact sub_antisymm hxs hux
  · rintro ⟨hs, h⟩
    obtain ⟨u, hu, hus⟩ := h2 s hs
    have e := h u (h1 u hu) hus
    subst e
    exact ⟨hu, fun x hx hxs => h x (h1 x hx) hxs⟩

/-! ### the blocker -/
def meetsB (M : List Nat) (s : Nat) : Bool := M.all (fun x => !decide (s &&& x = 0))
theorem meetsB_iff {M : List Nat} {s : Nat} : meetsB M s = true ↔ ∀ x, x ∈ M → s &&& x ≠ 0 := by
  unfold meetsB
  rw [List.all_eq_true]
  constructor
  · intro h x hx; simpa using h x hx
  · intro h x hx; simpa using h x hx
/-- a set, and each element of another one for it -/
def addTo (b s i : Nat) : List Nat := (elemsTo s i).map (fun j => b ||| bit j)
theorem addTo_step (b s i : Nat) : addTo b s (i + 1) = if s.testBit i = true then addTo b s i ++ [b ||| bit i] else addTo b s i := by
  unfold addTo
  rw [elemsTo_step]
  by_cases h : s.testBit i = true
  · simp [h]
  · simp [h]
theorem addTo_len (b s i : Nat) : (addTo b s i).length ≤ i := by
  have := elemsTo_len s i
  simpa [addTo] using this
def nextOf (m s b : Nat) : List Nat := if b &&& s = 0 then addTo b s m else [b]
def nextTo (m s : Nat) (now : List Nat) (k : Nat) : List Nat := (now.take k).flatMap (nextOf m s)
theorem nextTo_step (m s : Nat) (now : List Nat) {k : Nat} (hk : k < now.length) : nextTo m s now (k + 1) = nextTo m s now k ++ nextOf m s (now.getD k 0) := by
  unfold nextTo
  rw [List.take_add_one, List.getElem?_eq_getElem hk, List.flatMap_append]
  have : now.getD k 0 = now[k] := by simp [hk]
  rw [this]
  simp
theorem nextOf_len (m s b : Nat) (hm : m ≤ 8) : (nextOf m s b).length ≤ 8 := by
  unfold nextOf
  split
  · have := addTo_len b s m; omega
  · simp
theorem nextTo_len (m s : Nat) (hm : m ≤ 8) (now : List Nat) (k : Nat) : (nextTo m s now k).length ≤ 8 * k := by
  induction k with
  | zero => simp [nextTo]
  | succ k ih =>
    by_cases h : k < now.length
    · rw [nextTo_step m s now h, List.length_append]
      have := nextOf_len m s (now.getD k 0) hm
      omega
    · have e : nextTo m s now (k + 1) = nextTo m s now k := by
        unfold nextTo
        rw [List.take_of_length_le (by omega), List.take_of_length_le (by omega)]
      rw [e]; omega
theorem mem_elemsTo {s i j : Nat} : j ∈ elemsTo s i ↔ j < i ∧ s.testBit j = true := by simp [elemsTo]
theorem mem_nextOf {m s b x : Nat} : x ∈ nextOf m s b ↔ (b &&& s ≠ 0 ∧ x = b) ∨ (b &&& s = 0 ∧ ∃ i, i < m ∧ s.testBit i = true ∧ x = b ||| bit i) := by
  unfold nextOf
  by_cases h : b &&& s = 0
  · rw [if_pos h]
    unfold addTo
    rw [List.mem_map]
    constructor
    · rintro ⟨j, hj, rfl⟩
      have := mem_elemsTo.1 hj
      exact .inr ⟨h, j, this.1, this.2, rfl⟩
    · rintro (⟨h1, _⟩ | ⟨_, i, h1, h2, rfl⟩)
      · exact absurd h h1
      · exact ⟨i, mem_elemsTo.2 ⟨h1, h2⟩, rfl⟩
  · rw [if_neg h]
    constructor
    · intro hx; exact .inl ⟨h, by simpa using hx⟩
    · rintro (⟨_, rfl⟩ | ⟨h1, _⟩)
      · simp
      · exact absurd h1 h
theorem mem_nextTo {m s x : Nat} {now : List Nat} : x ∈ nextTo m s now now.length ↔ ∃ b, b ∈ now ∧ x ∈ nextOf m s b := by
  unfold nextTo
  rw [List.take_length, List.mem_flatMap]
theorem nextTo_lt {m s : Nat} {now : List Nat} (hm : m ≤ 8) (h : ∀ b, b ∈ now → b < bit m) {x k : Nat} (hx : x ∈ nextTo m s now k) : x < bit m := by
  unfold nextTo at hx
  obtain ⟨b, hb, hx⟩ := List.mem_flatMap.1 hx
  have hb := h b (List.mem_of_mem_take hb)
  rcases mem_nextOf.1 hx with ⟨_, rfl⟩ | ⟨_, i, hi, _, rfl⟩
  · exact hb
  · exact or_lt_bit hb (bit_lt_bit hi)
/-- what the blocker is behind so many sets -/
def blkTo (m : Nat) (L : List Nat) : Nat → List Nat
  | 0 => [0]
  | k + 1 => those m (leastB (those m (memB (nextTo m (L.getD k 0) (blkTo m L k) (blkTo m L k).length))))
theorem meets_take {L : List Nat} {k : Nat} (hk : k < L.length) {s : Nat} : meetsB (L.take (k + 1)) s = true ↔ meetsB (L.take k) s = true ∧ s &&& L.getD k 0 ≠ 0 := by
  rw [meetsB_iff, meetsB_iff, List.take_add_one, List.getElem?_eq_getElem hk]
  have : L.getD k 0 = L[k] := by simp [hk]
  rw [this]
  constructor
  · intro h
    exact ⟨fun x hx => h x (List.mem_append_left _ hx), h _ (List.mem_append_right _ (by simp))⟩
  · rintro ⟨h1, h2⟩ x hx
    rcases List.mem_append.1 hx with hx | hx
    · exact h1 x hx
    · have : x = L[k] := by simpa using hx
      subst this; exact h2
theorem ne_zero_bit {a b : Nat} (h : a &&& b ≠ 0) : ∃ i, a.testBit i = true ∧ b.testBit i = true :=
  Classical.byContradiction fun hn => h (and_eq_zero_iff.2 (fun i hi => by
    cases c : b.testBit i
    · rfl
    · exact absurd ⟨i, hi, c⟩ hn))
theorem meets_sub {a b x : Nat} (h : a &&& x ≠ 0) (hs : sub a b) : b &&& x ≠ 0 := fun e => by
  obtain ⟨i, h1, h2⟩ := ne_zero_bit h
  have := and_eq_zero_iff.1 e i (hs i h1)
  rw [h2] at this; cases this
theorem meets_bit {b x i : Nat} (hx : x.testBit i = true) : (b ||| bit i) &&& x ≠ 0 := fun e => by
  have := and_eq_zero_iff.1 e i (by rw [or_bit_testBit]; simp)
  rw [hx] at this; cases this
theorem blk_is {m : Nat} (hm : m ≤ 8) {L : List Nat} (hL : ∀ b, b ∈ L → b < bit m) : ∀ k, k ≤ L.length → blkTo m L k = those m (leastB (those m (meetsB (L.take k))))
  | 0, _ => by
    have hb := bit_le m hm
    refine nat_ext (List.pairwise_singleton _ _) (those_pwN _ _) (fun x => ?_)
    rw [mem_those, leastB_iff]
    have h0 : ∀ y, y ∈ those m (meetsB (L.take 0)) ↔ y < bit m := fun y => by
      rw [mem_those, meetsB_iff]
      exact ⟨fun h => h.1, fun h => ⟨h, fun x hx => by simp at hx⟩⟩
    constructor
    · intro hx
      have : x = 0 := by simpa [blkTo] using hx
      subst this
      refine ⟨by omega, (h0 0).2 (by omega), fun y hy hs => ?_⟩
      exact sub_antisymm hs (fun i hi => by simp at hi)
    · rintro ⟨_, _, h⟩
      have := h 0 ((h0 0).2 (by omega)) (fun i hi => by simp at hi)
      rw [← this]; simp [blkTo]
  | k + 1, hk => by
    have ih := blk_is hm hL k (by omega)
    have hs : L.getD k 0 < bit m := hL _ (by simp [show k < L.length by omega])
    have hst := @meets_take L k (by omega)
    show those m (leastB (those m (memB (nextTo m (L.getD k 0) (blkTo m L k) (blkTo m L k).length)))) = _
    rw [ih]
    generalize L.getD k 0 = s at *
    have hnow : ∀ b, b ∈ those m (leastB (those m (meetsB (L.take k)))) → b < bit m := fun b hb => (mem_those.1 hb).1
    refine those_mem_eq (fun x hx => least_eq ?_ ?_ x)
    · intro u hu
      rw [mem_those] at hu ⊢
      obtain ⟨h1, h2⟩ := hu
      refine ⟨h1, ?_⟩
      have h2 : u ∈ nextTo m s _ _ := of_decide_eq_true h2
      rw [mem_nextTo] at h2
      obtain ⟨b, hb, hu⟩ := h2
      have hb2 := (mem_those.1 (leastB_iff.1 (mem_those.1 hb).2).1).2
      rw [hst]
      rcases mem_nextOf.1 hu with ⟨g1, rfl⟩ | ⟨g1, i, g2, g3, rfl⟩
      · exact ⟨hb2, g1⟩
      · exact ⟨meetsB_iff.2 (fun y hy => meets_sub (meetsB_iff.1 hb2 y hy) (sub_or_left _ _)), meets_bit g3⟩
    · intro v hv
      rw [mem_those, hst] at hv
      obtain ⟨h1, h2, h3⟩ := hv
      obtain ⟨b, hb, hbv⟩ := least_below v v (Nat.le_refl _) (show v ∈ those m (meetsB (L.take k)) from mem_those.2 ⟨h1, h2⟩)
      have hbm : b < bit m := lt_bit_of_sub hm h1 hbv
      have hbn : b ∈ those m (leastB (those m (meetsB (L.take k)))) := mem_those.2 ⟨hbm, hb⟩
      by_cases c : b &&& s = 0
      · obtain ⟨i, g1, g2⟩ := ne_zero_bit h3
        have him := lt_m_of_testBit h1 g1
        refine ⟨b ||| bit i, mem_those.2 ⟨or_lt_bit hbm (bit_lt_bit him), decide_eq_true (mem_nextTo.2 ⟨b, hbn, mem_nextOf.2 (.inr ⟨c, i, him, g2, rfl⟩)⟩)⟩, ?_⟩
        intro j hj
        rw [or_bit_testBit, Bool.or_eq_true, decide_eq_true_eq] at hj
        rcases hj with hj | rfl
        · exact hbv j hj
        · exact g1
      · exact ⟨b, mem_those.2 ⟨hbm, decide_eq_true (mem_nextTo.2 ⟨b, hbn, mem_nextOf.2 (.inl ⟨c, rfl⟩)⟩)⟩, hbv⟩
theorem blk_all {m : Nat} (hm : m ≤ 8) {L : List Nat} (hL : ∀ b, b ∈ L → b < bit m) : blkTo m L L.length = those m (leastB (those m (meetsB L))) := by
  rw [blk_is hm hL _ (Nat.le_refl _), List.take_length]
theorem blk_lt {m : Nat} {L : List Nat} (hm : m ≤ 8) {k b : Nat} (h : b ∈ blkTo m L k) : b < bit m := by
  have := bit_le m hm
  cases k with
  | zero => have : b = 0 := by simpa [blkTo] using h
            omega
  | succ k => exact (mem_those.1 h).1
theorem blk_len {m : Nat} {L : List Nat} (hm : m ≤ 8) (k : Nat) : (blkTo m L k).length ≤ 256 := by
  have := bit_le m hm
  cases k with
  | zero => simp [blkTo]
  | succ k =>
    have h := thoseTo_len (leastB (those m (memB (nextTo m (L.getD k 0) (blkTo m L k) (blkTo m L k).length)))) (bit m)
    have e : blkTo m L (k + 1) = thoseTo (leastB (those m (memB (nextTo m (L.getD k 0) (blkTo m L k) (blkTo m L k).length)))) (bit m) := rfl
    rw [e]; omega
theorem blk_pw {m : Nat} {L : List Nat} (k : Nat) : (blkTo m L k).Pairwise (· < ·) := by
  cases k with
  | zero => exact List.pairwise_singleton _ _
  | succ k => exact those_pwN _ _

/-! ### the shadow -/
def shadOf (m s : Nat) : List Nat := (elemsTo s m).map (fun i => nand s (bit i))
def shadTo (m : Nat) (L : List Nat) (k : Nat) : List Nat := (L.take k).flatMap (shadOf m)
def shedTo (s i : Nat) : List Nat := (elemsTo s i).map (fun i => nand s (bit i))
theorem shedTo_step (s i : Nat) : shedTo s (i + 1) = if s.testBit i = true then shedTo s i ++ [nand s (bit i)] else shedTo s i := by
  unfold shedTo
  rw [elemsTo_step]
  by_cases h : s.testBit i = true
  · simp [h]
  · simp [h]
theorem shedTo_len (s i : Nat) : (shedTo s i).length ≤ i := by
  have := elemsTo_len s i
  simpa [shedTo] using this
theorem shadTo_step (m : Nat) (L : List Nat) {k : Nat} (hk : k < L.length) : shadTo m L (k + 1) = shadTo m L k ++ shedTo (L.getD k 0) m := by
  unfold shadTo
  rw [List.take_add_one, List.getElem?_eq_getElem hk, List.flatMap_append]
  have : L.getD k 0 = L[k] := by simp [hk]
  rw [this]
  simp [shadOf, shedTo]
theorem shadTo_len (m : Nat) (hm : m ≤ 8) (L : List Nat) (k : Nat) : (shadTo m L k).length ≤ 8 * k := by
  induction k with
  | zero => simp [shadTo]
  | succ k ih =>
    by_cases h : k < L.length
    · rw [shadTo_step m L h, List.length_append]
      have := shedTo_len (L.getD k 0) m
      omega
    · have e : shadTo m L (k + 1) = shadTo m L k := by
        unfold shadTo
        rw [List.take_of_length_le (by omega), List.take_of_length_le (by omega)]
      rw [e]; omega
def shadB (m : Nat) (L : List Nat) (s : Nat) : Bool := (List.range m).any (fun i => !s.testBit i && decide (s + bit i ∈ L))
theorem nand_back {s i : Nat} (h : s.testBit i = false) : nand (s ||| bit i) (bit i) = s := by
  apply Nat.eq_of_testBit_eq
  intro j
  rw [nand_testBit, or_bit_testBit, testBit_bit]
  by_cases c : i = j
  · subst c; simp [h]
  · simp [c]
theorem shad_is {m : Nat} (hm : m ≤ 8) {L : List Nat} (hL : ∀ b, b ∈ L → b < bit m) : those m (memB (shadTo m L L.length)) = those m (shadB m L) := those_mem_eq (fun x hx => by
  have hb8 := bit_le m hm
  unfold shadB memB
  rw [decide_eq_true_eq, List.any_eq_true]
  unfold shadTo
  rw [List.take_length, List.mem_flatMap]
  constructor
  · rintro ⟨s, hs, h⟩
    obtain ⟨i, hi, rfl⟩ := List.mem_map.1 h
    obtain ⟨h1, h2⟩ := mem_elemsTo.1 hi
    refine ⟨i, by simpa using h1, ?_⟩
    have hb : (nand s (bit i)).testBit i = false := nand_bit_bit s i
    have hx8 : nand s (bit i) < 256 := by omega
    rw [hb, ← or_bit _ i hx8 (by omega) hb, nand_or_bit h2]
    simpa using hs
  · rintro ⟨i, hi, h⟩
    rw [Bool.and_eq_true, Bool.not_eq_true', decide_eq_true_eq] at h
    obtain ⟨h1, h2⟩ := h
    have hi : i < m := by simpa using hi
    rw [← or_bit x i (by omega) (by omega) h1] at h2
    refine ⟨x ||| bit i, h2, List.mem_map.2 ⟨i, mem_elemsTo.2 ⟨hi, by rw [or_bit_testBit]; simp⟩, nand_back h1⟩⟩)

/-! ### GALE's order -/
theorem elemsTo_split (s t : Nat) : ∀ n, t ≤ n → ∃ R, elemsTo s n = elemsTo s t ++ R ∧ ∀ x, x ∈ R → t ≤ x
  | 0, h => ⟨[], by have : t = 0 := by omega
                    subst this; simp, fun x hx => by cases hx⟩
  | n + 1, h => by
    by_cases e : t = n + 1
    · subst e; exact ⟨[], by simp, fun x hx => by cases hx⟩
    · obtain ⟨R, h1, h2⟩ := elemsTo_split s t n (by omega)
      rw [elemsTo_step]
      by_cases c : s.testBit n = true
      · rw [if_pos c]
        refine ⟨R ++ [n], by rw [h1, List.append_assoc], fun x hx => ?_⟩
        rcases List.mem_append.1 hx with hx | hx
        · exact h2 x hx
        · have : x = n := by simpa using hx
          omega
      · rw [if_neg c]; exact ⟨R, h1, h2⟩
theorem elems_before {s t i : Nat} (ht : t ≤ 8) (hi : i < sz s) : i < (elemsTo s t).length ↔ (elems s).getD i 0 < t := by
  obtain ⟨R, h1, h2⟩ := elemsTo_split s t 8 ht
  have e : elems s = elemsTo s t ++ R := h1
  have hl : sz s = (elemsTo s t).length + R.length := by unfold sz; rw [e, List.length_append]
  constructor
  · intro h
    have : (elems s).getD i 0 = (elemsTo s t)[i] := by
      rw [e]; simp [List.getElem?_append_left h, h]
    rw [this]
    have := List.getElem_mem h
    exact (mem_elemsTo.1 this).1
  · intro h
    refine Classical.byContradiction fun hn => ?_
    have hr : i - (elemsTo s t).length < R.length := by omega
    have : (elems s).getD i 0 = R[i - (elemsTo s t).length] := by
      rw [e]; simp [List.getElem?_append_right (show (elemsTo s t).length ≤ i by omega), hr]
    have := h2 _ (List.getElem_mem hr)
    omega
/-- as sets.Below has it: of each first part of the elements a has as many as b -/
def belB (a b : Nat) : Bool := (List.range 8).all (fun i => decide ((elemsTo b (i + 1)).length ≤ (elemsTo a (i + 1)).length))
/-- as rotaref.Gale has it -/
def galeB (a b : Nat) : Bool := (List.range (sz a)).all (fun i => decide ((elems a).getD i 0 ≤ (elems b).getD i 0))
theorem elemsTo_mono (s : Nat) {i j : Nat} (h : i ≤ j) : (elemsTo s i).length ≤ (elemsTo s j).length := by
  obtain ⟨R, e, _⟩ := elemsTo_split s i j h
  rw [e, List.length_append]; omega
theorem gale_is {a b : Nat} (h : sz a = sz b) : belB a b = galeB a b := by
  rw [Bool.eq_iff_iff]
  unfold belB galeB
  rw [List.all_eq_true, List.all_eq_true]
  constructor
  · intro hh i hi
    have hi : i < sz a := by simpa using hi
    have hlt : (elems b).getD i 0 < 8 := (elems_before (Nat.le_refl 8) (by omega)).1 (by show i < sz b; omega)
    have := hh ((elems b).getD i 0) (by simpa using hlt)
    have := of_decide_eq_true this
    have h1 := (elems_before (s := b) (i := i) (t := (elems b).getD i 0 + 1) (by omega) (by omega)).2 (by omega)
    have h2 := (elems_before (s := a) (i := i) (t := (elems b).getD i 0 + 1) (by omega) hi).1 (by omega)
    exact decide_eq_true (by omega)
  · intro hh t ht
    have ht : t < 8 := by simpa using ht
    refine decide_eq_true (Classical.byContradiction fun hn => ?_)
    -- the element of a at place k is not among the first, that of b is
    have hb8 : (elemsTo b (t + 1)).length ≤ sz b := elemsTo_mono b (show t + 1 ≤ 8 by omega)
    have hk : (elemsTo a (t + 1)).length < sz a := by omega
    have h1 := (elems_before (s := b) (i := (elemsTo a (t + 1)).length) (t := t + 1) (by omega) (by omega)).1 (by omega)
    have h2 := of_decide_eq_true (hh (elemsTo a (t + 1)).length (by simpa using hk))
    have h3 := (elems_before (s := a) (i := (elemsTo a (t + 1)).length) (t := t + 1) (by omega) hk).2 (by omega)
    omega

end Go.Proofs.Ytffnpokceomncaa

namespace Go.Proofs.Ytffnpokceomncaa
open Go.RowKit
set_option linter.unusedVariables false

/-- a number of a family is a set -/
theorem fam_nat {n : Int} {l : List Int} (h : isFam n l) {i : Nat} (hi : i < l.length) : ∃ s : Nat, l.getD i 0 = s ∧ s < 256 ∧ (s : Int) ≤ all n ∧ (s : Int) ∈ l := by
  obtain ⟨h0, h1, _⟩ := h.2.2 i hi
  have := (all_le n h.2.1).2
  refine ⟨(l.getD i 0).toNat, by omega, by omega, by omega, ?_⟩
  rw [Int.toNat_of_nonneg h0]
  simp [hi]
theorem mem_idx {l : List Int} {x : Int} (h : x ∈ l) : ∃ i, i < l.length ∧ l.getD i 0 = x := by
  obtain ⟨i, hi, e⟩ := List.getElem_of_mem h
  exact ⟨i, hi, by simp [hi, e]⟩
theorem fam_mem {n : Int} {l : List Int} (h : isFam n l) {x : Int} (hx : x ∈ l) : 0 ≤ x ∧ x ≤ all n := by
  obtain ⟨i, hi, e⟩ := mem_idx hx
  have := h.2.2 i hi
  rw [e] at this
  exact ⟨this.1, this.2.1⟩

def down (l : List Int) (s : Nat) : Prop := s = 0 ∨ ∃ e, e < 8 ∧ s.testBit e = true ∧ ((s - bit e : Nat) : Int) ∈ l
def joinsAt (l : List Int) (s : Nat) : Prop := ∀ t : Nat, (t : Int) ∈ l → ((s ||| t : Nat) : Int) ∈ l
def Good (n : Int) (l : List Int) : Prop := (0 : Int) ∈ l ∧ all n ∈ l ∧ ∀ s : Nat, (s : Int) ∈ l → down l s ∧ joinsAt l s
/-- what the check of a family answers -/
def ChkIs (n : Int) (l : List Int) (e : Int) : Prop := (¬ isFam n l → e = 1) ∧ (isFam n l → ¬ Good n l → e = 3) ∧ (isFam n l → Good n l → e = 0)
theorem ChkIs.ex (n : Int) (l : List Int) : ∃ e, ChkIs n l e := by
  by_cases h : isFam n l
  · by_cases g : Good n l
    · exact ⟨0, fun x => absurd h x, fun _ x => absurd g x, fun _ _ => rfl⟩
    · exact ⟨3, fun x => absurd h x, fun _ _ => rfl, fun _ x => absurd x g⟩
  · exact ⟨1, fun _ => rfl, fun x => absurd x h, fun x => absurd x h⟩

/-- first and last of a family -/
theorem fam_first {n : Int} {l : List Int} (h : isFam n l) : (0 : Int) ∈ l ↔ 0 < l.length ∧ l.getD 0 0 = 0 := by
  constructor
  · intro hm
    obtain ⟨i, hi, e⟩ := mem_idx hm
    refine ⟨by omega, ?_⟩
    by_cases c : i = 0
    · rw [c] at e; exact e
    · have := h.2.2.rising 0 i (by omega) hi
      have := (h.2.2 0 (by omega)).1
      omega
  · rintro ⟨h1, h2⟩
    have : l.getD 0 0 ∈ l := by simp [h1]
    rw [h2] at this; exact this
theorem fam_last {n : Int} {l : List Int} (h : isFam n l) : all n ∈ l ↔ 0 < l.length ∧ l.getD (l.length - 1) 0 = all n := by
  constructor
  · intro hm
    obtain ⟨i, hi, e⟩ := mem_idx hm
    refine ⟨by omega, ?_⟩
    by_cases c : i = l.length - 1
    · rw [c] at e; exact e
    · have := h.2.2.rising i (l.length - 1) (by omega) (by omega)
      have := (h.2.2 (l.length - 1) (by omega)).2.1
      omega
  · rintro ⟨h1, h2⟩
    have : l.getD (l.length - 1) 0 ∈ l := by simp [show l.length - 1 < l.length by omega]
    rw [h2] at this; exact this

/-- the bits that have been gone through: those of s that t no longer has -/
def downTo (l : List Int) (s t : Nat) : Prop := s = 0 ∨ ∃ e, e < 8 ∧ s.testBit e = true ∧ t.testBit e = false ∧ ((s - bit e : Nat) : Int) ∈ l
def subBits (t s : Nat) : Prop := ∀ i, i < 8 → t.testBit i = true → s.testBit i = true
theorem subBits_refl (s : Nat) : subBits s s := fun _ _ h => h
theorem subBits_drop {t s : Nat} (ht : t < 256) (h0 : t ≠ 0) (h : subBits t s) : subBits (drop1 t) s := by
  obtain ⟨e, he, _, h2, h3, _⟩ := low_facts t ht h0
  intro i hi hb
  rw [h3 i hi] at hb
  exact h i hi (by simp at hb; exact hb.1)
theorem downTo_start (l : List Int) (s : Nat) : downTo l s s ↔ s = 0 := by
  constructor
  · rintro (h | ⟨e, _, h1, h2, _⟩)
    · exact h
    · rw [h1] at h2; cases h2
  · exact .inl
theorem downTo_end (l : List Int) (s : Nat) : downTo l s 0 ↔ down l s := by
  unfold downTo down
  simp
/-- one step of the walk over the bits of s -/
theorem downTo_step {l : List Int} {s t : Nat} (hs : s < 256) (ht : t < 256) (h0 : t ≠ 0) (hsub : subBits t s) : downTo l s (drop1 t) ↔ downTo l s t ∨ ((nand s (low t) : Nat) : Int) ∈ l := by
  obtain ⟨e, he, h1, h2, h3, h4, _⟩ := low_facts t ht h0
  have hse := hsub e he h2
  rw [h1, nand_bit s e hs he hse]
  unfold downTo
  constructor
  · rintro (h | ⟨i, hi, a, b, c⟩)
    · exact .inl (.inl h)
    · rw [h3 i hi] at b
      by_cases hie : i = e
      · subst hie; exact .inr c
      · simp [hie] at b
        exact .inl (.inr ⟨i, hi, a, b, c⟩)
  · rintro ((h | ⟨i, hi, a, b, c⟩) | h)
    · exact .inl h
    · exact .inr ⟨i, hi, a, by rw [h3 i hi, b]; rfl, c⟩
    · exact .inr ⟨e, he, hse, by rw [h3 e he]; simp, h⟩

theorem joins_step {l : List Int} {s : Nat} {k : Nat} {t : Nat} (h : ∀ j, j < k → ∀ t : Nat, l.getD j 0 = t → ((s ||| t : Nat) : Int) ∈ l) (hk : l.getD k 0 = t) (hm : ((s ||| t : Nat) : Int) ∈ l) : ∀ j, j < k + 1 → ∀ t : Nat, l.getD j 0 = t → ((s ||| t : Nat) : Int) ∈ l := by
  intro j hj t' ht'
  by_cases e : j = k
  · subst e; rw [hk] at ht'; have : t' = t := by omega
    rw [this]; exact hm
  · exact h j (by omega) t' ht'
theorem joins_end {l : List Int} {s : Nat} (h : ∀ j, j < l.length → ∀ t : Nat, l.getD j 0 = t → ((s ||| t : Nat) : Int) ∈ l) : joinsAt l s := by
  intro t ht
  obtain ⟨j, hj, e⟩ := mem_idx ht
  exact h j hj t e
theorem good_end {n : Int} {l : List Int} (h1 : (0 : Int) ∈ l) (h2 : all n ∈ l) (h : ∀ j, j < l.length → ∀ s : Nat, l.getD j 0 = s → down l s ∧ joinsAt l s) : Good n l := by
  refine ⟨h1, h2, fun s hs => ?_⟩
  obtain ⟨j, hj, e⟩ := mem_idx hs
  exact h j hj s e
theorem good_step {l : List Int} {k s : Nat} (h : ∀ j, j < k → ∀ s : Nat, l.getD j 0 = s → down l s ∧ joinsAt l s) (hk : l.getD k 0 = s) (hs : down l s ∧ joinsAt l s) : ∀ j, j < k + 1 → ∀ s : Nat, l.getD j 0 = s → down l s ∧ joinsAt l s := by
  intro j hj t ht
  by_cases e : j = k
  · subst e; rw [hk] at ht; have : t = s := by omega
    rw [this]; exact hs
  · exact h j (by omega) t ht

end Go.Proofs.Ytffnpokceomncaa
