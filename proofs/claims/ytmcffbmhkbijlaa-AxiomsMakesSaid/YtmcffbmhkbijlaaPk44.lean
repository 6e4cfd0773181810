
/-
  axioms.OfIndependents, axioms.OfCircuits.
-/
import Derived.Test.YtmcffbmhkbijlaaPk43
import Derived.Test.YtmcffbmhkbijlaaPk30
import Derived.Test.YtmcffbmhkbijlaaPk29
import Derived.Test.YtmcffbmhkbijlaaPk19
import Derived.Test.YtmcffbmhkbijlaaPk31
namespace Go.Proofs.Ytmcffbmhkbijlaa
open Go.RowKit
set_option linter.unusedVariables false

theorem matIs_iff {m : Nat} {A : List Nat} {e : Int} (h : MatIs (m : Int) (ints A) e) : e = 0 ↔ ∃ r, MatL m A r := by
  constructor
  · rintro rfl
    obtain ⟨h1, _, _⟩ := MatIs.matL h
    rw [toN_ints_eq] at h1
    exact ⟨_, h1⟩
  · rintro ⟨r, hM⟩
    exact h.2.2 hM.is.ok.1 hM.is.ok.2
/-- what an answer is, for a family: a matroid and no error, or none and an error -/
structure FmIs (n : Int) (l : List Int) (P : Nat → List Nat → Prop) (G : Nat → List Nat → List Nat) (nA : Int) (xA : List Int) (er : Int) (ok : Bool) : Prop where
  bad : ¬ isFam n l → nA = 0 ∧ xA = [] ∧ er = 1
  good : ∀ (m : Nat) (L : List Nat), n = (m : Int) → l = ints L → isFam n l → nA = mdN ok m ∧ xA = mdX ok (G m L) ∧ er = mdE ok ∧ (ok = true ↔ P m L)
theorem FmIs.ex (n : Int) (l : List Int) (P : Nat → List Nat → Prop) (G : Nat → List Nat → List Nat) : ∃ nA xA er ok, FmIs n l P G nA xA er ok := by
  by_cases h : isFam n l
  · obtain ⟨m, L, h1, h2, h3, _⟩ := fam_open h
    have key : ∀ (ok : Bool), (ok = true ↔ P m L) → FmIs n l P G (mdN ok m) (mdX ok (G m L)) (mdE ok) ok := fun ok hok => ⟨fun c => absurd h c, fun m' L' e1 e2 _ => by
      have em : m' = m := Int.ofNat.inj (e1.symm.trans h1)
      have eL : L' = L := ints_inj (e2.symm.trans h3)
      subst em
      subst eL
      exact ⟨rfl, rfl, rfl, hok⟩⟩
    by_cases hP : P m L
    · exact ⟨_, _, _, true, key true ⟨fun _ => hP, fun _ => rfl⟩⟩
    · exact ⟨_, _, _, false, key false ⟨fun c => (by cases c), fun c => absurd c hP⟩⟩
  · exact ⟨0, [], 1, false, fun _ => ⟨rfl, rfl, rfl⟩, fun _ _ _ _ c => absurd c h⟩
def IndOk (m : Nat) (L : List Nat) : Prop := (∃ r, MatL m (big m (memB L)) r) ∧ those m (indP (big m (memB L))) = L
def CircOk (m : Nat) (L : List Nat) : Prop := (∃ r, MatL m (big m (PC L)) r) ∧ those m (circP (big m (PC L))) = L

set_option maxRecDepth 100000 in
set_option maxHeartbeats 8000000 in
theorem c_ofInd {B : Nat} {W : World} (u : Later B W) (n : Int) (l : List Int) (a : Option Addr) (cap : Nat) (h : IntsAt B W a l) (hlen : l.length ≤ 4611686018427387904) (nA : Int) (xA : List Int) (er : Int) (ok : Bool) (hF : FmIs n l IndOk (fun m L => big m (memB L)) nA xA er ok) :
    Calls Try.prog 6 #[.int .i64 n, .slice a l.length cap] u.val (RetP B W (MatTO B nA xA er)) := by
  have hB := u.size
  have k1 : (u.val.alloc (.cells #[.slice a l.length cap] 22)).heap.size = u.val.heap.size + 1 := by simp
  have X3 : Hid (RowAt1 ((u.val.alloc (.cells #[.slice a l.length cap] 22)).alloc (.cells #[.int .i64 0, .slice none 0 0] 29)) u.val.heap.size 22 (.slice a l.length cap)) := Lib.hid (row1_under (heap_alloc_new _ _) _)
  have X4 : Hid (RowL ((u.val.alloc (.cells #[.slice a l.length cap] 22)).alloc (.cells #[.int .i64 0, .slice none 0 0] 29)) (u.val.heap.size + 1) 29 [.int .i64 0, .slice none 0 0]) := Lib.hid (by
    have h := RowL.new (u.val.alloc (.cells #[.slice a l.length cap] 22)) 29 [.int .i64 0, .slice none 0 0]
    rwa [k1] at h)
  have HVY : Hid (∀ v : Later ((u.val.alloc (.cells #[.slice a l.length cap] 22)).alloc (.cells #[.int .i64 0, .slice none 0 0] 29)).heap.size ((u.val.alloc (.cells #[.slice a l.length cap] 22)).alloc (.cells #[.int .i64 0, .slice none 0 0] 29)), ∃ w : Later B W, w.val = v.val) := Lib.hid (fun v => ⟨((u.alloc _).alloc _).up v, rfl⟩)
  have HI : Hid (IntsAt ((u.val.alloc (.cells #[.slice a l.length cap] 22)).alloc (.cells #[.int .i64 0, .slice none 0 0] 29)).heap.size ((u.val.alloc (.cells #[.slice a l.length cap] 22)).alloc (.cells #[.int .i64 0, .slice none 0 0] 29)) a l) := Lib.hid (h.to ((u.alloc _).alloc _))
  have hYs : ((u.val.alloc (.cells #[.slice a l.length cap] 22)).alloc (.cells #[.int .i64 0, .slice none 0 0] 29)).heap.size = u.val.heap.size + 2 := by simp
  have KF : Hid (Calls Try.prog 18 #[.int .i64 n, .slice a l.length cap] ((u.val.alloc (.cells #[.slice a l.length cap] 22)).alloc (.cells #[.int .i64 0, .slice none 0 0] 29)) (Ret ((u.val.alloc (.cells #[.slice a l.length cap] 22)).alloc (.cells #[.int .i64 0, .slice none 0 0] 29)).heap.size ((u.val.alloc (.cells #[.slice a l.length cap] 22)).alloc (.cells #[.int .i64 0, .slice none 0 0] 29)) (.int .i64 (errno (decide (isFam n l)) 1)))) := Lib.hid (c_family (Later.self ((u.val.alloc (.cells #[.slice a l.length cap] 22)).alloc (.cells #[.int .i64 0, .slice none 0 0] 29))) n l a cap HI.out (by omega))
  have HFm := Lib.hid hF
  clear h k1 hF
  go_enter Try.func6, Try.ntmps6
  go_upto_region 1 with fail
  generalize hgu : u.val.heap.size = gu at *
  clear hgu
  generalize ((u.val.alloc (.cells #[.slice a l.length cap] 22)).alloc (.cells #[.int .i64 0, .slice none 0 0] 29)) = Y at *
  have q3 : ∀ w : Later Y.heap.size Y, w.val.cell? ⟨gu, 0, none⟩ = some (.slice a l.length cap) := fun w => (X3.out.keep w.below).c0
  have hg4 : gu + 1 < Y.heap.size := by omega
  obtain ⟨y, hy⟩ : ∃ y : Later Y.heap.size Y, y.val = Y := ⟨Later.self _, rfl⟩
  have KFy : Hid (Calls Try.prog 18 #[.int .i64 n, .slice a l.length cap] y.val (Ret Y.heap.size Y (.int .i64 (errno (decide (isFam n l)) 1)))) := Lib.hid (by rw [hy]; exact KF.out)
  rw [← hy]
  clear hy KF u
  have q3y := q3 y
  have f0 : ∀ (w : Later Y.heap.size Y), w.val.cell? ⟨gu + 1, 0, none⟩ = some (.int .i64 0) := fun w => (X4.out.keep_at w.below hg4).cell rfl
  have z0 : ∀ (w : Later Y.heap.size Y), w.val.frozen? ⟨gu + 1, 0, none⟩ = false := fun w => (X4.out.keep_at w.below hg4).fz 0
  have f1 : ∀ (w : Later Y.heap.size Y) (x0 : Value), (w.val.setCell ⟨gu + 1, 0, none⟩ x0).cell? ⟨gu + 1, 1, none⟩ = some (.slice none 0 0) := fun w x0 => ((X4.out.keep_at w.below hg4).set 0 x0).cell rfl
  have z1 : ∀ (w : Later Y.heap.size Y) (x0 : Value), (w.val.setCell ⟨gu + 1, 0, none⟩ x0).frozen? ⟨gu + 1, 1, none⟩ = false := fun w x0 => ((X4.out.keep_at w.below hg4).set 0 x0).fz 1
  by_cases hfam : isFam n l
  case neg =>
    obtain ⟨rfl, rfl, rfl⟩ := HFm.out.bad hfam
    have he : errno (decide (isFam n l)) 1 = 1 := by rw [decide_eq_false hfam]; rfl
    rw [he] at KFy
    clear he HFm hfam
    go_wp2_with (first | (go_at_call 18; (with_reducible refine (KFy.out).mono ?_); rintro e _ ⟨rfl, v1, rfl⟩) | fail)
    refine bodyPost_ret (results_row (vs := [.int .i64 0, .slice none 0 0]) rfl _ _ (gu + 1) rfl (((X4.out.keep v1.below).set 0 _).set 1 _) Try.underlying29 (by kernel_rfl)) rfl ?_
    obtain ⟨y1, hy1⟩ := later_set (HVY.out v1) (g := gu + 1) (i := 0) (by omega) (.int .i64 0)
    obtain ⟨y2, hy2⟩ := later_set ⟨y1, hy1⟩ (g := gu + 1) (i := 1) (by omega) (.slice none 0 0)
    exact RetP.of ⟨y2, hy2⟩ MatTO.no
  obtain ⟨m, L, hnm, hm, hlL, hlt, hpw, hl256, hfam2⟩ := fam_open hfam
  obtain ⟨e1, e2, e3, hok⟩ := HFm.out.good m L hnm hlL hfam
  subst hnm
  have he : errno (decide (isFam (m : Int) l)) 1 = 0 := by rw [decide_eq_true hfam]; rfl
  rw [he] at KFy
  have hil : l.length = L.length := by rw [hlL, ints_len]
  have hA256 : (big m (memB L)).length ≤ 256 := by
    have h1 := thoseTo_len (fun s => memB L s && decide (sz s = bigR m (memB L))) (bit m)
    have h2 := bit_le m hm
    have h3 : big m (memB L) = thoseTo (fun s => memB L s && decide (sz s = bigR m (memB L))) (bit m) := big_those m (memB L)
    rw [h3]; omega
  have KM : Hid (∀ w : Later Y.heap.size Y, Calls Try.prog 19 #[.int .i64 m, .func (.func 20) #[] #[.pointer (some ⟨gu, 0, none⟩)], .func (.func 22) #[] #[], .slice a l.length cap] w.val (RetP w.val.heap.size w.val (MatTO w.val.heap.size nA xA er))) := Lib.hid (fun w => by
    obtain ⟨ec, hec⟩ := MatIs.ex (m : Int) (ints (biggest (those m (memB L))))
    have hbig : biggest (those m (memB L)) = big m (memB L) := rfl
    rw [e1, e2, e3]
    have hgw : gu < w.val.heap.size := by have := w.size; omega
    have hIw := HI.out.to w
    have hbw := q3 w
    rw [hlL] at hIw hbw
    have hX256 : (ints (those m (indP (big m (memB L))))).length ≤ 1048576 := by
      rw [ints_len]
      have h1 := thoseTo_len (indP (big m (memB L))) (bit m)
      have h2 := bit_le m hm
      have h3 : those m (indP (big m (memB L))) = thoseTo (indP (big m (memB L))) (bit m) := rfl
      rw [h3]; omega
    have hh := c_axMade (Later.self w.val) m hm 20 #[.pointer (some ⟨gu, 0, none⟩)] (memB L) (fun _ _ => by kernel_rfl)
      (fun x v s hs => c_ofIndTell v L (famTo.rising hfam2.2.2) (by omega) cap gu a s (hIw.to x) (by have := x.size; omega) (by rw [x.cell (a := ⟨gu, 0, none⟩) hgw]; exact hbw))
      22 (fun _ _ => by kernel_rfl) ec hec (ints (those m (indP (big m (memB L))))) (ints L) hX256
      (fun h0 v ad cp hI => by
        subst h0
        have h5 := c_axInd (Later.self v.val) m hm (ints (big m (memB L))) ad cp hI (by rw [ints_len]; omega) hec
        rw [toN_ints_eq] at h5
        exact h5)
      a cap hIw ok
      (fun hne => by
        cases hk : ok
        · rfl
        · exact absurd ((matIs_iff hec).2 (hok.1 hk).1) hne)
      (fun h0 => by
        rw [hok]
        constructor
        · intro hc; rw [hc.2]
        · intro hc; exact ⟨(matIs_iff hec).1 h0, ints_inj hc⟩)
    rw [← hlL] at hh
    exact hh)
  clear he HFm hfam hfam2 hok e1 e2 e3 hlt hpw hlL hil hA256
  go_upto_region 4 with (first | (go_at_call 18; (with_reducible refine (KFy.out).mono ?_); rintro e _ ⟨rfl, v1, rfl⟩) | fail)
  have K2 := Lib.hid (KM.out v1)
  have q3v := q3 v1
  clear KM KFy
  have hv1 := v1.size
  go_wp2_with (first | (go_at_call 19; (with_reducible refine (K2.out).mono ?_); rintro e _ ⟨_, rfl, ⟨ad, cp, rfl, hO⟩, v2, rfl⟩; have HO := Lib.hid hO; clear hO; have r0 : v2.val.cell? ⟨gu + 1, 0, none⟩ = some (.int .i64 0) := f0 (v1.up v2); have r1 : v2.val.frozen? ⟨gu + 1, 0, none⟩ = false := z0 (v1.up v2); have r2 : ∀ x : Value, (v2.val.setCell ⟨gu + 1, 0, none⟩ x).cell? ⟨gu + 1, 1, none⟩ = some (.slice none 0 0) := f1 (v1.up v2); have r3 : ∀ x : Value, (v2.val.setCell ⟨gu + 1, 0, none⟩ x).frozen? ⟨gu + 1, 1, none⟩ = false := z1 (v1.up v2)) | fail)
  refine bodyPost_ret (results_row (vs := [.int .i64 nA, .slice ad xA.length cp]) rfl _ _ (gu + 1) rfl (((X4.out.keep (v1.up v2).below).set 0 _).set 1 _) Try.underlying29 (by kernel_rfl)) rfl ?_
  obtain ⟨y1, hy1⟩ := later_set (HVY.out (v1.up v2)) (g := gu + 1) (i := 0) (by omega) (.int .i64 nA)
  obtain ⟨y2, hy2⟩ := later_set ⟨y1, hy1⟩ (g := gu + 1) (i := 1) (by omega) (.slice ad xA.length cp)
  exact RetP.of ⟨y2, hy2⟩ ⟨_, _, rfl, ((HO.out.set (by omega) _).set (by omega) _).mono (by omega)⟩

set_option maxRecDepth 100000 in
set_option maxHeartbeats 8000000 in
theorem c_ofCirc {B : Nat} {W : World} (u : Later B W) (n : Int) (l : List Int) (a : Option Addr) (cap : Nat) (h : IntsAt B W a l) (hlen : l.length ≤ 4611686018427387904) (nA : Int) (xA : List Int) (er : Int) (ok : Bool) (hF : FmIs n l CircOk (fun m L => big m (PC L)) nA xA er ok) :
    Calls Try.prog 7 #[.int .i64 n, .slice a l.length cap] u.val (RetP B W (MatTO B nA xA er)) := by
  have hB := u.size
  have k1 : (u.val.alloc (.cells #[.slice a l.length cap] 22)).heap.size = u.val.heap.size + 1 := by simp
  have X3 : Hid (RowAt1 ((u.val.alloc (.cells #[.slice a l.length cap] 22)).alloc (.cells #[.int .i64 0, .slice none 0 0] 29)) u.val.heap.size 22 (.slice a l.length cap)) := Lib.hid (row1_under (heap_alloc_new _ _) _)
  have X4 : Hid (RowL ((u.val.alloc (.cells #[.slice a l.length cap] 22)).alloc (.cells #[.int .i64 0, .slice none 0 0] 29)) (u.val.heap.size + 1) 29 [.int .i64 0, .slice none 0 0]) := Lib.hid (by
    have h := RowL.new (u.val.alloc (.cells #[.slice a l.length cap] 22)) 29 [.int .i64 0, .slice none 0 0]
    rwa [k1] at h)
  have HVY : Hid (∀ v : Later ((u.val.alloc (.cells #[.slice a l.length cap] 22)).alloc (.cells #[.int .i64 0, .slice none 0 0] 29)).heap.size ((u.val.alloc (.cells #[.slice a l.length cap] 22)).alloc (.cells #[.int .i64 0, .slice none 0 0] 29)), ∃ w : Later B W, w.val = v.val) := Lib.hid (fun v => ⟨((u.alloc _).alloc _).up v, rfl⟩)
  have HI : Hid (IntsAt ((u.val.alloc (.cells #[.slice a l.length cap] 22)).alloc (.cells #[.int .i64 0, .slice none 0 0] 29)).heap.size ((u.val.alloc (.cells #[.slice a l.length cap] 22)).alloc (.cells #[.int .i64 0, .slice none 0 0] 29)) a l) := Lib.hid (h.to ((u.alloc _).alloc _))
  have hYs : ((u.val.alloc (.cells #[.slice a l.length cap] 22)).alloc (.cells #[.int .i64 0, .slice none 0 0] 29)).heap.size = u.val.heap.size + 2 := by simp
  have KF : Hid (Calls Try.prog 18 #[.int .i64 n, .slice a l.length cap] ((u.val.alloc (.cells #[.slice a l.length cap] 22)).alloc (.cells #[.int .i64 0, .slice none 0 0] 29)) (Ret ((u.val.alloc (.cells #[.slice a l.length cap] 22)).alloc (.cells #[.int .i64 0, .slice none 0 0] 29)).heap.size ((u.val.alloc (.cells #[.slice a l.length cap] 22)).alloc (.cells #[.int .i64 0, .slice none 0 0] 29)) (.int .i64 (errno (decide (isFam n l)) 1)))) := Lib.hid (c_family (Later.self ((u.val.alloc (.cells #[.slice a l.length cap] 22)).alloc (.cells #[.int .i64 0, .slice none 0 0] 29))) n l a cap HI.out (by omega))
  have HFm := Lib.hid hF
  clear h k1 hF
  go_enter Try.func7, Try.ntmps7
  go_upto_region 1 with fail
  generalize hgu : u.val.heap.size = gu at *
  clear hgu
  generalize ((u.val.alloc (.cells #[.slice a l.length cap] 22)).alloc (.cells #[.int .i64 0, .slice none 0 0] 29)) = Y at *
  have q3 : ∀ w : Later Y.heap.size Y, w.val.cell? ⟨gu, 0, none⟩ = some (.slice a l.length cap) := fun w => (X3.out.keep w.below).c0
  have hg4 : gu + 1 < Y.heap.size := by omega
  obtain ⟨y, hy⟩ : ∃ y : Later Y.heap.size Y, y.val = Y := ⟨Later.self _, rfl⟩
  have KFy : Hid (Calls Try.prog 18 #[.int .i64 n, .slice a l.length cap] y.val (Ret Y.heap.size Y (.int .i64 (errno (decide (isFam n l)) 1)))) := Lib.hid (by rw [hy]; exact KF.out)
  rw [← hy]
  clear hy KF u
  have q3y := q3 y
  have f0 : ∀ (w : Later Y.heap.size Y), w.val.cell? ⟨gu + 1, 0, none⟩ = some (.int .i64 0) := fun w => (X4.out.keep_at w.below hg4).cell rfl
  have z0 : ∀ (w : Later Y.heap.size Y), w.val.frozen? ⟨gu + 1, 0, none⟩ = false := fun w => (X4.out.keep_at w.below hg4).fz 0
  have f1 : ∀ (w : Later Y.heap.size Y) (x0 : Value), (w.val.setCell ⟨gu + 1, 0, none⟩ x0).cell? ⟨gu + 1, 1, none⟩ = some (.slice none 0 0) := fun w x0 => ((X4.out.keep_at w.below hg4).set 0 x0).cell rfl
  have z1 : ∀ (w : Later Y.heap.size Y) (x0 : Value), (w.val.setCell ⟨gu + 1, 0, none⟩ x0).frozen? ⟨gu + 1, 1, none⟩ = false := fun w x0 => ((X4.out.keep_at w.below hg4).set 0 x0).fz 1
  by_cases hfam : isFam n l
  case neg =>
    obtain ⟨rfl, rfl, rfl⟩ := HFm.out.bad hfam
    have he : errno (decide (isFam n l)) 1 = 1 := by rw [decide_eq_false hfam]; rfl
    rw [he] at KFy
    clear he HFm hfam
    go_wp2_with (first | (go_at_call 18; (with_reducible refine (KFy.out).mono ?_); rintro e _ ⟨rfl, v1, rfl⟩) | fail)
    refine bodyPost_ret (results_row (vs := [.int .i64 0, .slice none 0 0]) rfl _ _ (gu + 1) rfl (((X4.out.keep v1.below).set 0 _).set 1 _) Try.underlying29 (by kernel_rfl)) rfl ?_
    obtain ⟨y1, hy1⟩ := later_set (HVY.out v1) (g := gu + 1) (i := 0) (by omega) (.int .i64 0)
    obtain ⟨y2, hy2⟩ := later_set ⟨y1, hy1⟩ (g := gu + 1) (i := 1) (by omega) (.slice none 0 0)
    exact RetP.of ⟨y2, hy2⟩ MatTO.no
  obtain ⟨m, L, hnm, hm, hlL, hlt, hpw, hl256, hfam2⟩ := fam_open hfam
  obtain ⟨e1, e2, e3, hok⟩ := HFm.out.good m L hnm hlL hfam
  subst hnm
  have he : errno (decide (isFam (m : Int) l)) 1 = 0 := by rw [decide_eq_true hfam]; rfl
  rw [he] at KFy
  have hil : l.length = L.length := by rw [hlL, ints_len]
  have hA256 : (big m (PC L)).length ≤ 256 := by
    have h1 := thoseTo_len (fun s => PC L s && decide (sz s = bigR m (PC L))) (bit m)
    have h2 := bit_le m hm
    have h3 : big m (PC L) = thoseTo (fun s => PC L s && decide (sz s = bigR m (PC L))) (bit m) := big_those m (PC L)
    rw [h3]; omega
  have KM : Hid (∀ w : Later Y.heap.size Y, Calls Try.prog 19 #[.int .i64 m, .func (.func 23) #[] #[.pointer (some ⟨gu, 0, none⟩)], .func (.func 26) #[] #[], .slice a l.length cap] w.val (RetP w.val.heap.size w.val (MatTO w.val.heap.size nA xA er))) := Lib.hid (fun w => by
    obtain ⟨ec, hec⟩ := MatIs.ex (m : Int) (ints (biggest (those m (PC L))))
    have hbig : biggest (those m (PC L)) = big m (PC L) := rfl
    rw [e1, e2, e3]
    have hgw : gu < w.val.heap.size := by have := w.size; omega
    have hIw := HI.out.to w
    have hbw := q3 w
    rw [hlL] at hIw hbw
    have hX256 : (ints (those m (circP (big m (PC L))))).length ≤ 1048576 := by
      rw [ints_len]
      have h1 := thoseTo_len (circP (big m (PC L))) (bit m)
      have h2 := bit_le m hm
      have h3 : those m (circP (big m (PC L))) = thoseTo (circP (big m (PC L))) (bit m) := rfl
      rw [h3]; omega
    have hh := c_axMade (Later.self w.val) m hm 23 #[.pointer (some ⟨gu, 0, none⟩)] (PC L) (fun _ _ => by kernel_rfl)
      (fun x v s hs => c_ofCircTell v L (fun b hb => nat8 hm (hlt b hb)) (by omega) cap gu a s (nat8 hm hs) (hIw.to x) (by have := x.size; omega) (by rw [x.cell (a := ⟨gu, 0, none⟩) hgw]; exact hbw))
      26 (fun _ _ => by kernel_rfl) ec hec (ints (those m (circP (big m (PC L))))) (ints L) hX256
      (fun h0 v ad cp hI => by
        subst h0
        have h5 := c_axCirc (Later.self v.val) m hm (ints (big m (PC L))) ad cp hI (by rw [ints_len]; omega) hec
        rw [toN_ints_eq] at h5
        exact h5)
      a cap hIw ok
      (fun hne => by
        cases hk : ok
        · rfl
        · exact absurd ((matIs_iff hec).2 (hok.1 hk).1) hne)
      (fun h0 => by
        rw [hok]
        constructor
        · intro hc; rw [hc.2]
        · intro hc; exact ⟨(matIs_iff hec).1 h0, ints_inj hc⟩)
    rw [← hlL] at hh
    exact hh)
  clear he HFm hfam hfam2 hok e1 e2 e3 hlt hpw hlL hil hA256
  go_upto_region 4 with (first | (go_at_call 18; (with_reducible refine (KFy.out).mono ?_); rintro e _ ⟨rfl, v1, rfl⟩) | fail)
  have K2 := Lib.hid (KM.out v1)
  have q3v := q3 v1
  clear KM KFy
  have hv1 := v1.size
  go_wp2_with (first | (go_at_call 19; (with_reducible refine (K2.out).mono ?_); rintro e _ ⟨_, rfl, ⟨ad, cp, rfl, hO⟩, v2, rfl⟩; have HO := Lib.hid hO; clear hO; have r0 : v2.val.cell? ⟨gu + 1, 0, none⟩ = some (.int .i64 0) := f0 (v1.up v2); have r1 : v2.val.frozen? ⟨gu + 1, 0, none⟩ = false := z0 (v1.up v2); have r2 : ∀ x : Value, (v2.val.setCell ⟨gu + 1, 0, none⟩ x).cell? ⟨gu + 1, 1, none⟩ = some (.slice none 0 0) := f1 (v1.up v2); have r3 : ∀ x : Value, (v2.val.setCell ⟨gu + 1, 0, none⟩ x).frozen? ⟨gu + 1, 1, none⟩ = false := z1 (v1.up v2)) | fail)
  refine bodyPost_ret (results_row (vs := [.int .i64 nA, .slice ad xA.length cp]) rfl _ _ (gu + 1) rfl (((X4.out.keep (v1.up v2).below).set 0 _).set 1 _) Try.underlying29 (by kernel_rfl)) rfl ?_
  obtain ⟨y1, hy1⟩ := later_set (HVY.out (v1.up v2)) (g := gu + 1) (i := 0) (by omega) (.int .i64 nA)
  obtain ⟨y2, hy2⟩ := later_set ⟨y1, hy1⟩ (g := gu + 1) (i := 1) (by omega) (.slice ad xA.length cp)
  exact RetP.of ⟨y2, hy2⟩ ⟨_, _, rfl, ((HO.out.set (by omega) _).set (by omega) _).mono (by omega)⟩
end Go.Proofs.Ytmcffbmhkbijlaa
