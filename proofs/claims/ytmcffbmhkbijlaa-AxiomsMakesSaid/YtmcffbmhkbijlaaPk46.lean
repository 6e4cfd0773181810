
/-
  axioms.OfFlats, axioms.OfRanks.
-/
import Derived.Test.YtmcffbmhkbijlaaPk44
import Derived.Test.YtmcffbmhkbijlaaPk35
import Derived.Test.YtmcffbmhkbijlaaPk32
namespace Go.Proofs.Ytmcffbmhkbijlaa
open Go.RowKit
set_option linter.unusedVariables false

def FlatOk (m : Nat) (L : List Nat) : Prop := (∃ r, MatL m (big m (PF m L)) r) ∧ those m (flatP m (big m (PF m L))) = L
set_option maxRecDepth 100000 in
set_option maxHeartbeats 8000000 in
theorem c_ofFlats {B : Nat} {W : World} (u : Later B W) (n : Int) (l : List Int) (a : Option Addr) (cap : Nat) (h : IntsAt B W a l) (hlen : l.length ≤ 4611686018427387904) (nA : Int) (xA : List Int) (er : Int) (ok : Bool) (hF : FmIs n l FlatOk (fun m L => big m (PF m L)) nA xA er ok) :
    Calls Try.prog 8 #[.int .i64 n, .slice a l.length cap] u.val (RetP B W (MatTO B nA xA er)) := by
  have hB := u.size
  have k0 : (u.val.alloc (.cells #[.int .i64 n] 3)).heap.size = u.val.heap.size + 1 := by simp
  have k1 : ((u.val.alloc (.cells #[.int .i64 n] 3)).alloc (.cells #[.slice a l.length cap] 22)).heap.size = u.val.heap.size + 2 := by simp
  have X2 : Hid (RowAt1 (((u.val.alloc (.cells #[.int .i64 n] 3)).alloc (.cells #[.slice a l.length cap] 22)).alloc (.cells #[.int .i64 0, .slice none 0 0] 29)) u.val.heap.size 3 (.int .i64 n)) := Lib.hid (row1_under (row1_under (heap_alloc_new _ _) _) _)
  have X3 : Hid (RowAt1 (((u.val.alloc (.cells #[.int .i64 n] 3)).alloc (.cells #[.slice a l.length cap] 22)).alloc (.cells #[.int .i64 0, .slice none 0 0] 29)) (u.val.heap.size + 1) 22 (.slice a l.length cap)) := Lib.hid (by
    have h : RowAt1 ((u.val.alloc (.cells #[.int .i64 n] 3)).alloc (.cells #[.slice a l.length cap] 22)) (u.val.alloc (.cells #[.int .i64 n] 3)).heap.size 22 (.slice a l.length cap) := heap_alloc_new _ _
    rw [k0] at h
    exact row1_under h _)
  have X4 : Hid (RowL (((u.val.alloc (.cells #[.int .i64 n] 3)).alloc (.cells #[.slice a l.length cap] 22)).alloc (.cells #[.int .i64 0, .slice none 0 0] 29)) (u.val.heap.size + 2) 29 [.int .i64 0, .slice none 0 0]) := Lib.hid (by
    have h := RowL.new ((u.val.alloc (.cells #[.int .i64 n] 3)).alloc (.cells #[.slice a l.length cap] 22)) 29 [.int .i64 0, .slice none 0 0]
    rwa [k1] at h)
  have HVY : Hid (∀ v : Later (((u.val.alloc (.cells #[.int .i64 n] 3)).alloc (.cells #[.slice a l.length cap] 22)).alloc (.cells #[.int .i64 0, .slice none 0 0] 29)).heap.size (((u.val.alloc (.cells #[.int .i64 n] 3)).alloc (.cells #[.slice a l.length cap] 22)).alloc (.cells #[.int .i64 0, .slice none 0 0] 29)), ∃ w : Later B W, w.val = v.val) := Lib.hid (fun v => ⟨(((u.alloc _).alloc _).alloc _).up v, rfl⟩)
  have HI : Hid (IntsAt (((u.val.alloc (.cells #[.int .i64 n] 3)).alloc (.cells #[.slice a l.length cap] 22)).alloc (.cells #[.int .i64 0, .slice none 0 0] 29)).heap.size (((u.val.alloc (.cells #[.int .i64 n] 3)).alloc (.cells #[.slice a l.length cap] 22)).alloc (.cells #[.int .i64 0, .slice none 0 0] 29)) a l) := Lib.hid (h.to (((u.alloc _).alloc _).alloc _))
  have hYs : (((u.val.alloc (.cells #[.int .i64 n] 3)).alloc (.cells #[.slice a l.length cap] 22)).alloc (.cells #[.int .i64 0, .slice none 0 0] 29)).heap.size = u.val.heap.size + 3 := by simp
  have KF : Hid (Calls Try.prog 18 #[.int .i64 n, .slice a l.length cap] (((u.val.alloc (.cells #[.int .i64 n] 3)).alloc (.cells #[.slice a l.length cap] 22)).alloc (.cells #[.int .i64 0, .slice none 0 0] 29)) (Ret (((u.val.alloc (.cells #[.int .i64 n] 3)).alloc (.cells #[.slice a l.length cap] 22)).alloc (.cells #[.int .i64 0, .slice none 0 0] 29)).heap.size (((u.val.alloc (.cells #[.int .i64 n] 3)).alloc (.cells #[.slice a l.length cap] 22)).alloc (.cells #[.int .i64 0, .slice none 0 0] 29)) (.int .i64 (errno (decide (isFam n l)) 1)))) := Lib.hid (c_family (Later.self (((u.val.alloc (.cells #[.int .i64 n] 3)).alloc (.cells #[.slice a l.length cap] 22)).alloc (.cells #[.int .i64 0, .slice none 0 0] 29))) n l a cap HI.out (by omega))
  have HFm := Lib.hid hF
  clear h k0 k1 hF
  go_enter Try.func8, Try.ntmps8
  go_upto_region 1 with fail
  generalize hgu : u.val.heap.size = gu at *
  clear hgu
  generalize (((u.val.alloc (.cells #[.int .i64 n] 3)).alloc (.cells #[.slice a l.length cap] 22)).alloc (.cells #[.int .i64 0, .slice none 0 0] 29)) = Y at *
  have q3 : ∀ w : Later Y.heap.size Y, w.val.cell? ⟨gu + 1, 0, none⟩ = some (.slice a l.length cap) := fun w => (X3.out.keep w.below).c0
  have q2 : ∀ w : Later Y.heap.size Y, w.val.cell? ⟨gu, 0, none⟩ = some (.int .i64 n) := fun w => (X2.out.keep w.below).c0
  have hg4 : gu + 2 < Y.heap.size := by omega
  obtain ⟨y, hy⟩ : ∃ y : Later Y.heap.size Y, y.val = Y := ⟨Later.self _, rfl⟩
  have KFy : Hid (Calls Try.prog 18 #[.int .i64 n, .slice a l.length cap] y.val (Ret Y.heap.size Y (.int .i64 (errno (decide (isFam n l)) 1)))) := Lib.hid (by rw [hy]; exact KF.out)
  rw [← hy]
  clear hy KF u
  have q3y := q3 y
  have q2y := q2 y
  have f0 : ∀ (w : Later Y.heap.size Y), w.val.cell? ⟨gu + 2, 0, none⟩ = some (.int .i64 0) := fun w => (X4.out.keep_at w.below hg4).cell rfl
  have z0 : ∀ (w : Later Y.heap.size Y), w.val.frozen? ⟨gu + 2, 0, none⟩ = false := fun w => (X4.out.keep_at w.below hg4).fz 0
  have f1 : ∀ (w : Later Y.heap.size Y) (x0 : Value), (w.val.setCell ⟨gu + 2, 0, none⟩ x0).cell? ⟨gu + 2, 1, none⟩ = some (.slice none 0 0) := fun w x0 => ((X4.out.keep_at w.below hg4).set 0 x0).cell rfl
  have z1 : ∀ (w : Later Y.heap.size Y) (x0 : Value), (w.val.setCell ⟨gu + 2, 0, none⟩ x0).frozen? ⟨gu + 2, 1, none⟩ = false := fun w x0 => ((X4.out.keep_at w.below hg4).set 0 x0).fz 1
  by_cases hfam : isFam n l
  case neg =>
    obtain ⟨rfl, rfl, rfl⟩ := HFm.out.bad hfam
    have he : errno (decide (isFam n l)) 1 = 1 := by rw [decide_eq_false hfam]; rfl
    rw [he] at KFy
    clear he HFm hfam
    go_wp2_with (first | (go_at_call 18; (with_reducible refine (KFy.out).mono ?_); rintro e _ ⟨rfl, v1, rfl⟩) | fail)
    refine bodyPost_ret (results_row (vs := [.int .i64 0, .slice none 0 0]) rfl _ _ (gu + 2) rfl (((X4.out.keep v1.below).set 0 _).set 1 _) Try.underlying29 (by kernel_rfl)) rfl ?_
    obtain ⟨y1, hy1⟩ := later_set (HVY.out v1) (g := gu + 2) (i := 0) (by omega) (.int .i64 0)
    obtain ⟨y2, hy2⟩ := later_set ⟨y1, hy1⟩ (g := gu + 2) (i := 1) (by omega) (.slice none 0 0)
    exact RetP.of ⟨y2, hy2⟩ MatTO.no
  obtain ⟨m, L, hnm, hm, hlL, hlt, hpw, hl256, hfam2⟩ := fam_open hfam
  obtain ⟨e1, e2, e3, hok⟩ := HFm.out.good m L hnm hlL hfam
  subst hnm
  have he : errno (decide (isFam (m : Int) l)) 1 = 0 := by rw [decide_eq_true hfam]; rfl
  rw [he] at KFy
  have hil : l.length = L.length := by rw [hlL, ints_len]
  have hA256 : (big m (PF m L)).length ≤ 256 := by
    have h1 := thoseTo_len (fun s => PF m L s && decide (sz s = bigR m (PF m L))) (bit m)
    have h2 := bit_le m hm
    have h3 : big m (PF m L) = thoseTo (fun s => PF m L s && decide (sz s = bigR m (PF m L))) (bit m) := big_those m (PF m L)
    rw [h3]; omega
  have KM : Hid (∀ (w : Later Y.heap.size Y) (gh : Nat), RowAt1 w.val gh 36 (.func (.func 27) #[] #[.pointer (some ⟨gu, 0, none⟩), .pointer (some ⟨gu + 1, 0, none⟩)]) → Calls Try.prog 19 #[.int .i64 m, .func (.func 28) #[] #[.pointer (some ⟨gu, 0, none⟩), .pointer (some ⟨gh, 0, none⟩)], .func (.func 29) #[] #[], .slice a l.length cap] w.val (RetP w.val.heap.size w.val (MatTO w.val.heap.size nA xA er))) := Lib.hid (fun w gh hgh => by
    obtain ⟨ec, hec⟩ := MatIs.ex (m : Int) (ints (biggest (those m (PF m L))))
    have hbig : biggest (those m (PF m L)) = big m (PF m L) := rfl
    rw [e1, e2, e3]
    have hgw : gu < w.val.heap.size := by have := w.size; omega
    have hgw1 : gu + 1 < w.val.heap.size := by have := w.size; omega
    have hbw2 := q2 w
    have hIw := HI.out.to w
    have hbw := q3 w
    rw [hlL] at hIw
    rw [hil] at hbw
    have hX256 : (ints (those m (flatP m (big m (PF m L))))).length ≤ 1048576 := by
      rw [ints_len]
      have h1 := thoseTo_len (flatP m (big m (PF m L))) (bit m)
      have h2 := bit_le m hm
      have h3 : those m (flatP m (big m (PF m L))) = thoseTo (flatP m (big m (PF m L))) (bit m) := rfl
      rw [h3]; omega
    have hh := c_axMade (Later.self w.val) m hm 28 #[.pointer (some ⟨gu, 0, none⟩), .pointer (some ⟨gh, 0, none⟩)] (PF m L) (fun _ _ => by kernel_rfl)
      (fun x v s hs => c_ofFlatTell v m hm L (fun b hb => nat8 hm (hlt b hb)) (by omega) cap gu (gu + 1) gh a s hs (hIw.to x) (by have := x.size; omega) (by have := x.size; omega) (Nat.lt_of_lt_of_le hgh.lt x.size) (by rw [x.cell (a := ⟨gu, 0, none⟩) hgw]; exact hbw2) (by rw [x.cell (a := ⟨gu + 1, 0, none⟩) hgw1]; exact hbw) (by rw [x.cell (a := ⟨gh, 0, none⟩) hgh.lt]; exact hgh.c0))
      29 (fun _ _ => by kernel_rfl) ec hec (ints (those m (flatP m (big m (PF m L))))) (ints L) hX256
      (fun h0 v ad cp hI => by
        subst h0
        have h5 := c_axFlats (Later.self v.val) m hm (ints (big m (PF m L))) ad cp hI (by rw [ints_len]; omega) hec
        rw [toN_ints_eq] at h5
        exact h5)
      a cap hIw ok
      (fun hne => by
        cases hk : ok
        · rfl
        · exact absurd ((matIs_iff hec).2 (hok.1 hk).1) hne)
      (fun h0 => by
        rw [hok]
        constructor
        · intro hc; rw [hc.2]
        · intro hc; exact ⟨(matIs_iff hec).1 h0, ints_inj hc⟩)
    rw [← hlL] at hh
    exact hh)
  clear he HFm hfam hfam2 hok e1 e2 e3 hlt hpw hlL hil hA256
  go_upto_region 4 with (first | (go_at_call 18; (with_reducible refine (KFy.out).mono ?_); rintro e _ ⟨rfl, v1, rfl⟩) | fail)
  clear KFy
  have hsf := fun (a : Addr) (c : Array Value) (w : World) => run_store Try.prog w a (.func (.func 27) #[] c) .plain rfl
  have hp1 : ∀ (args : Array Value) (w : World), (callFunc 27 args).run Try.prog w = .ok (.enter 27 args) w := fun _ _ => by kernel_rfl
  go_upto_region 5 with fail
  obtain ⟨v5, hv5⟩ : ∃ v5 : Later Y.heap.size Y, v5.val = v1.val.alloc (.cells #[.func (.func 27) #[] #[.pointer (some ⟨gu, 0, none⟩), .pointer (some ⟨gu + 1, 0, none⟩)]] 36) := ⟨v1.alloc _, rfl⟩
  have HRh : Hid (RowAt1 v5.val v1.val.heap.size 36 (.func (.func 27) #[] #[.pointer (some ⟨gu, 0, none⟩), .pointer (some ⟨gu + 1, 0, none⟩)])) := Lib.hid (by rw [hv5]; exact heap_alloc_new _ _)
  rw [← hv5]
  have K2 := Lib.hid (KM.out v5 _ HRh.out)
  have q3v := q3 v5
  have q2v := q2 v5
  clear KM hv5 HRh
  generalize v1.val.heap.size = gh at *
  clear v1
  have hv5 := v5.size
  go_wp2_with (first | (go_at_call 19; (with_reducible refine (K2.out).mono ?_); rintro e _ ⟨_, rfl, ⟨ad, cp, rfl, hO⟩, v2, rfl⟩; have HO := Lib.hid hO; clear hO; have r0 : v2.val.cell? ⟨gu + 2, 0, none⟩ = some (.int .i64 0) := f0 (v5.up v2); have r1 : v2.val.frozen? ⟨gu + 2, 0, none⟩ = false := z0 (v5.up v2); have r2 : ∀ x : Value, (v2.val.setCell ⟨gu + 2, 0, none⟩ x).cell? ⟨gu + 2, 1, none⟩ = some (.slice none 0 0) := f1 (v5.up v2); have r3 : ∀ x : Value, (v2.val.setCell ⟨gu + 2, 0, none⟩ x).frozen? ⟨gu + 2, 1, none⟩ = false := z1 (v5.up v2)) | fail)
  refine bodyPost_ret (results_row (vs := [.int .i64 nA, .slice ad xA.length cp]) rfl _ _ (gu + 2) rfl (((X4.out.keep (v5.up v2).below).set 0 _).set 1 _) Try.underlying29 (by kernel_rfl)) rfl ?_
  obtain ⟨y1, hy1⟩ := later_set (HVY.out (v5.up v2)) (g := gu + 2) (i := 0) (by omega) (.int .i64 nA)
  obtain ⟨y2, hy2⟩ := later_set ⟨y1, hy1⟩ (g := gu + 2) (i := 1) (by omega) (.slice ad xA.length cp)
  exact RetP.of ⟨y2, hy2⟩ ⟨_, _, rfl, ((HO.out.set (by omega) _).set (by omega) _).mono (by omega)⟩

end Go.Proofs.Ytmcffbmhkbijlaa
