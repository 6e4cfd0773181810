
/-
  axioms.OfRanks.
-/
import Derived.Test.YtmcffbmhkbijlaaPk44
import Derived.Test.YtmcffbmhkbijlaaPk32
namespace Go.Proofs.Ytmcffbmhkbijlaa
open Go.RowKit
set_option linter.unusedVariables false

def RankOk (m : Nat) (f : Nat → Int) : Prop := (∃ r, MatL m (big m (PR f)) r) ∧ ∀ s, s < bit m → ((rk (big m (PR f)) s : Nat) : Int) = f s
def rkGood (n : Int) (l : List Int) : Prop := 0 ≤ n ∧ n ≤ 8 ∧ l.length = bit n.toNat
/-- what an answer is, for ranks -/
structure RkIs (n : Int) (l : List Int) (nA : Int) (xA : List Int) (er : Int) (ok : Bool) : Prop where
  bad : ¬ rkGood n l → nA = 0 ∧ xA = [] ∧ er = 1
  good : ∀ m : Nat, n = (m : Int) → rkGood n l → nA = mdN ok m ∧ xA = mdX ok (big m (PR (fun s => l.getD s 0))) ∧ er = mdE ok ∧ (ok = true ↔ RankOk m (fun s => l.getD s 0))
theorem RkIs.ex (n : Int) (l : List Int) : ∃ nA xA er ok, RkIs n l nA xA er ok := by
  by_cases h : rkGood n l
  · obtain ⟨m, rfl⟩ := Int.eq_ofNat_of_zero_le h.1
    have key : ∀ (ok : Bool), (ok = true ↔ RankOk m (fun s => l.getD s 0)) → RkIs (m : Int) l (mdN ok m) (mdX ok (big m (PR (fun s => l.getD s 0)))) (mdE ok) ok := fun ok hok => ⟨fun c => absurd h c, fun m' e1 _ => by
      have em : m = m' := Int.ofNat.inj e1
      subst em
      exact ⟨rfl, rfl, rfl, hok⟩⟩
    by_cases hP : RankOk m (fun s => l.getD s 0)
    · exact ⟨_, _, _, true, key true ⟨fun _ => hP, fun _ => rfl⟩⟩
    · exact ⟨_, _, _, false, key false ⟨fun c => (by cases c), fun c => absurd c hP⟩⟩
  · exact ⟨0, [], 1, false, fun _ => ⟨rfl, rfl, rfl⟩, fun _ _ c => absurd c h⟩
theorem rkL_eq {m : Nat} {A : List Nat} {l : List Int} (hl : l.length = bit m) : rkL m A = l ↔ ∀ s, s < bit m → ((rk A s : Nat) : Int) = l.getD s 0 := by
  have h1 : (rkL m A).length = l.length := by unfold rkL; rw [tabL_len, hl]
  rw [← list_ext_getD h1, h1, hl]
  constructor
  · intro h s hs
    rw [← h s hs]
    unfold rkL
    rw [tabL_getD hs]
  · intro h s hs
    rw [← h s hs]
    unfold rkL
    rw [tabL_getD hs]

set_option maxRecDepth 100000 in
set_option maxHeartbeats 8000000 in
theorem c_ofRanks {B : Nat} {W : World} (u : Later B W) (n : Int) (l : List Int) (a : Option Addr) (cap : Nat) (h : IntsAt B W a l) (hlen : l.length ≤ 4611686018427387904) (nA : Int) (xA : List Int) (er : Int) (ok : Bool) (hF : RkIs n l nA xA er ok) :
    Calls Try.prog 15 #[.int .i64 n, .slice a l.length cap] u.val (RetP B W (MatTO B nA xA er)) := by
  have hB := u.size
  have k1 : (u.val.alloc (.cells #[.slice a l.length cap] 22)).heap.size = u.val.heap.size + 1 := by simp
  have X3 : Hid (RowAt1 ((u.val.alloc (.cells #[.slice a l.length cap] 22)).alloc (.cells #[.int .i64 0, .slice none 0 0] 29)) u.val.heap.size 22 (.slice a l.length cap)) := Lib.hid (row1_under (heap_alloc_new _ _) _)
  have X4 : Hid (RowL ((u.val.alloc (.cells #[.slice a l.length cap] 22)).alloc (.cells #[.int .i64 0, .slice none 0 0] 29)) (u.val.heap.size + 1) 29 [.int .i64 0, .slice none 0 0]) := Lib.hid (by
    have h := RowL.new (u.val.alloc (.cells #[.slice a l.length cap] 22)) 29 [.int .i64 0, .slice none 0 0]
    rwa [k1] at h)
  have HVY : Hid (∀ v : Later ((u.val.alloc (.cells #[.slice a l.length cap] 22)).alloc (.cells #[.int .i64 0, .slice none 0 0] 29)).heap.size ((u.val.alloc (.cells #[.slice a l.length cap] 22)).alloc (.cells #[.int .i64 0, .slice none 0 0] 29)), ∃ w : Later B W, w.val = v.val) := Lib.hid (fun v => ⟨((u.alloc _).alloc _).up v, rfl⟩)
  have HI : Hid (IntsAt ((u.val.alloc (.cells #[.slice a l.length cap] 22)).alloc (.cells #[.int .i64 0, .slice none 0 0] 29)).heap.size ((u.val.alloc (.cells #[.slice a l.length cap] 22)).alloc (.cells #[.int .i64 0, .slice none 0 0] 29)) a l) := Lib.hid (h.to ((u.alloc _).alloc _))
  have hYs : ((u.val.alloc (.cells #[.slice a l.length cap] 22)).alloc (.cells #[.int .i64 0, .slice none 0 0] 29)).heap.size = u.val.heap.size + 2 := by simp
  have HFm := Lib.hid hF
  clear h k1 hF
  go_enter Try.func15, Try.ntmps15
  go_upto_region 1 with fail
  generalize hgu : u.val.heap.size = gu at *
  clear hgu
  generalize ((u.val.alloc (.cells #[.slice a l.length cap] 22)).alloc (.cells #[.int .i64 0, .slice none 0 0] 29)) = Y at *
  have q3 : ∀ w : Later Y.heap.size Y, w.val.cell? ⟨gu, 0, none⟩ = some (.slice a l.length cap) := fun w => (X3.out.keep w.below).c0
  have hg4 : gu + 1 < Y.heap.size := by omega
  obtain ⟨y, hy⟩ : ∃ y : Later Y.heap.size Y, y.val = Y := ⟨Later.self _, rfl⟩
  rw [← hy]
  clear hy u
  have q3y := q3 y
  have f0 : ∀ (w : Later Y.heap.size Y), w.val.cell? ⟨gu + 1, 0, none⟩ = some (.int .i64 0) := fun w => (X4.out.keep_at w.below hg4).cell rfl
  have z0 : ∀ (w : Later Y.heap.size Y), w.val.frozen? ⟨gu + 1, 0, none⟩ = false := fun w => (X4.out.keep_at w.below hg4).fz 0
  have f1 : ∀ (w : Later Y.heap.size Y) (x0 : Value), (w.val.setCell ⟨gu + 1, 0, none⟩ x0).cell? ⟨gu + 1, 1, none⟩ = some (.slice none 0 0) := fun w x0 => ((X4.out.keep_at w.below hg4).set 0 x0).cell rfl
  have z1 : ∀ (w : Later Y.heap.size Y) (x0 : Value), (w.val.setCell ⟨gu + 1, 0, none⟩ x0).frozen? ⟨gu + 1, 1, none⟩ = false := fun w x0 => ((X4.out.keep_at w.below hg4).set 0 x0).fz 1
  clear q3y
  go_upto_region 1 with fail
  rcases ilt n 0 with ⟨g1, dl1⟩ | ⟨g1, dl1⟩
  · obtain ⟨rfl, rfl, rfl⟩ := HFm.out.bad (fun c => by have := c.1; omega)
    clear HFm g1
    refine wp_region_later y (by kernel_rfl) (by kernel_rfl) (fun _ => ?_)
    repeat (first | go_big_quiet_step ((fail)) | (refine wpQuiet_step (fun K hK => ?_); go_simp; refine ⟨_, fun _ => rfl, ?_⟩; refine hK _ ?_; clear hK K))
    refine wpQuiet_nil ?_
    intro y
    go_wp2
    refine bodyPost_ret (results_row (vs := [.int .i64 0, .slice none 0 0]) rfl _ _ (gu + 1) rfl (((X4.out.keep y.below).set 0 _).set 1 _) Try.underlying29 (by kernel_rfl)) rfl ?_
    obtain ⟨y1, hy1⟩ := later_set (HVY.out y) (g := gu + 1) (i := 0) (by omega) (.int .i64 0)
    obtain ⟨y2, hy2⟩ := later_set ⟨y1, hy1⟩ (g := gu + 1) (i := 1) (by omega) (.slice none 0 0)
    exact RetP.of ⟨y2, hy2⟩ MatTO.no
  rcases ilt 8 n with ⟨g2, dl2⟩ | ⟨g2, dl2⟩
  · obtain ⟨rfl, rfl, rfl⟩ := HFm.out.bad (fun c => by have := c.2.1; omega)
    clear HFm g1 g2
    refine wp_region_later y (by kernel_rfl) (by kernel_rfl) (fun _ => ?_)
    repeat (first | go_big_quiet_step ((fail)) | (refine wpQuiet_step (fun K hK => ?_); go_simp; refine ⟨_, fun _ => rfl, ?_⟩; refine hK _ ?_; clear hK K))
    refine wpQuiet_nil ?_
    intro y
    go_wp2
    refine bodyPost_ret (results_row (vs := [.int .i64 0, .slice none 0 0]) rfl _ _ (gu + 1) rfl (((X4.out.keep y.below).set 0 _).set 1 _) Try.underlying29 (by kernel_rfl)) rfl ?_
    obtain ⟨y1, hy1⟩ := later_set (HVY.out y) (g := gu + 1) (i := 0) (by omega) (.int .i64 0)
    obtain ⟨y2, hy2⟩ := later_set ⟨y1, hy1⟩ (g := gu + 1) (i := 1) (by omega) (.slice none 0 0)
    exact RetP.of ⟨y2, hy2⟩ MatTO.no
  obtain ⟨m, rfl⟩ := Int.eq_ofNat_of_zero_le g1
  have hm : m ≤ 8 := by omega
  have hbm := bit_le m hm
  have bc := bit_cast m
  have wbm := IntWalk.i64_in (bit m : Int) (by omega)
  by_cases hlm : l.length = bit m
  case neg =>
    obtain ⟨rfl, rfl, rfl⟩ := HFm.out.bad (fun c => hlm (by have := c.2.2; simpa using this))
    have dn : ((l.length : Int) != (bit m : Int)) = true := by rw [bne_iff_ne]; omega
    clear HFm hlm
    refine wp_region_later y (by kernel_rfl) (by kernel_rfl) (fun _ => ?_)
    repeat (first | go_big_quiet_step ((fail)) | (refine wpQuiet_step (fun K hK => ?_); go_simp; refine ⟨_, fun _ => rfl, ?_⟩; refine hK _ ?_; clear hK K))
    refine wpQuiet_nil ?_
    intro y
    go_wp2
    refine bodyPost_ret (results_row (vs := [.int .i64 0, .slice none 0 0]) rfl _ _ (gu + 1) rfl (((X4.out.keep y.below).set 0 _).set 1 _) Try.underlying29 (by kernel_rfl)) rfl ?_
    obtain ⟨y1, hy1⟩ := later_set (HVY.out y) (g := gu + 1) (i := 0) (by omega) (.int .i64 0)
    obtain ⟨y2, hy2⟩ := later_set ⟨y1, hy1⟩ (g := gu + 1) (i := 1) (by omega) (.slice none 0 0)
    exact RetP.of ⟨y2, hy2⟩ MatTO.no
  obtain ⟨e1, e2, e3, hok⟩ := HFm.out.good m rfl ⟨by omega, by omega, by simpa using hlm⟩
  have dn : ((l.length : Int) != (bit m : Int)) = false := by rw [bne_eq_false_iff_eq]; omega
  have hA256 : (big m (PR (fun s => l.getD s 0))).length ≤ 256 := by
    have h1 := thoseTo_len (fun s => (PR (fun s => l.getD s 0)) s && decide (sz s = bigR m (PR (fun s => l.getD s 0)))) (bit m)
    have h2 := bit_le m hm
    have h3 : big m (PR (fun s => l.getD s 0)) = thoseTo (fun s => (PR (fun s => l.getD s 0)) s && decide (sz s = bigR m (PR (fun s => l.getD s 0)))) (bit m) := big_those m (PR (fun s => l.getD s 0))
    rw [h3]; omega
  have KM : Hid (∀ w : Later Y.heap.size Y, Calls Try.prog 19 #[.int .i64 m, .func (.func 45) #[] #[.pointer (some ⟨gu, 0, none⟩)], .func (.func 47) #[] #[], .slice a l.length cap] w.val (RetP w.val.heap.size w.val (MatTO w.val.heap.size nA xA er))) := Lib.hid (fun w => by
    obtain ⟨ec, hec⟩ := MatIs.ex (m : Int) (ints (biggest (those m (PR (fun s => l.getD s 0)))))
    have hbig : biggest (those m (PR (fun s => l.getD s 0))) = big m (PR (fun s => l.getD s 0)) := rfl
    rw [e1, e2, e3]
    have hgw : gu < w.val.heap.size := by have := w.size; omega
    have hIw := HI.out.to w
    have hbw := q3 w
    have hX256 : (rkL m (big m (PR (fun s => l.getD s 0)))).length ≤ 1048576 := by unfold rkL; rw [tabL_len]; omega
    have hh := c_axMade (Later.self w.val) m hm 45 #[.pointer (some ⟨gu, 0, none⟩)] (PR (fun s => l.getD s 0)) (fun _ _ => by kernel_rfl)
      (fun x v s hs => c_ofRankTell v l cap gu a s (nat8 hm hs) (by omega) (hIw.to x) (by have := x.size; omega) (by rw [x.cell (a := ⟨gu, 0, none⟩) hgw]; exact hbw))
      47 (fun _ _ => by kernel_rfl) ec hec (rkL m (big m (PR (fun s => l.getD s 0)))) l hX256
      (fun h0 v ad cp hI => by
        subst h0
        have h5 := c_axRanksE (Later.self v.val) m hm (ints (big m (PR (fun s => l.getD s 0)))) ad cp hI (by rw [ints_len]; omega) hec
        rw [toN_ints_eq] at h5
        exact h5)
      a cap hIw ok
      (fun hne => by
        cases hk : ok
        · rfl
        · exact absurd ((matIs_iff hec).2 (hok.1 hk).1) hne)
      (fun h0 => by
        rw [hok]
        constructor
        · exact fun hc => (rkL_eq hlm).2 hc.2
        · exact fun hc => ⟨(matIs_iff hec).1 h0, (rkL_eq hlm).1 hc⟩)
    exact hh)
  clear HFm hok e1 e2 e3 hA256 hlm
  refine wp_region_later y (by kernel_rfl) (by kernel_rfl) (fun _ => ?_)
  repeat (first | go_big_quiet_step ((fail)) | (refine wpQuiet_step (fun K hK => ?_); go_simp; refine ⟨_, fun _ => rfl, ?_⟩; refine hK _ ?_; clear hK K))
  refine wpQuiet_nil ?_
  intro y
  have K2 := Lib.hid (KM.out y)
  have q3v := q3 y
  clear KM
  have hy := y.size
  go_wp2_with (first | (go_at_call 19; (with_reducible refine (K2.out).mono ?_); rintro e _ ⟨_, rfl, ⟨ad, cp, rfl, hO⟩, v2, rfl⟩; have HO := Lib.hid hO; clear hO; have r0 : v2.val.cell? ⟨gu + 1, 0, none⟩ = some (.int .i64 0) := f0 (y.up v2); have r1 : v2.val.frozen? ⟨gu + 1, 0, none⟩ = false := z0 (y.up v2); have r2 : ∀ x : Value, (v2.val.setCell ⟨gu + 1, 0, none⟩ x).cell? ⟨gu + 1, 1, none⟩ = some (.slice none 0 0) := f1 (y.up v2); have r3 : ∀ x : Value, (v2.val.setCell ⟨gu + 1, 0, none⟩ x).frozen? ⟨gu + 1, 1, none⟩ = false := z1 (y.up v2)) | fail)
  refine bodyPost_ret (results_row (vs := [.int .i64 nA, .slice ad xA.length cp]) rfl _ _ (gu + 1) rfl (((X4.out.keep (y.up v2).below).set 0 _).set 1 _) Try.underlying29 (by kernel_rfl)) rfl ?_
  obtain ⟨y1, hy1⟩ := later_set (HVY.out (y.up v2)) (g := gu + 1) (i := 0) (by omega) (.int .i64 nA)
  obtain ⟨y2, hy2⟩ := later_set ⟨y1, hy1⟩ (g := gu + 1) (i := 1) (by omega) (.slice ad xA.length cp)
  exact RetP.of ⟨y2, hy2⟩ ⟨_, _, rfl, ((HO.out.set (by omega) _).set (by omega) _).mono (by omega)⟩

end Go.Proofs.Ytmcffbmhkbijlaa
