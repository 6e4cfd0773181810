
/-
  axioms.OfHyperplanes.
-/
import Derived.Test.YtmcffbmhkbijlaaPk44
import Derived.Test.YtmcffbmhkbijlaaPk36
namespace Go.Proofs.Ytmcffbmhkbijlaa
open Go.RowKit
set_option linter.unusedVariables false

def HypOk (m : Nat) (L : List Nat) : Prop := (∃ r, MatL m (spL m L) r) ∧ those m (hypP m (spL m L)) = L
theorem fam_thoseH {n : Nat} (hn : n ≤ 8) (p : Nat → Bool) : isFam (n : Int) (ints (those n p)) := by
  have hb := bit_le n hn
  have hpw : (those n p).Pairwise (· < ·) := List.Pairwise.filter p List.pairwise_lt_range
  refine ⟨by omega, by omega, fun i hi => ?_⟩
  rw [ints_len] at hi
  have hm : (those n p).getD i 0 ∈ those n p := by simp [hi]
  have h1 := (mem_those.1 hm).1
  rw [ints_getD, all_nat]
  refine ⟨by omega, by omega, fun h0 => ?_⟩
  rw [ints_getD]
  have := List.pairwise_iff_getElem.1 hpw (i - 1) i (by omega) hi (by omega)
  have e1 : (those n p).getD (i - 1) 0 = (those n p)[i - 1]'(by omega) := by simp [show i - 1 < (those n p).length by omega]
  have e2 : (those n p).getD i 0 = (those n p)[i] := by simp [hi]
  rw [e1, e2]
  omega
theorem SP_any (L : List Nat) (s : Nat) : (ints L).any (fun c => decide (s ||| c.toNat = c.toNat)) = !SP L s := by
  rw [any_ints L (fun c => decide (s ||| c = c))]
  unfold SP
  rw [List.all_eq_not_any_not]
  simp

set_option maxRecDepth 100000 in
set_option maxHeartbeats 16000000 in
theorem c_ofHyp {B : Nat} {W : World} (u : Later B W) (n : Int) (l : List Int) (a : Option Addr) (cap : Nat) (h : IntsAt B W a l) (hlen : l.length ≤ 4611686018427387904) (nA : Int) (xA : List Int) (er : Int) (ok : Bool) (hF : FmIs n l HypOk (fun m L => spL m L) nA xA er ok) :
    Calls Try.prog 9 #[.int .i64 n, .slice a l.length cap] u.val (RetP B W (MatTO B nA xA er)) := by
  have hB := u.size
  have X4 : Hid (RowL (u.val.alloc (.cells #[.int .i64 0, .slice none 0 0] 29)) u.val.heap.size 29 [.int .i64 0, .slice none 0 0]) := Lib.hid (RowL.new _ _ _)
  have HVY : Hid (∀ v : Later (u.val.alloc (.cells #[.int .i64 0, .slice none 0 0] 29)).heap.size (u.val.alloc (.cells #[.int .i64 0, .slice none 0 0] 29)), ∃ w : Later B W, w.val = v.val) := Lib.hid (fun v => ⟨(u.alloc _).up v, rfl⟩)
  have HI : Hid (IntsAt (u.val.alloc (.cells #[.int .i64 0, .slice none 0 0] 29)).heap.size (u.val.alloc (.cells #[.int .i64 0, .slice none 0 0] 29)) a l) := Lib.hid (h.to (u.alloc _))
  have hYs : (u.val.alloc (.cells #[.int .i64 0, .slice none 0 0] 29)).heap.size = u.val.heap.size + 1 := by simp
  have KF : Hid (Calls Try.prog 18 #[.int .i64 n, .slice a l.length cap] (u.val.alloc (.cells #[.int .i64 0, .slice none 0 0] 29)) (Ret (u.val.alloc (.cells #[.int .i64 0, .slice none 0 0] 29)).heap.size (u.val.alloc (.cells #[.int .i64 0, .slice none 0 0] 29)) (.int .i64 (errno (decide (isFam n l)) 1)))) := Lib.hid (c_family (Later.self (u.val.alloc (.cells #[.int .i64 0, .slice none 0 0] 29))) n l a cap HI.out (by omega))
  have HFm := Lib.hid hF
  clear h hF
  go_enter Try.func9, Try.ntmps9
  go_upto_region 1 with fail
  generalize hgu : u.val.heap.size = gu at *
  clear hgu
  generalize (u.val.alloc (.cells #[.int .i64 0, .slice none 0 0] 29)) = Y at *
  have hg4 : gu < Y.heap.size := by omega
  obtain ⟨y, hy⟩ : ∃ y : Later Y.heap.size Y, y.val = Y := ⟨Later.self _, rfl⟩
  have KFy : Hid (Calls Try.prog 18 #[.int .i64 n, .slice a l.length cap] y.val (Ret Y.heap.size Y (.int .i64 (errno (decide (isFam n l)) 1)))) := Lib.hid (by rw [hy]; exact KF.out)
  rw [← hy]
  clear hy KF u
  have f0 : ∀ (w : Later Y.heap.size Y), w.val.cell? ⟨gu, 0, none⟩ = some (.int .i64 0) := fun w => (X4.out.keep_at w.below hg4).cell rfl
  have z0 : ∀ (w : Later Y.heap.size Y), w.val.frozen? ⟨gu, 0, none⟩ = false := fun w => (X4.out.keep_at w.below hg4).fz 0
  have f1 : ∀ (w : Later Y.heap.size Y) (x0 : Value), (w.val.setCell ⟨gu, 0, none⟩ x0).cell? ⟨gu, 1, none⟩ = some (.slice none 0 0) := fun w x0 => ((X4.out.keep_at w.below hg4).set 0 x0).cell rfl
  have z1 : ∀ (w : Later Y.heap.size Y) (x0 : Value), (w.val.setCell ⟨gu, 0, none⟩ x0).frozen? ⟨gu, 1, none⟩ = false := fun w x0 => ((X4.out.keep_at w.below hg4).set 0 x0).fz 1
  by_cases hfam : isFam n l
  case neg =>
    obtain ⟨rfl, rfl, rfl⟩ := HFm.out.bad hfam
    have he : errno (decide (isFam n l)) 1 = 1 := by rw [decide_eq_false hfam]; rfl
    rw [he] at KFy
    clear he HFm hfam
    go_wp2_with (first | (go_at_call 18; (with_reducible refine (KFy.out).mono ?_); rintro e _ ⟨rfl, v1, rfl⟩) | fail)
    refine bodyPost_ret (results_row (vs := [.int .i64 0, .slice none 0 0]) rfl _ _ gu rfl (((X4.out.keep v1.below).set 0 _).set 1 _) Try.underlying29 (by kernel_rfl)) rfl ?_
    obtain ⟨y1, hy1⟩ := later_set (HVY.out v1) (g := gu) (i := 0) (by omega) (.int .i64 0)
    obtain ⟨y2, hy2⟩ := later_set ⟨y1, hy1⟩ (g := gu) (i := 1) (by omega) (.slice none 0 0)
    exact RetP.of ⟨y2, hy2⟩ MatTO.no
  obtain ⟨m, L, hnm, hm, hlL, hlt, hpw, hl256, hfam2⟩ := fam_open hfam
  obtain ⟨e1, e2, e3, hok⟩ := HFm.out.good m L hnm hlL hfam
  subst hnm
  have he : errno (decide (isFam (m : Int) l)) 1 = 0 := by rw [decide_eq_true hfam]; rfl
  rw [he] at KFy
  have HIl : Hid (l.length = L.length) := Lib.hid (by rw [hlL, ints_len])
  have hl8 : l.length ≤ 256 := by rw [hlL, ints_len]; exact hl256
  have hbm := bit_le m hm
  have bc := bit_cast m
  have w1 := IntWalk.i64_in (bit m : Int) (by omega)
  have w2 := IntWalk.i64_in ((bit m : Int) - 1) (by omega)
  have w3 : IntKind.i64.wrap ((bit m : Int) - 1 + 1) = (bit m : Int) := by rw [show (bit m : Int) - 1 + 1 = bit m by omega]; exact w1
  have HL : Hid (l = ints L) := Lib.hid hlL
  have HLt := Lib.hid hlt
  have HPw := Lib.hid hpw
  have HOk := Lib.hid hok
  have HE1 := Lib.hid e1
  have HE2 := Lib.hid e2
  have HE3 := Lib.hid e3
  clear HFm hlt hpw hok e1 e2 e3 he hfam hfam2 hlL
  have hp1 : ∀ (args : Array Value) (w : World), (callFunc 30 args).run Try.prog w = .ok (.enter 30 args) w := fun _ _ => by kernel_rfl
  go_upto_region 4 with (first | (go_at_call 18; (with_reducible refine (KFy.out).mono ?_); rintro e _ ⟨rfl, v1, rfl⟩) | fail)
  go_upto_region 5 with fail
  obtain ⟨x, hx⟩ : ∃ x : Later Y.heap.size Y, x.val = v1.val.alloc (.cells #[.int .i64 m, .slice none 0 0] 29) := ⟨v1.alloc _, rfl⟩
  have X7 : Hid (RowL x.val v1.val.heap.size 29 [.int .i64 m, .slice none 0 0]) := Lib.hid (by rw [hx]; exact RowL.new _ _ _)
  have hxs : Hid (x.val.heap.size = v1.val.heap.size + 1) := Lib.hid (by rw [hx]; simp)
  have hv1s := v1.size
  rw [← hx]
  clear hx KFy
  generalize v1.val.heap.size = gm at *
  clear v1 y
  go_wp2
  go_loopw [9, 27] (fun o i wr => ∃ (s : Nat) (v : Later Y.heap.size Y) (ad : Option Addr) (cp : Nat), s ≤ bit m ∧ o = .slice ad (ints (thoseTo (SP L) s)).length cp ∧ i = .int .i64 s ∧ wr = v.val ∧ Hid (Own (gm + 1) v.val ad cp (ints (thoseTo (SP L) s))) ∧ Hid (gm + 1 ≤ v.val.heap.size) ∧ Hid (RowL v.val gm 29 [.int .i64 m, .slice none 0 0])) (fun _ i _ => bit m - (intOf i).toNat)
  case atStart => exact ⟨0, x, none, 0, by omega, rfl, rfl, rfl, Lib.hid (Own.nil _ _), Lib.hid (by have := hxs.out; omega), X7⟩
  case round =>
    clear x X7 hxs
    obtain ⟨s, v, ad, cp, hs, rfl, rfl, rfl, HO, Hvs, H7⟩ := hrel
    by_cases hlt : s < bit m
    · have hs8 : s < 256 := by omega
      have HSt := Lib.hid (thoseTo_step (SP L) s)
      have hTl := thoseTo_len (SP L) s
      go_upto_region 10 with fail
      obtain ⟨x, hx⟩ : ∃ x : Later Y.heap.size Y, x.val = v.val.alloc (.cells #[.int .i64 s] 3) := ⟨v.alloc _, rfl⟩
      have R10 : Hid (RowAt1 x.val v.val.heap.size 3 (.int .i64 s)) := Lib.hid (by rw [hx]; exact heap_alloc_new _ _)
      have HOx : Hid (Own (gm + 1) x.val ad cp (ints (thoseTo (SP L) s))) := Lib.hid (by rw [hx]; exact HO.out.alloc _)
      have Hxs : Hid (gm + 1 ≤ x.val.heap.size) := Lib.hid (by rw [hx]; have := Hvs.out; simp; omega)
      have H7x : Hid (RowL x.val gm 29 [.int .i64 m, .slice none 0 0]) := Lib.hid (by rw [hx]; exact H7.out.keep ((Below.refl _ _).alloc (Nat.le_refl _) _))
      rw [← hx]
      clear hx HO H7 Hvs
      generalize v.val.heap.size = gs at *
      clear v
      have KH : Hid (Calls Try.prog 24 #[.slice a l.length cap, .func (.func 30) #[] #[.pointer (some ⟨gs, 0, none⟩)]] x.val (Ret x.val.heap.size x.val (.bool (!SP L s)))) := Lib.hid (by
        have h1 := c_containsFunc (Later.self x.val) l a cap (HI.out.to x) (by omega) 30 #[.pointer (some ⟨gs, 0, none⟩)] (fun c => decide (s ||| c.toNat = c.toNat)) (fun _ _ => by kernel_rfl) (fun v i hi => by
          rw [HIl.out] at hi
          rw [HL.out, ints_getD]
          exact c_ofHypIn v (L.getD i 0) s gs (nat8 hm (HLt.out _ (by simp [hi]))) hs8 R10.out.lt R10.out.c0)
        rw [show l.any (fun c => decide (s ||| c.toNat = c.toNat)) = !SP L s by rw [HL.out]; exact SP_any L s] at h1
        exact h1)
      have r10 : ∀ w : Later x.val.heap.size x.val, w.val.cell? ⟨gs, 0, none⟩ = some (.int .i64 s) := fun w => (R10.out.keep w.below).c0
      rcases btf (SP L s) with g1 | g1
      · rw [g1] at KH HSt
        have HE : Hid (ints (thoseTo (SP L) (s + 1)) = ints (thoseTo (SP L) s) ++ [(s : Int)]) := Lib.hid (by rw [HSt.out, if_pos rfl, ints_snoc])
        have hil2 : Hid ((ints (thoseTo (SP L) s)).length ≤ 256) := Lib.hid (by rw [ints_len]; omega)
        clear HSt g1
        obtain ⟨T, hT⟩ : ∃ T, T = ints (thoseTo (SP L) s) := ⟨_, rfl⟩
        rw [← hT] at HOx HE hil2 ⊢
        clear hT hTl
        go_wp2_with (first | (go_at_call 24; (with_reducible refine (KH.out).mono ?_); rintro e _ ⟨rfl, v2, rfl⟩; have hv2 := v2.size) | (at_builtin; refine wpList_push (B := gm + 1) (W := v2.val) (w := v2.val) (Below.refl _ _) (by have := Hxs.out; omega) rfl _ _ rfl T ad cp (s : Int) rfl (HOx.out.keep v2.below) rfl (by have := hil2.out; omega) ?_; intro u2 ad2 cp2 hown; have HOwn := Lib.hid hown; clear hown) | fail)
        go_roundw
        case rel =>
          have hu2 := u2.size
          have hxo := Hxs.out
          exact ⟨s + 1, (x.up v2).to u2.val (u2.below.mono (by omega)), ad2, cp2, by omega, by rw [HE.out]; simp, by go_num, rfl, Lib.hid (by rw [HE.out]; exact HOwn.out), Lib.hid hu2, Lib.hid (by
            show u2.val.heap[gm]? = _
            rw [u2.below.block gm (by omega)]
            exact H7x.out.keep v2.below)⟩
        case measure => simp [intOf]; omega
      · rw [g1] at KH HSt
        have HE : Hid (ints (thoseTo (SP L) (s + 1)) = ints (thoseTo (SP L) s)) := Lib.hid (by rw [HSt.out, if_neg (by decide)])
        clear HSt g1
        obtain ⟨T, hT⟩ : ∃ T, T = ints (thoseTo (SP L) s) := ⟨_, rfl⟩
        rw [← hT] at HOx HE ⊢
        clear hT hTl
        go_wp2_with (first | (go_at_call 24; (with_reducible refine (KH.out).mono ?_); rintro e _ ⟨rfl, v2, rfl⟩; have hv2 := v2.size) | fail)
        go_roundw
        case rel => exact ⟨s + 1, x.up v2, ad, cp, by omega, by rw [HE.out], by go_num, rfl, Lib.hid (by rw [HE.out]; exact HOx.out.keep v2.below), Lib.hid (by have := Hxs.out; show gm + 1 ≤ v2.val.heap.size; omega), Lib.hid (H7x.out.keep v2.below)⟩
        case measure => simp [intOf]; omega
    · have hse : s = bit m := by omega
      subst hse
      clear hlt hs
      have hTe : thoseTo (SP L) (bit m) = those m (SP L) := rfl
      rw [hTe] at HO ⊢
      have hTl : (those m (SP L)).length ≤ 256 := by have := thoseTo_len (SP L) (bit m); rw [hTe] at this; omega
      have hTf : isFam (m : Int) (ints (those m (SP L))) := fam_thoseH hm (SP L)
      have KLs : Hid (Calls Try.prog 31 #[.int .i64 m, .slice ad (ints (those m (SP L))).length cp] v.val (RetP v.val.heap.size v.val (ListO v.val.heap.size (ints (spL m L)) 0))) := Lib.hid (by
        have h1 := c_setsLeast (Later.self v.val) (m : Int) (those m (SP L)) (fun b hb => nat8 hm (mem_those.1 hb).1) (by omega) ad cp HO.out.reads hTf
        rw [filt_least (those_pwN _ _) (fun b hb => (mem_those.1 hb).1)] at h1
        exact h1)
      have hAl : (spL m L).length ≤ 256 := by
        have h1 := thoseTo_len (leastB (those m (SP L))) (bit m)
        have h2 : spL m L = thoseTo (leastB (those m (SP L))) (bit m) := rfl
        rw [h2]; omega
      obtain ⟨ec, hec⟩ := MatIs.ex (m : Int) (ints (spL m L))
      obtain ⟨A, hA⟩ : ∃ A, A = spL m L := ⟨_, rfl⟩
      rw [← hA] at KLs hAl hec
      have HA := Lib.hid hA
      have HMe := Lib.hid hec
      have hgv := H7.out.lt
      have hgy : gu < gm := by omega
      have HX4v : Hid (RowL v.val gu 29 [.int .i64 0, .slice none 0 0]) := Lib.hid (X4.out.keep v.below)
      have F7 : ∀ w : Later v.val.heap.size v.val, w.val.cell? ⟨gm, 1, none⟩ = some (.slice none 0 0) := fun w => (H7.out.keep w.below).cell rfl
      have Z7 : ∀ w : Later v.val.heap.size v.val, w.val.frozen? ⟨gm, 1, none⟩ = false := fun w => (H7.out.keep w.below).fz 1
      clear hTf hTl hA hec f0 z0 f1 z1
      go_upto_region 14 with (first | (go_at_call 31; (with_reducible refine (KLs.out).mono ?_); rintro e _ ⟨_, rfl, ⟨adA, cpA, rfl, hOA⟩, v1, rfl⟩; have HOA := Lib.hid hOA; clear hOA) | fail)
      obtain ⟨x, hx⟩ : ∃ x : Later gm v.val, x.val = v1.val.setCell ⟨gm, 1, none⟩ (.slice adA (ints A).length cpA) := ⟨(⟨v1.val, v1.below.mono (by omega), by have := v1.size; omega⟩ : Later gm v.val).set ⟨gm, 1, none⟩ (Nat.le_refl _) _, rfl⟩
      have HX7 : Hid (RowL x.val gm 29 [.int .i64 m, .slice adA (ints A).length cpA]) := Lib.hid (by rw [hx]; exact (H7.out.keep v1.below).set 1 _)
      have HX4 : Hid (RowL x.val gu 29 [.int .i64 0, .slice none 0 0]) := Lib.hid (by
        show x.val.heap[gu]? = _
        rw [x.below.block gu hgy]; exact HX4v.out)
      have HOx : Hid (Own (gm + 1) x.val adA cpA (ints A)) := Lib.hid (by rw [hx]; exact (HOA.out.set (by omega) _).mono (by have := Hvs.out; omega))
      have HVx : Hid (∀ w : Later x.val.heap.size x.val, ∃ w' : Later Y.heap.size Y, w'.val = w.val) := Lib.hid (fun w => ⟨v.to w.val (x.below.mono (by omega) |>.trans (w.below.mono (by have := x.size; omega))), rfl⟩)
      have HIx : Hid (IntsAt x.val.heap.size x.val a l) := Lib.hid (by
        obtain ⟨w', hw'⟩ := HVx.out (Later.self x.val)
        have h1 := HI.out.to w'
        rw [hw'] at h1
        exact h1)
      rw [← hx]
      clear hx HOA v1 HX4v HO F7 Z7 KLs H7 Hvs hgv
      have F50 : ∀ w : Later x.val.heap.size x.val, w.val.cell? ⟨gm, 0, none⟩ = some (.int .i64 m) := fun w => (HX7.out.keep w.below).cell rfl
      have F51 : ∀ w : Later x.val.heap.size x.val, w.val.cell? ⟨gm, 1, none⟩ = some (.slice adA (ints A).length cpA) := fun w => (HX7.out.keep w.below).cell rfl
      have F40 : ∀ w : Later x.val.heap.size x.val, w.val.cell? ⟨gu, 0, none⟩ = some (.int .i64 0) := fun w => (HX4.out.keep w.below).cell rfl
      have Z40 : ∀ w : Later x.val.heap.size x.val, w.val.frozen? ⟨gu, 0, none⟩ = false := fun w => (HX4.out.keep w.below).fz 0
      have F41 : ∀ (w : Later x.val.heap.size x.val) (z : Value), (w.val.setCell ⟨gu, 0, none⟩ z).cell? ⟨gu, 1, none⟩ = some (.slice none 0 0) := fun w z => ((HX4.out.keep w.below).set 0 z).cell rfl
      have Z41 : ∀ (w : Later x.val.heap.size x.val) (z : Value), (w.val.setCell ⟨gu, 0, none⟩ z).frozen? ⟨gu, 1, none⟩ = false := fun w z => ((HX4.out.keep w.below).set 0 z).fz 1
      have hil2 : Hid ((ints A).length = A.length) := Lib.hid (ints_len A)
      obtain ⟨X, hX⟩ : ∃ X, X = ints (those m (hypP m A)) := ⟨_, rfl⟩
      have hXl : X.length ≤ 1048576 := by
        rw [hX, ints_len]
        have h1 := thoseTo_len (hypP m A) (bit m)
        have h3 : those m (hypP m A) = thoseTo (hypP m A) (bit m) := rfl
        rw [h3]; omega
      have HXe := Lib.hid hX
      have KC : Hid (∀ w : Later x.val.heap.size x.val, Calls Try.prog 32 #[.agg #[.int .i64 m, .slice adA (ints A).length cpA]] w.val (Ret x.val.heap.size x.val (.int .i64 ec))) := Lib.hid (fun w => c_axCheck w m (ints A) adA cpA ec HOx.out.reads (by rw [hil2.out]; omega) HMe.out)
      have KA : Hid (ec = 0 → ∀ w : Later x.val.heap.size x.val, Calls Try.prog 33 #[.agg #[.int .i64 m, .slice adA (ints A).length cpA]] w.val (RetP w.val.heap.size w.val (ListE X 0))) := Lib.hid (fun h0 w => by
        subst h0
        have h5 := c_axHyp (Later.self w.val) m hm (ints A) adA cpA ((HOx.out.keep w.below).reads) (by rw [hil2.out]; omega) HMe.out
        rw [toN_ints_eq, ← HXe.out] at h5
        exact h5)
      have KE : Hid (∀ (w : Later x.val.heap.size x.val) (a2 : Option Addr) (c2 : Nat), IntsAt w.val.heap.size w.val a2 X → Calls Try.prog 34 #[.slice a2 X.length c2, .slice a l.length cap] w.val (Ret w.val.heap.size w.val (.bool (decide (X = l))))) := Lib.hid (fun w a2 c2 h => c_equalL (Later.self w.val) X l a2 a c2 cap h (HIx.out.to w) hXl)
      have hxsz := HX7.out.lt
      have HFin : Hid (∀ (w : Later x.val.heap.size x.val) (q : Bool) (x0 : Int) (x1 : Value), (x0 = mdN q m ∧ ∃ ad' cp', x1 = .slice ad' (mdX q A).length cp' ∧ Own (gm + 1) w.val ad' cp' (mdX q A)) → RetP B W (MatTO B (mdN q m) (mdX q A) (mdE q)) (.returned (.tuple #[.agg #[.int .i64 x0, x1], .int .i64 (mdE q)])) ((w.val.setCell ⟨gu, 0, none⟩ (.int .i64 x0)).setCell ⟨gu, 1, none⟩ x1)) := Lib.hid (fun w q x0 x1 h => by
        obtain ⟨rfl, ad', cp', rfl, hO'⟩ := h
        obtain ⟨w', hw'⟩ := HVx.out w
        obtain ⟨w3, hw3⟩ := HVY.out w'
        obtain ⟨z1, hz1⟩ := later_set ⟨w3, hw3.trans hw'⟩ (g := gu) (i := 0) (by omega) (.int .i64 (mdN q m))
        obtain ⟨z2, hz2⟩ := later_set ⟨z1, hz1⟩ (g := gu) (i := 1) (by omega) (.slice ad' (mdX q A).length cp')
        exact RetP.of ⟨z2, hz2⟩ ⟨ad', cp', rfl, ((hO'.set (by omega) _).set (by omega) _).mono (by omega)⟩)
      have HOk2 : Hid (ok = true ↔ (ec = 0 ∧ X = l)) := Lib.hid (by
        rw [HOk.out, matIs_iff HMe.out, HXe.out, HL.out, HA.out]
        constructor
        · intro hc; exact ⟨hc.1, by rw [hc.2]⟩
        · intro hc; exact ⟨hc.1, ints_inj hc.2⟩)
      have HE2' : Hid (xA = mdX ok A) := Lib.hid (by rw [HE2.out, HA.out])
      obtain ⟨y, hy⟩ : ∃ y : Later x.val.heap.size x.val, y.val = x.val := ⟨Later.self _, rfl⟩
      rw [← hy]
      clear hy HMe HOk HVx HVY hX
      rcases ieq ec 0 with ⟨h0, d1, d2⟩ | ⟨h0, d1, d2⟩
      case inr =>
        have hok : ok = false := by
          cases hk : ok
          · rfl
          · exact absurd (HOk2.out.1 hk).1 h0
        subst hok
        have H0 := Lib.hid h0
        clear h0 KA
        go_wp2_with (first | (go_at_call 32; (with_reducible refine (KC.out _).mono ?_); rintro e _ ⟨rfl, v1, rfl⟩) | fail)
        refine bodyPost_ret (results_row (vs := [.int .i64 0, .slice none 0 0]) rfl _ _ gu rfl (((HX4.out.keep v1.below).set 0 _).set 1 _) Try.underlying29 (by kernel_rfl)) rfl ?_
        rw [HE1.out, HE2'.out, HE3.out]
        exact HFin.out v1 false 0 _ ⟨rfl, none, 0, rfl, Own.nil _ _⟩
      subst h0
      cases ok
      · have HD : decide (X = l) = false := decide_eq_false (fun c => by have := HOk2.out.2 ⟨rfl, c⟩; cases this)
        go_wp2_with (first | (go_at_call 32; (with_reducible refine (KC.out _).mono ?_); rintro e _ ⟨rfl, v1, rfl⟩; have K2 := Lib.hid (KA.out rfl v1); have h50 := F50 v1; have h51 := F51 v1) | (go_at_call 33; (with_reducible refine (K2.out).mono ?_); rintro e _ ⟨_, rfl, ⟨x1, rfl, a2, c2, rfl, hI, hn2⟩, v2, rfl⟩; have K3 : Hid (Calls Try.prog 34 #[.slice a2 X.length c2, .slice a l.length cap] v2.val (Ret v2.val.heap.size v2.val (.bool false))) := Lib.hid (by have h9 := KE.out (v1.up v2) a2 c2 hI; rw [HD] at h9; exact h9); clear hI hn2) | (go_at_call 34; (with_reducible refine (K3.out).mono ?_); rintro e _ ⟨rfl, v3, rfl⟩; have i0 : v3.val.cell? ⟨gm, 0, none⟩ = some (.int .i64 m) := F50 ((v1.up v2).up v3); have i1 : v3.val.cell? ⟨gm, 1, none⟩ = some (.slice adA (ints A).length cpA) := F51 ((v1.up v2).up v3); have i2 : v3.val.cell? ⟨gu, 0, none⟩ = some (.int .i64 0) := F40 ((v1.up v2).up v3); have i3 : v3.val.frozen? ⟨gu, 0, none⟩ = false := Z40 ((v1.up v2).up v3); have i4 : ∀ z : Value, (v3.val.setCell ⟨gu, 0, none⟩ z).cell? ⟨gu, 1, none⟩ = some (.slice none 0 0) := F41 ((v1.up v2).up v3); have i5 : ∀ z : Value, (v3.val.setCell ⟨gu, 0, none⟩ z).frozen? ⟨gu, 1, none⟩ = false := Z41 ((v1.up v2).up v3)) | fail)
        refine bodyPost_ret (results_row (vs := [.int .i64 0, .slice none 0 0]) rfl _ _ gu rfl (((HX4.out.keep ((v1.up v2).up v3).below).set 0 _).set 1 _) Try.underlying29 (by kernel_rfl)) rfl ?_
        rw [HE1.out, HE2'.out, HE3.out]
        exact HFin.out ((v1.up v2).up v3) false 0 _ ⟨rfl, none, 0, rfl, Own.nil _ _⟩
      · have HD : decide (X = l) = true := decide_eq_true (HOk2.out.1 rfl).2
        go_wp2_with (first | (go_at_call 32; (with_reducible refine (KC.out _).mono ?_); rintro e _ ⟨rfl, v1, rfl⟩; have K2 := Lib.hid (KA.out rfl v1); have h50 := F50 v1; have h51 := F51 v1) | (go_at_call 33; (with_reducible refine (K2.out).mono ?_); rintro e _ ⟨_, rfl, ⟨x1, rfl, a2, c2, rfl, hI, hn2⟩, v2, rfl⟩; have K3 : Hid (Calls Try.prog 34 #[.slice a2 X.length c2, .slice a l.length cap] v2.val (Ret v2.val.heap.size v2.val (.bool true))) := Lib.hid (by have h9 := KE.out (v1.up v2) a2 c2 hI; rw [HD] at h9; exact h9); clear hI hn2) | (go_at_call 34; (with_reducible refine (K3.out).mono ?_); rintro e _ ⟨rfl, v3, rfl⟩; have i0 : v3.val.cell? ⟨gm, 0, none⟩ = some (.int .i64 m) := F50 ((v1.up v2).up v3); have i1 : v3.val.cell? ⟨gm, 1, none⟩ = some (.slice adA (ints A).length cpA) := F51 ((v1.up v2).up v3); have i2 : v3.val.cell? ⟨gu, 0, none⟩ = some (.int .i64 0) := F40 ((v1.up v2).up v3); have i3 : v3.val.frozen? ⟨gu, 0, none⟩ = false := Z40 ((v1.up v2).up v3); have i4 : ∀ z : Value, (v3.val.setCell ⟨gu, 0, none⟩ z).cell? ⟨gu, 1, none⟩ = some (.slice none 0 0) := F41 ((v1.up v2).up v3); have i5 : ∀ z : Value, (v3.val.setCell ⟨gu, 0, none⟩ z).frozen? ⟨gu, 1, none⟩ = false := Z41 ((v1.up v2).up v3)) | fail)
        refine bodyPost_ret (results_row (vs := [.int .i64 m, .slice adA (ints A).length cpA]) rfl _ _ gu rfl (((HX4.out.keep ((v1.up v2).up v3).below).set 0 _).set 1 _) Try.underlying29 (by kernel_rfl)) rfl ?_
        rw [HE1.out, HE2'.out, HE3.out]
        exact HFin.out ((v1.up v2).up v3) true m _ ⟨rfl, adA, cpA, rfl, HOx.out.keep ((v1.up v2).up v3).below⟩
end Go.Proofs.Ytmcffbmhkbijlaa
