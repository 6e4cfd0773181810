
/-
  sets.Least, sets.Most: the least and the greatest sets of a family.
-/
import Derived.Test.YtjpcelldbhdneaaPkPl
import Derived.Test.YtjpcelldbhdneaaCFun
import Derived.Test.YtjpcelldbhdneaaAxFam
import Derived.Test.YtjpcelldbhdneaaConv
import Derived.IntWalk
namespace Go.Proofs.Ytjpcelldbhdneaa
open Go.RowKit
set_option linter.unusedVariables false

set_option maxRecDepth 100000 in
set_option maxHeartbeats 4000000 in
theorem c_setsLeastTell {B : Nat} {W : World} (u : Later B W) (t s g : Nat) (ht : t < 256) (hs : s < 256) (hg : g < B) (hc : W.cell? ⟨g, 0, none⟩ = some (.int .i64 s)) :
    Calls Try.prog 234 #[.int .i64 t, .pointer (some ⟨g, 0, none⟩)] u.val (Ret B W (.bool (decide (t ≠ s ∧ t &&& s = t)))) := by
  have q0 : u.val.cell? ⟨g, 0, none⟩ = some (.int .i64 s) := by rw [u.cell hg, hc]
  have o1 := i64_and t s (by omega) (by omega)
  have HR : Hid (((t : Int) != (s : Int) && (((t &&& s : Nat) : Int) == (t : Int))) = decide (t ≠ s ∧ t &&& s = t)) := Lib.hid (by
    rw [Bool.eq_iff_iff]; simp; omega)
  clear hc
  generalize decide (t ≠ s ∧ t &&& s = t) = r at *
  generalize t &&& s = z at *
  rcases ieq (t : Int) s with ⟨g1, d1, d2⟩ | ⟨g1, d1, d2⟩
  · have hr : r = false := by rw [← HR.out, d2]; rfl
    subst hr
    clear HR
    go_enter Try.func234, Try.ntmps234
    go_wp2
    go_ret
    exact Ret.mk u rfl
  · have hr : Hid (((z : Int) == (t : Int)) = r) := Lib.hid (by rw [← HR.out, d2]; rfl)
    clear HR
    go_enter Try.func234, Try.ntmps234
    go_wp2
    go_ret
    exact Ret.mk u (vbool hr.out)
set_option maxRecDepth 100000 in
set_option maxHeartbeats 4000000 in
theorem c_setsMostTell {B : Nat} {W : World} (u : Later B W) (t s g : Nat) (ht : t < 256) (hs : s < 256) (hg : g < B) (hc : W.cell? ⟨g, 0, none⟩ = some (.int .i64 s)) :
    Calls Try.prog 202 #[.int .i64 t, .pointer (some ⟨g, 0, none⟩)] u.val (Ret B W (.bool (decide (t ≠ s ∧ t &&& s = s)))) := by
  have q0 : u.val.cell? ⟨g, 0, none⟩ = some (.int .i64 s) := by rw [u.cell hg, hc]
  have o1 := i64_and t s (by omega) (by omega)
  have HR : Hid (((t : Int) != (s : Int) && (((t &&& s : Nat) : Int) == (s : Int))) = decide (t ≠ s ∧ t &&& s = s)) := Lib.hid (by
    rw [Bool.eq_iff_iff]; simp; omega)
  clear hc
  generalize decide (t ≠ s ∧ t &&& s = s) = r at *
  generalize t &&& s = z at *
  rcases ieq (t : Int) s with ⟨g1, d1, d2⟩ | ⟨g1, d1, d2⟩
  · have hr : r = false := by rw [← HR.out, d2]; rfl
    subst hr
    clear HR
    go_enter Try.func202, Try.ntmps202
    go_wp2
    go_ret
    exact Ret.mk u rfl
  · have hr : Hid (((z : Int) == (s : Int)) = r) := Lib.hid (by rw [← HR.out, d2]; rfl)
    clear HR
    go_enter Try.func202, Try.ntmps202
    go_wp2
    go_ret
    exact Ret.mk u (vbool hr.out)

/-- slices.ContainsFunc over a family, at a function value that tells of sets -/
theorem c_contF {B : Nat} {W : World} (u : Later B W) (L : List Nat) (hlen : L.length ≤ 1048576) (a : Option Addr) (cap : Nat) (h : IntsAt B W a (ints L)) (k : FuncId) (caps : Array Value) (q : Nat → Bool) (hpl : Plain k) (hk : ∀ (v : Later B W) (t : Nat), t ∈ L → Calls Try.prog k (#[.int .i64 t] ++ caps) v.val (Ret B W (.bool (q t)))) :
    Calls Try.prog 145 #[.slice a (ints L).length cap, .func (.func k) #[] caps] u.val (Ret B W (.bool (L.any q))) := by
  have := c_containsFunc u (ints L) a cap h (by rw [ints_len]; omega) k caps (fun x => q x.toNat) hpl (fun v i hi => by
    rw [ints_len] at hi
    have hm : L.getD i 0 ∈ L := by simp [hi]
    rw [ints_getD]
    exact hk v _ hm)
  rwa [show (ints L).any (fun x => q x.toNat) = L.any q by unfold ints; rw [List.any_map]; rfl] at this

set_option maxRecDepth 100000 in
set_option maxHeartbeats 8000000 in
theorem c_setsLeast0 {B : Nat} {W : World} (u : Later B W) (L : List Nat) (h256 : ∀ b, b ∈ L → b < 256) (hlen : L.length ≤ 1048576) (a : Option Addr) (cap : Nat) (h : IntsAt B W a (ints L)) :
    Calls Try.prog 201 #[.slice a (ints L).length cap] u.val (RetOwn B W (ints (L.filter (loneB L)))) := by
  have HI := Lib.hid h
  have H8 := Lib.hid h256
  have HE : Hid (filtTo (loneB L) L L.length = L.filter (loneB L)) := Lib.hid (filtTo_all _ _)
  clear h h256
  have hil : (ints L).length = L.length := ints_len L
  rw [hil]
  go_enter Try.func201, Try.ntmps201
  go_wp2
  go_loopw [3, 8] (fun o i wr => ∃ (k : Nat) (ad : Option Addr) (cp : Nat) (v : Later B W), k ≤ L.length ∧ o = .slice ad (ints (filtTo (loneB L) L k)).length cp ∧ i = .int .i64 k ∧ wr = v.val ∧ Hid (Own B v.val ad cp (ints (filtTo (loneB L) L k)))) (fun _ i _ => L.length - (intOf i).toNat)
  case atStart => exact ⟨0, none, 0, u, by omega, rfl, rfl, rfl, Own.nil _ _⟩
  case round =>
    clear u
    obtain ⟨k, ad, cp, v, hk, rfl, rfl, rfl, HO⟩ := hrel
    by_cases hlt : k < L.length
    · obtain ⟨b, off, rfl, hbB, hcell⟩ := HI.out.at (k := k) (by rw [ints_len]; exact hlt)
      have c0 : ∀ v : Later B W, v.val.cell? ⟨b, off + k, none⟩ = some (.int .i64 ((L.getD k 0 : Nat) : Int)) := fun v => by rw [← ints_getD]; exact hcell v k (by rw [ints_len]; exact hlt)
      have h8 : L.getD k 0 < 256 := H8.out _ (by simp [hlt])
      have HS := Lib.hid (filtTo_step (loneB L) L hlt)
      have HLn : Hid ((ints (filtTo (loneB L) L k)).length ≤ 1048576) := Lib.hid (by rw [ints_len]; have := filtTo_len (loneB L) L k; omega)
      have HX : Hid ((!(L.any (fun t => decide (t ≠ L.getD k 0 ∧ t &&& L.getD k 0 = t)))) = loneB L (L.getD k 0)) := Lib.hid rfl
      clear hcell
      generalize L.getD k 0 = s at *
      go_upto_region 5 with fail
      have T0 : RowL (v.val.alloc (.cells #[.int .i64 (s : Int)] 3)) v.val.heap.size 3 [.int .i64 (s : Int)] := RowL.new _ _ _
      have qb : ∀ w : Later (v.val.alloc (.cells #[.int .i64 (s : Int)] 3)).heap.size (v.val.alloc (.cells #[.int .i64 (s : Int)] 3)), w.val.cell? ⟨v.val.heap.size, 0, none⟩ = some (.int .i64 (s : Int)) := fun w => (T0.keep w.below).cell rfl
      have hgz : v.val.heap.size < (v.val.alloc (.cells #[.int .i64 (s : Int)] 3)).heap.size := by simp
      have KC : Hid (Calls Try.prog 145 #[.slice (some ⟨b, off, none⟩) (ints L).length cap, .func (.func 234) #[] #[.pointer (some ⟨v.val.heap.size, 0, none⟩)]] (v.val.alloc (.cells #[.int .i64 (s : Int)] 3)) (Ret (v.val.alloc (.cells #[.int .i64 (s : Int)] 3)).heap.size (v.val.alloc (.cells #[.int .i64 (s : Int)] 3)) (.bool (L.any (fun t => decide (t ≠ s ∧ t &&& s = t)))))) := Lib.hid (c_contF (Later.self (v.val.alloc (.cells #[.int .i64 (s : Int)] 3))) L hlen _ cap (HI.out.to (v.alloc _)) 234 #[.pointer (some ⟨v.val.heap.size, 0, none⟩)] (fun t => decide (t ≠ s ∧ t &&& s = t)) (fun args w => by kernel_rfl) (fun x t ht => c_setsLeastTell x t s v.val.heap.size (H8.out t ht) h8 hgz (qb (Later.self (v.val.alloc (.cells #[.int .i64 (s : Int)] 3))))))
      rw [hil] at KC
      have HV : Hid (∀ y : Later (v.val.alloc (.cells #[.int .i64 (s : Int)] 3)).heap.size (v.val.alloc (.cells #[.int .i64 (s : Int)] 3)), ∃ w : Later B W, w.val = y.val) := Lib.hid (fun y => ⟨(v.alloc _).up y, rfl⟩)
      have HO1 : Hid (Own B (v.val.alloc (.cells #[.int .i64 (s : Int)] 3)) ad cp (ints (filtTo (loneB L) L k))) := Lib.hid (HO.out.keep (((Later.self v.val).alloc (.cells #[.int .i64 (s : Int)] 3)).below))
      clear HO T0 hgz
      generalize L.any (fun t => decide (t ≠ s ∧ t &&& s = t)) = an at *
      generalize v.val.heap.size = gs at *
      generalize (v.val.alloc (.cells #[.int .i64 (s : Int)] 3)) = Z at *
      clear c0
      rcases btf an with g1 | g1
      · subst g1
        have HN : Hid (filtTo (loneB L) L (k + 1) = filtTo (loneB L) L k) := Lib.hid (by rw [HS.out, ← HX.out]; rfl)
        clear HS HX
        go_wp2_with (first | (go_at_call 145; (with_reducible refine (KC.out).mono ?_); rintro e _ ⟨rfl, v1, rfl⟩))
        have HO2 := Lib.hid (HO1.out.keep v1.below)
        obtain ⟨y, hy⟩ := HV.out v1
        rw [← hy] at HO2 ⊢
        go_roundw
        case rel => exact ⟨k+1, ad, cp, y, by omega, by rw [HN.out], by go_num, rfl, by rw [HN.out]; exact HO2.out⟩
        case measure => simp [intOf]; omega
      · subst g1
        have HN : Hid (filtTo (loneB L) L (k + 1) = filtTo (loneB L) L k ++ [s]) := Lib.hid (by rw [HS.out, ← HX.out]; rfl)
        clear HS HX
        generalize filtTo (loneB L) L k = T at *
        go_upto_region 6 with (first | (go_at_call 145; (with_reducible refine (KC.out).mono ?_); rintro e _ ⟨rfl, v1, rfl⟩))
        have qb1 := qb v1
        have HO2 := Lib.hid (HO1.out.keep v1.below)
        obtain ⟨y, hy⟩ := HV.out v1
        rw [← hy] at HO2 qb1 ⊢
        clear hy HO1 HV KC v1 qb
        go_wp2_with (first | (at_builtin; refine wpList_push (B := B) (W := W) (w := y.val) y.below y.size rfl _ _ rfl (ints T) ad cp (s : Int) rfl HO2.out rfl (by have := HLn.out; omega) ?_; intro u2 ad2 cp2 hown))
        go_roundw
        case rel => exact ⟨k+1, ad2, cp2, u2, by omega, by rw [HN.out, ints_snoc]; simp, by go_num, rfl, by rw [HN.out, ints_snoc]; exact hown⟩
        case measure => simp [intOf]; omega
    · have hke : k = L.length := by omega
      subst hke
      rw [HE.out] at HO
      go_wp2
      go_ret
      refine RetP.of ⟨v, rfl⟩ ?_
      rw [HE.out]
      exact ⟨ad, cp, rfl, HO.out⟩

set_option maxRecDepth 100000 in
set_option maxHeartbeats 8000000 in
theorem c_setsMost {B : Nat} {W : World} (u : Later B W) (n : Int) (L : List Nat) (h256 : ∀ b, b ∈ L → b < 256) (hlen : L.length ≤ 1048576) (a : Option Addr) (cap : Nat) (h : IntsAt B W a (ints L)) (hf : isFam n (ints L)) :
    Calls Try.prog 100 #[.int .i64 n, .slice a (ints L).length cap] u.val (RetP B W (ListO B (ints (L.filter (topB L))) 0)) := by
  have HI := Lib.hid h
  have H8 := Lib.hid h256
  have HE : Hid (filtTo (topB L) L L.length = L.filter (topB L)) := Lib.hid (filtTo_all _ _)
  have KF : Hid (Calls Try.prog 138 #[.int .i64 n, .slice a (ints L).length cap] u.val (Ret B W (.int .i64 0))) := Lib.hid (by
    have := c_family u n (ints L) a cap h (by rw [ints_len]; omega)
    rwa [show errno (decide (isFam n (ints L))) 1 = 0 by simp [errno, hf]] at this)
  clear h h256 hf
  have hil : (ints L).length = L.length := ints_len L
  rw [hil] at KF ⊢
  go_enter Try.func100, Try.ntmps100
  go_upto_region 4 with (first | (go_at_call 138; (with_reducible refine (KF.out).mono ?_); rintro e _ ⟨rfl, v1, rfl⟩))
  clear KF u
  go_wp2
  go_loopw [7, 18] (fun o i wr => ∃ (k : Nat) (ad : Option Addr) (cp : Nat) (v : Later B W), k ≤ L.length ∧ o = .slice ad (ints (filtTo (topB L) L k)).length cp ∧ i = .int .i64 k ∧ wr = v.val ∧ Hid (Own B v.val ad cp (ints (filtTo (topB L) L k)))) (fun _ i _ => L.length - (intOf i).toNat)
  case atStart => exact ⟨0, none, 0, v1, by omega, rfl, rfl, rfl, Own.nil _ _⟩
  case round =>
    clear v1
    obtain ⟨k, ad, cp, v, hk, rfl, rfl, rfl, HO⟩ := hrel
    by_cases hlt : k < L.length
    · obtain ⟨b, off, rfl, hbB, hcell⟩ := HI.out.at (k := k) (by rw [ints_len]; exact hlt)
      have c0 : ∀ v : Later B W, v.val.cell? ⟨b, off + k, none⟩ = some (.int .i64 ((L.getD k 0 : Nat) : Int)) := fun v => by rw [← ints_getD]; exact hcell v k (by rw [ints_len]; exact hlt)
      have h8 : L.getD k 0 < 256 := H8.out _ (by simp [hlt])
      have HS := Lib.hid (filtTo_step (topB L) L hlt)
      have HLn : Hid ((ints (filtTo (topB L) L k)).length ≤ 1048576) := Lib.hid (by rw [ints_len]; have := filtTo_len (topB L) L k; omega)
      have HX : Hid ((!(L.any (fun t => decide (t ≠ L.getD k 0 ∧ t &&& L.getD k 0 = L.getD k 0)))) = topB L (L.getD k 0)) := Lib.hid rfl
      clear hcell
      generalize L.getD k 0 = s at *
      go_upto_region 8 with fail
      have T0 : RowL (v.val.alloc (.cells #[.int .i64 (s : Int)] 3)) v.val.heap.size 3 [.int .i64 (s : Int)] := RowL.new _ _ _
      have qb : ∀ w : Later (v.val.alloc (.cells #[.int .i64 (s : Int)] 3)).heap.size (v.val.alloc (.cells #[.int .i64 (s : Int)] 3)), w.val.cell? ⟨v.val.heap.size, 0, none⟩ = some (.int .i64 (s : Int)) := fun w => (T0.keep w.below).cell rfl
      have hgz : v.val.heap.size < (v.val.alloc (.cells #[.int .i64 (s : Int)] 3)).heap.size := by simp
      have KC : Hid (Calls Try.prog 145 #[.slice (some ⟨b, off, none⟩) (ints L).length cap, .func (.func 202) #[] #[.pointer (some ⟨v.val.heap.size, 0, none⟩)]] (v.val.alloc (.cells #[.int .i64 (s : Int)] 3)) (Ret (v.val.alloc (.cells #[.int .i64 (s : Int)] 3)).heap.size (v.val.alloc (.cells #[.int .i64 (s : Int)] 3)) (.bool (L.any (fun t => decide (t ≠ s ∧ t &&& s = s)))))) := Lib.hid (c_contF (Later.self (v.val.alloc (.cells #[.int .i64 (s : Int)] 3))) L hlen _ cap (HI.out.to (v.alloc _)) 202 #[.pointer (some ⟨v.val.heap.size, 0, none⟩)] (fun t => decide (t ≠ s ∧ t &&& s = s)) (fun args w => by kernel_rfl) (fun x t ht => c_setsMostTell x t s v.val.heap.size (H8.out t ht) h8 hgz (qb (Later.self (v.val.alloc (.cells #[.int .i64 (s : Int)] 3))))))
      rw [hil] at KC
      have HV : Hid (∀ y : Later (v.val.alloc (.cells #[.int .i64 (s : Int)] 3)).heap.size (v.val.alloc (.cells #[.int .i64 (s : Int)] 3)), ∃ w : Later B W, w.val = y.val) := Lib.hid (fun y => ⟨(v.alloc _).up y, rfl⟩)
      have HO1 : Hid (Own B (v.val.alloc (.cells #[.int .i64 (s : Int)] 3)) ad cp (ints (filtTo (topB L) L k))) := Lib.hid (HO.out.keep (((Later.self v.val).alloc (.cells #[.int .i64 (s : Int)] 3)).below))
      clear HO T0 hgz
      generalize L.any (fun t => decide (t ≠ s ∧ t &&& s = s)) = an at *
      generalize v.val.heap.size = gs at *
      generalize (v.val.alloc (.cells #[.int .i64 (s : Int)] 3)) = Z at *
      clear c0
      rcases btf an with g1 | g1
      · subst g1
        have HN : Hid (filtTo (topB L) L (k + 1) = filtTo (topB L) L k) := Lib.hid (by rw [HS.out, ← HX.out]; rfl)
        clear HS HX
        go_wp2_with (first | (go_at_call 145; (with_reducible refine (KC.out).mono ?_); rintro e _ ⟨rfl, v1, rfl⟩))
        have HO2 := Lib.hid (HO1.out.keep v1.below)
        obtain ⟨y, hy⟩ := HV.out v1
        rw [← hy] at HO2 ⊢
        go_roundw
        case rel => exact ⟨k+1, ad, cp, y, by omega, by rw [HN.out], by go_num, rfl, by rw [HN.out]; exact HO2.out⟩
        case measure => simp [intOf]; omega
      · subst g1
        have HN : Hid (filtTo (topB L) L (k + 1) = filtTo (topB L) L k ++ [s]) := Lib.hid (by rw [HS.out, ← HX.out]; rfl)
        clear HS HX
        generalize filtTo (topB L) L k = T at *
        go_upto_region 9 with (first | (go_at_call 145; (with_reducible refine (KC.out).mono ?_); rintro e _ ⟨rfl, v1, rfl⟩))
        have qb1 := qb v1
        have HO2 := Lib.hid (HO1.out.keep v1.below)
        obtain ⟨y, hy⟩ := HV.out v1
        rw [← hy] at HO2 qb1 ⊢
        clear hy HO1 HV KC v1 qb
        go_wp2_with (first | (at_builtin; refine wpList_push (B := B) (W := W) (w := y.val) y.below y.size rfl _ _ rfl (ints T) ad cp (s : Int) rfl HO2.out rfl (by have := HLn.out; omega) ?_; intro u2 ad2 cp2 hown))
        go_roundw
        case rel => exact ⟨k+1, ad2, cp2, u2, by omega, by rw [HN.out, ints_snoc]; simp, by go_num, rfl, by rw [HN.out, ints_snoc]; exact hown⟩
        case measure => simp [intOf]; omega
    · have hke : k = L.length := by omega
      subst hke
      rw [HE.out] at HO
      go_wp2
      go_ret2
      refine RetP.of ⟨v, rfl⟩ ?_
      rw [HE.out]
      exact ⟨ad, cp, rfl, HO.out⟩

set_option maxRecDepth 100000 in
set_option maxHeartbeats 4000000 in
theorem c_setsLeast {B : Nat} {W : World} (u : Later B W) (n : Int) (L : List Nat) (h256 : ∀ b, b ∈ L → b < 256) (hlen : L.length ≤ 1048576) (a : Option Addr) (cap : Nat) (h : IntsAt B W a (ints L)) (hf : isFam n (ints L)) :
    Calls Try.prog 99 #[.int .i64 n, .slice a (ints L).length cap] u.val (RetP B W (ListO B (ints (L.filter (loneB L))) 0)) := by
  have KF : Hid (Calls Try.prog 138 #[.int .i64 n, .slice a (ints L).length cap] u.val (Ret B W (.int .i64 0))) := Lib.hid (by
    have := c_family u n (ints L) a cap h (by rw [ints_len]; omega)
    rwa [show errno (decide (isFam n (ints L))) 1 = 0 by simp [errno, hf]] at this)
  have KL := Lib.hid (fun v : Later B W => c_setsLeast0 v L h256 hlen a cap h)
  clear h h256 hf
  go_enter Try.func99, Try.ntmps99
  go_wp2_with (first | (go_at_call 138; (with_reducible refine (KF.out).mono ?_); rintro e _ ⟨rfl, v1, rfl⟩) | (go_at_call 201; (with_reducible refine (KL.out _).mono ?_); rintro e _ ⟨_, rfl, ⟨ad, cp, rfl, hO⟩, v1, rfl⟩))
  go_ret2
  exact RetP.mk v1 ⟨_, _, rfl, hO⟩
set_option maxRecDepth 100000 in
set_option maxHeartbeats 4000000 in
theorem c_setsLeast_no {B : Nat} {W : World} (u : Later B W) (n : Int) (l : List Int) (hlen : l.length ≤ 4611686018427387904) (a : Option Addr) (cap : Nat) (h : IntsAt B W a l) (hf : ¬ isFam n l) :
    Calls Try.prog 99 #[.int .i64 n, .slice a l.length cap] u.val (RetP B W (ListE [] 1)) := by
  have KF : Hid (Calls Try.prog 138 #[.int .i64 n, .slice a l.length cap] u.val (Ret B W (.int .i64 1))) := Lib.hid (by
    have := c_family u n l a cap h (by omega)
    rwa [show errno (decide (isFam n l)) 1 = 1 by simp [errno, hf]] at this)
  clear h hf
  go_enter Try.func99, Try.ntmps99
  go_wp2_with (first | (go_at_call 138; (with_reducible refine (KF.out).mono ?_); rintro e _ ⟨rfl, v1, rfl⟩))
  go_ret2
  exact RetP.mk v1 ListE.no
set_option maxRecDepth 100000 in
set_option maxHeartbeats 4000000 in
theorem c_setsMost_no {B : Nat} {W : World} (u : Later B W) (n : Int) (l : List Int) (hlen : l.length ≤ 4611686018427387904) (a : Option Addr) (cap : Nat) (h : IntsAt B W a l) (hf : ¬ isFam n l) :
    Calls Try.prog 100 #[.int .i64 n, .slice a l.length cap] u.val (RetP B W (ListE [] 1)) := by
  have KF : Hid (Calls Try.prog 138 #[.int .i64 n, .slice a l.length cap] u.val (Ret B W (.int .i64 1))) := Lib.hid (by
    have := c_family u n l a cap h (by omega)
    rwa [show errno (decide (isFam n l)) 1 = 1 by simp [errno, hf]] at this)
  clear h hf
  go_enter Try.func100, Try.ntmps100
  go_wp2_with (first | (go_at_call 138; (with_reducible refine (KF.out).mono ?_); rintro e _ ⟨rfl, v1, rfl⟩))
  go_ret2
  exact RetP.mk v1 ListE.no

end Go.Proofs.Ytjpcelldbhdneaa
