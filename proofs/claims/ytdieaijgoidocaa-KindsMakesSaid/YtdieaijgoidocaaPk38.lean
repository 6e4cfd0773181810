
/-
  rotaref.Transversal.
  rotaref.Transversal, whole.
  kinds.Transversal.
-/
import Derived.Test.YtdieaijgoidocaaPk10
import Derived.Test.YtdieaijgoidocaaPk18
import Derived.Test.YtdieaijgoidocaaPk24
import Derived.Test.YtdieaijgoidocaaPk25
import Derived.Test.YtdieaijgoidocaaPk37
import Derived.Test.YtdieaijgoidocaaPk29
namespace Go.Proofs.Ytdieaijgoidocaa
open Go.RowKit
set_option linter.unusedVariables false

theorem hallB_iff {l : List Nat} {s : Nat} : hallB l s = true ↔ ∀ t, t ≤ s → t ≠ 0 → t ||| s = s → sz t ≤ ctT l t l.length := by
  unfold hallB
  rw [List.all_eq_true]
  constructor
  · intro h t ht h0 hs
    have := h t (List.mem_range.2 (by omega))
    rw [Bool.or_eq_true, Bool.or_eq_true, decide_eq_true_eq, Bool.not_eq_true', decide_eq_false_iff_not, decide_eq_true_eq] at this
    rcases this with (h1 | h1) | h1
    · exact absurd h1 h0
    · exact absurd hs h1
    · exact h1
  · intro h t ht
    rw [List.mem_range] at ht
    rw [Bool.or_eq_true, Bool.or_eq_true, decide_eq_true_eq, Bool.not_eq_true', decide_eq_false_iff_not, decide_eq_true_eq]
    by_cases h0 : t = 0
    · exact .inl (.inl h0)
    · by_cases h1 : t ||| s = s
      · exact .inr (h t (by omega) h0 h1)
      · exact .inl (.inr h1)
theorem ctT_le (l : List Nat) (t : Nat) : ∀ k, ctT l t k ≤ k
  | 0 => Nat.le_refl _
  | k + 1 => by
    have := ctT_le l t k
    rw [ctT]
    split <;> omega

set_option maxRecDepth 100000 in
set_option maxHeartbeats 8000000 in
theorem c_refTransTell {B : Nat} {W : World} (u : Later B W) (l : List Nat) (hl : l.length ≤ 8) (hl8 : ∀ i, i < l.length → l.getD i 0 < 256) (a : Option Addr) (cap gl : Nat) (h : IntsAt B W a (ints l)) (hg : gl < B) (hc : W.cell? ⟨gl, 0, none⟩ = some (.slice a (ints l).length cap)) (s : Nat) (hs : s < 256) :
    Calls Try.prog 15 #[.int .i64 s, .pointer (some ⟨gl, 0, none⟩)] u.val (Ret B W (.bool (hallB l s))) := by
  have q0 : ∀ v : Later B W, v.val.cell? ⟨gl, 0, none⟩ = some (.slice a l.length cap) := fun v => by rw [v.cell hg, hc, ints_len]
  have HI := Lib.hid h
  have H8 := Lib.hid hl8
  have HR := Lib.hid (hallB_iff (l := l) (s := s))
  clear h hc hl8
  generalize hallB l s = res at *
  go_enter Try.func15, Try.ntmps15
  go_wp2
  go_loopw [4] (fun tv wr => ∃ (t : Nat) (v : Later B W), 1 ≤ t ∧ t ≤ s + 1 ∧ tv = .int .i64 t ∧ wr = v.val ∧ Hid (∀ q, q < t → q ≠ 0 → q ||| s = s → sz q ≤ ctT l q l.length)) (fun i _ => s + 1 - (intOf i).toNat)
  case atStart => exact ⟨1, u, by omega, by omega, rfl, rfl, Lib.hid (fun q hq h => by omega)⟩
  case round =>
    clear u
    obtain ⟨t, v, ht1, hts, rfl, rfl, hf⟩ := hrel
    by_cases hlt : t ≤ s
    · have hm1 : Hid (t + 1 ≤ s + 1) := Lib.hid (by omega)
      have dle : decide ((t : Int) ≤ (s : Int)) = true := decide_eq_true (by omega)
      have KW : Hid (∀ v : Later B W, Calls Try.prog 16 #[.int .i64 t, .int .i64 s] v.val (Ret B W (.bool (decide (t ||| s = s))))) := Lib.hid (fun v => c_within v t s (by omega) (by omega))
      have HY : Hid ((t ||| s = s → sz t ≤ ctT l t l.length) → ∀ q, q < t + 1 → q ≠ 0 → q ||| s = s → sz q ≤ ctT l q l.length) := Lib.hid (fun h q hq h0 h1 => by
        by_cases c : q = t
        · subst c; exact h h1
        · exact hf.out q (by omega) h0 h1)
      have HX : Hid (t ||| s = s → ¬ sz t ≤ ctT l t l.length → res = false) := Lib.hid (fun h1 h2 => by
        cases c : res
        · rfl
        · exact absurd (HR.out.1 c t hlt (by omega) h1) h2)
      have KS : Hid (∀ v : Later B W, Calls Try.prog 17 #[.int .i64 t] v.val (Ret B W (.int .i64 (sz t)))) := Lib.hid (fun v => c_size v t (by omega))
      clear hf
      by_cases hw : t ||| s = s
      · rw [decide_eq_true hw] at KW
        have HW := Lib.hid hw
        clear hw
        go_upto_region 6 with (first | (go_at_call 16; (with_reducible refine (KW.out _).mono ?_); rintro e _ ⟨rfl, v1, rfl⟩) | fail)
        go_wp2_with fail
        go_loopw [5, 6] (fun kv iv wr => ∃ (i : Nat) (v : Later B W), i ≤ l.length ∧ kv = .int .i64 (ctT l t i : Nat) ∧ iv = .int .i64 i ∧ wr = v.val) (fun _ i _ => l.length - (intOf i).toNat)
        case atStart => exact ⟨0, v1, by omega, rfl, rfl, rfl⟩
        case round =>
          clear v v1
          obtain ⟨i, v, hi, rfl, rfl, rfl⟩ := hrel
          have q0v := q0 v
          have hck := ctT_le l t i
          by_cases hil : i < l.length
          · obtain ⟨b, off, rfl, hbB, hcell⟩ := HI.out.at (k := i) (by rw [ints_len]; exact hil)
            have c0 : v.val.cell? ⟨b, off + i, none⟩ = some (.int .i64 ((l.getD i 0 : Nat) : Int)) := by rw [← ints_getD]; exact hcell v i (by rw [ints_len]; exact hil)
            have hx8 := H8.out i hil
            have o1 := i64_and (l.getD i 0) t (by omega) (by omega)
            have HC : Hid (ctT l t (i + 1) = if l.getD i 0 &&& t ≠ 0 then ctT l t i + 1 else ctT l t i) := Lib.hid rfl
            have hi1 : Hid (i + 1 ≤ l.length) := Lib.hid hil
            clear hcell
            rcases ieq ((l.getD i 0 &&& t : Nat) : Int) 0 with ⟨h1, d1, e1⟩ | ⟨h1, d1, e1⟩
            · have HS : Hid (ctT l t (i + 1) = ctT l t i) := Lib.hid (by rw [HC.out, if_neg (fun c => c (by omega))])
              have H1 := Lib.hid h1
              clear HC h1
              generalize l.getD i 0 &&& t = aw at *
              generalize l.getD i 0 = x at *
              obtain rfl : aw = 0 := by have := H1.out; omega
              go_wp2
              go_roundw
              case rel => exact ⟨i+1, v, hi1.out, by rw [HS.out], by go_num, rfl⟩
              case measure => have := hi1.out; simp [intOf]; omega
            · have HS : Hid (ctT l t (i + 1) = ctT l t i + 1) := Lib.hid (by rw [HC.out, if_pos (fun c => h1 (by omega))])
              have H1 := Lib.hid h1
              clear HC h1
              generalize l.getD i 0 &&& t = aw at *
              generalize l.getD i 0 = x at *
              have hn : ¬ aw = 0 := by have := H1.out; omega
              obtain ⟨cc, hcc⟩ : ∃ cc, cc = ctT l t i := ⟨_, rfl⟩
              rw [← hcc] at hck ⊢
              have HCc := Lib.hid hcc
              clear hcc
              have wc := IntWalk.i64_in ((cc : Int) + 1) (by omega)
              go_wp2
              go_roundw
              case rel => exact ⟨i+1, v, hi1.out, by rw [HS.out, ← HCc.out]; simp, by go_num, rfl⟩
              case measure => have := hi1.out; simp [intOf]; omega
          · have hie : i = l.length := by omega
            subst hie
            rcases nlt (ctT l t l.length) (sz t) with ⟨h1, d1⟩ | ⟨h1, d1⟩
            · have hr := HX.out HW.out (by omega)
              subst hr
              have d1' : decide (((ctT l t l.length : Nat) : Int) < ((sz t : Nat) : Int)) = true := decide_eq_true (by omega)
              clear HX HY h1 HR
              generalize ctT l t l.length = cc at *
              generalize sz t = zt at *
              go_wp2_with (first | (go_at_call 17; (with_reducible refine (KS.out _).mono ?_); rintro e _ ⟨rfl, v1, rfl⟩) | fail)
              go_ret
              exact Ret.mk v1 rfl
            · have HN := Lib.hid (HY.out (fun _ => h1))
              have d1' : decide (((ctT l t l.length : Nat) : Int) < ((sz t : Nat) : Int)) = false := decide_eq_false (by omega)
              clear HX HY h1
              generalize ctT l t l.length = cc at *
              obtain ⟨zt, hzt⟩ : ∃ zt, zt = sz t := ⟨_, rfl⟩
              rw [← hzt] at KS d1 d1'
              clear hzt
              go_wp2_with (first | (go_at_call 17; (with_reducible refine (KS.out _).mono ?_); rintro e _ ⟨rfl, v1, rfl⟩) | fail)
              go_roundw
              case rel => exact ⟨t+1, v1, by omega, hm1.out, by go_num, rfl, HN⟩
              case measure => have := hm1.out; simp [intOf]; omega
      · rw [decide_eq_false hw] at KW
        have HN := Lib.hid (HY.out (fun h => absurd h hw))
        have HW := Lib.hid hw
        clear HX HY hw
        go_wp2_with (first | (go_at_call 16; (with_reducible refine (KW.out _).mono ?_); rintro e _ ⟨rfl, v1, rfl⟩) | fail)
        go_roundw
        case rel => exact ⟨t+1, v1, by omega, hm1.out, by go_num, rfl, HN⟩
        case measure => have := hm1.out; simp [intOf]; omega
    · have hr : res = true := HR.out.2 (fun q hq h0 h1 => hf.out q (by omega) h0 h1)
      subst hr
      have dle : decide ((t : Int) ≤ (s : Int)) = false := decide_eq_false (by omega)
      clear hf HR
      go_wp2
      go_ret
      exact Ret.mk v rfl

end Go.Proofs.Ytdieaijgoidocaa

namespace Go.Proofs.Ytdieaijgoidocaa
open Go.RowKit
set_option linter.unusedVariables false

set_option maxRecDepth 100000 in
set_option maxHeartbeats 8000000 in
theorem c_refTrans {B : Nat} {W : World} (u : Later B W) (m : Nat) (hm : m ≤ 8) (l : List Nat) (hl : l.length ≤ 8) (hl8 : ∀ i, i < l.length → l.getD i 0 < 256) (a : Option Addr) (cap : Nat) (h : IntsAt B W a (ints l)) :
    Calls Try.prog 5 #[.int .i64 m, .slice a (ints l).length cap] u.val (RetP B W (MatO B m (ints (biggest (those m (hallB l)))))) := by
  have hB := u.size
  have hb := bit_le m hm
  have k1 : (u.val.alloc (.cells #[.slice a (ints l).length cap] 22)).heap.size = u.val.heap.size + 1 := by simp
  have X1 : RowAt1 ((u.val.alloc (.cells #[.slice a (ints l).length cap] 22)).alloc (.cells #[.int .i64 0, .slice none 0 0] 26)) u.val.heap.size 22 (.slice a (ints l).length cap) := (show RowAt1 (u.val.alloc (.cells #[.slice a (ints l).length cap] 22)) u.val.heap.size 22 (.slice a (ints l).length cap) from heap_alloc_new _ _).keep ((Below.refl _ _).alloc (Nat.le_refl _) _)
  have X2 : RowL ((u.val.alloc (.cells #[.slice a (ints l).length cap] 22)).alloc (.cells #[.int .i64 0, .slice none 0 0] 26)) (u.val.heap.size + 1) 26 [.int .i64 0, .slice none 0 0] := by
    have h := RowL.new (u.val.alloc (.cells #[.slice a (ints l).length cap] 22)) 26 [.int .i64 0, .slice none 0 0]
    rwa [k1] at h
  have hYs : ((u.val.alloc (.cells #[.slice a (ints l).length cap] 22)).alloc (.cells #[.int .i64 0, .slice none 0 0] 26)).heap.size = u.val.heap.size + 2 := by simp
  have HVY : Hid (∀ v : Later ((u.val.alloc (.cells #[.slice a (ints l).length cap] 22)).alloc (.cells #[.int .i64 0, .slice none 0 0] 26)).heap.size ((u.val.alloc (.cells #[.slice a (ints l).length cap] 22)).alloc (.cells #[.int .i64 0, .slice none 0 0] 26)), ∃ w : Later B W, w.val = v.val) := Lib.hid (fun v => ⟨((u.alloc _).alloc _).up v, rfl⟩)
  have HI : Hid (IntsAt ((u.val.alloc (.cells #[.slice a (ints l).length cap] 22)).alloc (.cells #[.int .i64 0, .slice none 0 0] 26)).heap.size ((u.val.alloc (.cells #[.slice a (ints l).length cap] 22)).alloc (.cells #[.int .i64 0, .slice none 0 0] 26)) a (ints l)) := Lib.hid (h.to ((u.alloc _).alloc _))
  have HX := Lib.hid X2
  have HX1 := Lib.hid X1
  have HYs := Lib.hid hYs
  clear h k1 X1 X2 hYs
  go_enter Try.func5, Try.ntmps5
  go_upto_region 1 with fail
  generalize ((u.val.alloc (.cells #[.slice a (ints l).length cap] 22)).alloc (.cells #[.int .i64 0, .slice none 0 0] 26)) = Y at *
  generalize u.val.heap.size = gu at *
  have hgY : gu + 1 < Y.heap.size := by have := HYs.out; omega
  have hgY0 : gu < Y.heap.size := by omega
  have f0 : ∀ (w : Later Y.heap.size Y), w.val.cell? ⟨gu + 1, 0, none⟩ = some (.int .i64 0) := fun w => (HX.out.keep_at w.below hgY).cell rfl
  have z0 : ∀ (w : Later Y.heap.size Y), w.val.frozen? ⟨gu + 1, 0, none⟩ = false := fun w => (HX.out.keep_at w.below hgY).fz 0
  have f1 : ∀ (w : Later Y.heap.size Y) (x0 : Value), (w.val.setCell ⟨gu + 1, 0, none⟩ x0).cell? ⟨gu + 1, 1, none⟩ = some (.slice none 0 0) := fun w x0 => ((HX.out.keep_at w.below hgY).set 0 x0).cell rfl
  have z1 : ∀ (w : Later Y.heap.size Y) (x0 : Value), (w.val.setCell ⟨gu + 1, 0, none⟩ x0).frozen? ⟨gu + 1, 1, none⟩ = false := fun w x0 => ((HX.out.keep_at w.below hgY).set 0 x0).fz 1
  have KT : Hid (∀ x : Later Y.heap.size Y, Calls Try.prog 14 #[.int .i64 m, .func (.func 15) #[] #[.pointer (some ⟨gu, 0, none⟩)]] x.val (RetOwn Y.heap.size Y (ints (those m (hallB l))))) := Lib.hid (fun x => c_those_own x m hm 15 _ (hallB l) (fun args w => by kernel_rfl) (fun x v s hs => by
    have hxz := x.size
    exact c_refTransTell v l hl hl8 a cap gu (HI.out.to x) (by omega) (by rw [x.cell (a := ⟨gu, 0, none⟩) hgY0]; exact HX1.out.c0) s (by omega)))
  have HMl : Hid ((those m (hallB l)).length ≤ 1048576 ∧ ∀ s, s ∈ those m (hallB l) → s < 256) := Lib.hid ⟨by
    have h1 := thoseTo_len (hallB l) (bit m)
    have e : those m (hallB l) = thoseTo (hallB l) (bit m) := rfl
    rw [e]; omega, fun s hs => by have := (mem_those.1 hs).1; omega⟩
  have KB : Hid (∀ (x : Later Y.heap.size Y) (ad : Option Addr) (cp : Nat), IntsAt x.val.heap.size x.val ad (ints (those m (hallB l))) → Calls Try.prog 18 #[.slice ad (ints (those m (hallB l))).length cp] x.val (RetOwn x.val.heap.size x.val (ints (biggest (those m (hallB l)))))) := Lib.hid (fun x ad cp hh => c_biggest_own (Later.self x.val) _ ad cp hh HMl.out.1 HMl.out.2)
  clear HX1 HI HMl
  generalize biggest (those m (hallB l)) = A at *
  generalize ints (those m (hallB l)) = T at *
  obtain ⟨z, hzz⟩ : ∃ z : Later Y.heap.size Y, z.val = Y := ⟨Later.self _, rfl⟩
  rw [← hzz]
  clear hzz
  go_upto_region 2 with (first | (go_at_call 14; (with_reducible refine (KT.out _).mono ?_); rintro e _ ⟨_, rfl, ⟨ad1, cp1, rfl, hO1⟩, v1, rfl⟩) | fail)
  have KB1 := Lib.hid (KB.out v1 ad1 cp1 hO1.reads)
  have hv1 := v1.size
  clear KB KT hO1
  go_wp2_with (first | (go_at_call 18; (with_reducible refine (KB1.out).mono ?_); rintro e _ ⟨_, rfl, ⟨ad, cp, rfl, hO⟩, w2, rfl⟩; obtain ⟨v2, hv2⟩ : ∃ v2 : Later Y.heap.size Y, v2.val = w2.val := ⟨v1.up w2, rfl⟩; rw [← hv2] at hO ⊢; clear hv2) | fail)
  refine bodyPost_ret (results_cell_row rfl _ _ (gu + 1) 26 #[.int .i64 (m : Nat), .slice ad (ints A).length cp] (0, 0) _ rfl (((HX.out.keep v2.below).set 0 _).set 1 _) Try.underlying26 rfl (by kernel_rfl)) rfl ?_
  obtain ⟨x1, hx1⟩ := later_set (HVY.out v2) (g := gu + 1) (i := 0) (by omega) (.int .i64 (m : Nat))
  obtain ⟨x2, hx2⟩ := later_set ⟨x1, hx1⟩ (g := gu + 1) (i := 1) (by omega) (.slice ad (ints A).length cp)
  refine RetP.of ⟨x2, hx2⟩ ?_
  exact ⟨_, _, rfl, ((hO.set (by omega) _).set (by omega) _).mono (by omega)⟩

end Go.Proofs.Ytdieaijgoidocaa

namespace Go.Proofs.Ytdieaijgoidocaa
open Go.RowKit
set_option linter.unusedVariables false

theorem c_kTransTell {B : Nat} {W : World} (u : Later B W) (l : List Nat) (hl : l.length ≤ 8) (hl8 : ∀ i, i < l.length → l.getD i 0 < 256) (a : Option Addr) (cap gl : Nat) (h : IntsAt B W a (ints l)) (hg : gl < B) (hc : W.cell? ⟨gl, 0, none⟩ = some (.slice a (ints l).length cap)) (s : Nat) (hs : s < 256) :
    Calls Try.prog 26 #[.int .i64 s, .pointer (some ⟨gl, 0, none⟩)] u.val (Ret B W (.bool (chs l (elems s) 0))) := by
  have q : u.val.cell? ⟨gl, 0, none⟩ = some (.slice a (ints l).length cap) := by rw [u.cell hg, hc]
  have KC : Hid (Calls Try.prog 27 #[.int .i64 s, .slice a (ints l).length cap] u.val (Ret B W (.bool (chs l (elems s) 0)))) := Lib.hid (c_chosen u l hl hl8 a cap h s hs)
  clear hc h
  generalize chs l (elems s) 0 = r at *
  go_enter Try.func26, Try.ntmps26
  go_wp2_with (first | (go_at_call 27; (with_reducible refine (KC.out).mono ?_); rintro e _ ⟨rfl, v, rfl⟩) | fail)
  go_ret
  exact Ret.mk v rfl

set_option maxRecDepth 100000 in
set_option maxHeartbeats 8000000 in
theorem c_kTrans {B : Nat} {W : World} (u : Later B W) (n : Int) (l : List Int) (a : Option Addr) (cap : Nat) (e n' : Int) (xs' : List Int) (h : IntsAt B W a l) (hlen : l.length ≤ 4611686018427387904) (he : LisIs n l e) (hz : ZIf e n' xs')
    (hy : e = 0 → ∃ (m : Nat) (L : List Nat), n = (m : Int) ∧ m ≤ 8 ∧ l = ints L ∧ (∀ i, i < L.length → L.getD i 0 < 256) ∧ n' = m ∧ xs' = ints (biggest (those m (fun s => chs L (elems s) 0)))) :
    Calls Try.prog 8 #[.int .i64 n, .slice a l.length cap] u.val (RetP B W (MatTO B n' xs' e)) := by
  have hB := u.size
  have k1 : (u.val.alloc (.cells #[.slice a l.length cap] 22)).heap.size = u.val.heap.size + 1 := by simp
  have X1 : RowAt1 ((u.val.alloc (.cells #[.slice a l.length cap] 22)).alloc (.cells #[.int .i64 0, .slice none 0 0] 26)) u.val.heap.size 22 (.slice a l.length cap) := (show RowAt1 (u.val.alloc (.cells #[.slice a l.length cap] 22)) u.val.heap.size 22 (.slice a l.length cap) from heap_alloc_new _ _).keep ((Below.refl _ _).alloc (Nat.le_refl _) _)
  have X2 : RowL ((u.val.alloc (.cells #[.slice a l.length cap] 22)).alloc (.cells #[.int .i64 0, .slice none 0 0] 26)) (u.val.heap.size + 1) 26 [.int .i64 0, .slice none 0 0] := by
    have h := RowL.new (u.val.alloc (.cells #[.slice a l.length cap] 22)) 26 [.int .i64 0, .slice none 0 0]
    rwa [k1] at h
  have hYs : ((u.val.alloc (.cells #[.slice a l.length cap] 22)).alloc (.cells #[.int .i64 0, .slice none 0 0] 26)).heap.size = u.val.heap.size + 2 := by simp
  have HVY : Hid (∀ v : Later ((u.val.alloc (.cells #[.slice a l.length cap] 22)).alloc (.cells #[.int .i64 0, .slice none 0 0] 26)).heap.size ((u.val.alloc (.cells #[.slice a l.length cap] 22)).alloc (.cells #[.int .i64 0, .slice none 0 0] 26)), ∃ w : Later B W, w.val = v.val) := Lib.hid (fun v => ⟨((u.alloc _).alloc _).up v, rfl⟩)
  have HI : Hid (IntsAt ((u.val.alloc (.cells #[.slice a l.length cap] 22)).alloc (.cells #[.int .i64 0, .slice none 0 0] 26)).heap.size ((u.val.alloc (.cells #[.slice a l.length cap] 22)).alloc (.cells #[.int .i64 0, .slice none 0 0] 26)) a l) := Lib.hid (h.to ((u.alloc _).alloc _))
  have HX := Lib.hid X2
  have HX1 := Lib.hid X1
  have HYs := Lib.hid hYs
  have HE := Lib.hid he
  clear h he k1 X1 X2 hYs
  go_enter Try.func8, Try.ntmps8
  go_upto_region 1 with fail
  generalize ((u.val.alloc (.cells #[.slice a l.length cap] 22)).alloc (.cells #[.int .i64 0, .slice none 0 0] 26)) = Y at *
  generalize u.val.heap.size = gu at *
  have hgY : gu + 1 < Y.heap.size := by have := HYs.out; omega
  have hgY0 : gu < Y.heap.size := by omega
  have q1 : ∀ v : Later Y.heap.size Y, v.val.cell? ⟨gu, 0, none⟩ = some (.slice a l.length cap) := fun v => (HX1.out.keep v.below).c0
  have f0 : ∀ (w : Later Y.heap.size Y), w.val.cell? ⟨gu + 1, 0, none⟩ = some (.int .i64 0) := fun w => (HX.out.keep_at w.below hgY).cell rfl
  have z0 : ∀ (w : Later Y.heap.size Y), w.val.frozen? ⟨gu + 1, 0, none⟩ = false := fun w => (HX.out.keep_at w.below hgY).fz 0
  have f1 : ∀ (w : Later Y.heap.size Y) (x0 : Value), (w.val.setCell ⟨gu + 1, 0, none⟩ x0).cell? ⟨gu + 1, 1, none⟩ = some (.slice none 0 0) := fun w x0 => ((HX.out.keep_at w.below hgY).set 0 x0).cell rfl
  have z1 : ∀ (w : Later Y.heap.size Y) (x0 : Value), (w.val.setCell ⟨gu + 1, 0, none⟩ x0).frozen? ⟨gu + 1, 1, none⟩ = false := fun w x0 => ((HX.out.keep_at w.below hgY).set 0 x0).fz 1
  have hfin : ∀ (v : Later Y.heap.size Y) (nn : Int) (ad : Option Addr) (cp : Nat) (xs : List Int) (ee : Int) (tm : Array Value), Own Y.heap.size v.val ad cp xs → tm.getD 4 undef = .pointer (some ⟨gu + 1, 0, none⟩) → tm.getD 5 undef = .int .i64 ee → nn = n' → xs = xs' → ee = e → bodyPost Try.prog Try.f8 (RetP B W (MatTO B n' xs' e)) .ret { tmps := tm, defers := [] } ((v.val.setCell ⟨gu + 1, 0, none⟩ (.int .i64 nn)).setCell ⟨gu + 1, 1, none⟩ (.slice ad xs.length cp)) := fun v nn ad cp xs ee tm hO h4 h5 e1 e2 e3 => by
    subst e1 e2 e3
    refine bodyPost_ret (results_row (vs := [.int .i64 nn, .slice ad xs.length cp]) rfl _ _ (gu + 1) h4 (((HX.out.keep v.below).set 0 _).set 1 _) Try.underlying26 (by kernel_rfl)) rfl ?_
    obtain ⟨x1, hx1⟩ := later_set (HVY.out v) (g := gu + 1) (i := 0) (by omega) (.int .i64 nn)
    obtain ⟨x2, hx2⟩ := later_set ⟨x1, hx1⟩ (g := gu + 1) (i := 1) (by omega) (.slice ad xs.length cp)
    exact RetP.of ⟨x2, hx2⟩ ⟨ad, cp, by rw [h5], ((hO.set hgY _).set hgY _).mono (by omega)⟩
  have HF := Lib.hid hfin
  have HNo : Hid (e ≠ 0 → 0 = n' ∧ [] = xs') := Lib.hid (fun h => by have := hz h; exact ⟨this.1.symm, this.2.symm⟩)
  clear hfin hz
  obtain ⟨z, hzz⟩ : ∃ z : Later Y.heap.size Y, z.val = Y := ⟨Later.self _, rfl⟩
  rw [← hzz]
  clear hzz
  have q1z := q1 z
  by_cases h1 : n < 0
  · have e1 := Lib.hid (HE.out.1 (fun h => by have := h.1; omega))
    have d1 : decide (n < 0) = true := decide_eq_true h1
    have hno := Lib.hid (HNo.out (by have := e1.out; omega))
    clear h1
    go_wp2
    refine HF.out z 0 none 0 [] 1 _ (Own.nil _ _) ?_ ?_ hno.out.1 hno.out.2 e1.out.symm <;> rfl
  have d1 : decide (n < 0) = false := decide_eq_false h1
  by_cases h2 : 8 < n
  · have e1 := Lib.hid (HE.out.1 (fun h => by have := h.2.1; omega))
    have d2 : decide ((8 : Int) < n) = true := decide_eq_true h2
    have hno := Lib.hid (HNo.out (by have := e1.out; omega))
    have H12 := Lib.hid (And.intro h1 h2)
    clear h1 h2
    go_wp2
    refine HF.out z 0 none 0 [] 1 _ (Own.nil _ _) ?_ ?_ hno.out.1 hno.out.2 e1.out.symm <;> rfl
  have d2 : decide ((8 : Int) < n) = false := decide_eq_false h2
  obtain ⟨m, rfl⟩ := Int.eq_ofNat_of_zero_le (show 0 ≤ n by omega)
  have hm : m ≤ 8 := by omega
  have hb := bit_le m hm
  have hbc := bit_cast m
  have wb := IntWalk.i64_in (bit m : Int) (by omega)
  have HA : Hid (all (m : Int) = (bit m : Int) - 1) := Lib.hid (by rw [all_nat]; omega)
  clear h1 h2
  go_wp2
  clear d1 d2
  go_loopw [17] (fun i wr => ∃ (k : Nat) (v : Later Y.heap.size Y), k ≤ l.length ∧ i = .int .i64 k ∧ wr = v.val ∧ Hid (∀ i, i < k → isSet (m : Int) (l.getD i 0))) (fun i _ => l.length - (intOf i).toNat)
  case atStart => exact ⟨0, z, by omega, rfl, rfl, Lib.hid (fun i hi => by omega)⟩
  case round =>
    clear z q1z
    obtain ⟨k, v, hk, rfl, rfl, HK⟩ := hrel
    by_cases hlt : k < l.length
    · obtain ⟨bb, off, rfl, hbB, hcell⟩ := HI.out.at (k := k) hlt
      have c0 := hcell v k hlt
      have HNx : Hid (isSet (m : Int) (l.getD k 0) → ∀ i, i < k + 1 → isSet (m : Int) (l.getD i 0)) := Lib.hid (fun h i hi => by
        by_cases c : i = k
        · subst c; exact h
        · exact HK.out i (by omega))
      have HBd : Hid (¬ isSet (m : Int) (l.getD k 0) → e = 1) := Lib.hid (fun h => HE.out.1 (fun g => h (g.2.2 k hlt)))
      clear hcell HK
      generalize l.getD k 0 = x at *
      rcases ilt x 0 with ⟨g1, d1⟩ | ⟨g1, d1⟩
      · have e1 := Lib.hid (HBd.out (fun h => by have := h.2.2.1; omega))
        have hno := Lib.hid (HNo.out (by have := e1.out; omega))
        go_wp2
        refine HF.out v 0 none 0 [] 1 _ (Own.nil _ _) ?_ ?_ hno.out.1 hno.out.2 e1.out.symm <;> rfl
      · rcases ile (bit m : Int) x with ⟨g2, d2⟩ | ⟨g2, d2⟩
        · have e1 := Lib.hid (HBd.out (fun h => by have := h.2.2.2; have := HA.out; omega))
          have hno := Lib.hid (HNo.out (by have := e1.out; omega))
          go_wp2
          refine HF.out v 0 none 0 [] 1 _ (Own.nil _ _) ?_ ?_ hno.out.1 hno.out.2 e1.out.symm <;> rfl
        · have HN := Lib.hid (HNx.out ⟨by omega, by omega, g1, by have := HA.out; omega⟩)
          clear HNx HBd
          go_wp2
          go_roundw
          case rel => exact ⟨k+1, v, by omega, by go_num, rfl, HN⟩
          case measure => simp [intOf]; omega
    · have HOk : Hid (okL (m : Int) l) := Lib.hid ⟨by omega, by omega, fun i hi => HK.out i (by omega)⟩
      clear HK
      have q1v := q1 v
      by_cases h8 : l.length ≤ 8
      · have e1 := Lib.hid (HE.out.2.2 HOk.out h8)
        obtain ⟨m', L, hmm, _, rfl, hL8, hn', hxs'⟩ := hy e1.out
        obtain rfl : m = m' := by omega
        rw [ints_len] at h8
        have KG : Hid (∀ x : Later Y.heap.size Y, Calls Try.prog 25 #[.int .i64 m, .func (.func 26) #[] #[.pointer (some ⟨gu, 0, none⟩)]] x.val (RetP Y.heap.size Y (MatO Y.heap.size m (ints (biggest (those m (fun s => chs L (elems s) 0))))))) := Lib.hid (fun x => c_greatest x m hm 26 _ (fun s => chs L (elems s) 0) (fun args w => by kernel_rfl) (fun x v s hs => by
          have hxz := x.size
          exact c_kTransTell v L h8 hL8 a cap gu (HI.out.to x) (by omega) (by rw [x.cell (a := ⟨gu, 0, none⟩) hgY0]; exact HX1.out.c0) s (by omega)))
        have d1 : decide ((8 : Int) < ((ints L).length : Int)) = false := decide_eq_false (by rw [ints_len]; omega)
        have d2 : decide (8 < (ints L).length) = false := decide_eq_false (by rw [ints_len]; omega)
        have HH := Lib.hid (And.intro hn' (And.intro hxs' e1.out))
        clear hn' hxs' hy e1 hmm
        generalize ints (biggest (those m (fun s => chs L (elems s) 0))) = A at *
        generalize (ints L).length = ll at *
        go_wp2_with (first | (go_at_call 25; (with_reducible refine (KG.out _).mono ?_); rintro e _ ⟨_, rfl, ⟨ad, cp, rfl, hO⟩, v2, rfl⟩) | fail)
        refine HF.out v2 m ad cp A 0 _ hO ?_ ?_ HH.out.1.symm HH.out.2.1.symm HH.out.2.2.symm <;> rfl
      · have e1 := Lib.hid (HE.out.2.1 HOk.out (by omega))
        have hno := Lib.hid (HNo.out (by have := e1.out; omega))
        have d1 : decide ((8 : Int) < (l.length : Int)) = true := decide_eq_true (by omega)
        have d2 : decide (8 < l.length) = true := decide_eq_true (by omega)
        have H8 := Lib.hid h8
        clear h8 hy
        go_wp2
        refine HF.out v 0 none 0 [] 2 _ (Own.nil _ _) ?_ ?_ hno.out.1 hno.out.2 e1.out.symm <;> rfl

end Go.Proofs.Ytdieaijgoidocaa
