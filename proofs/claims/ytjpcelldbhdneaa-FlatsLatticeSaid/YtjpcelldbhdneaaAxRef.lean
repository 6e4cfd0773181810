
/-
  rotaref.Flats, rotaref.Hyperplanes.
-/
import Derived.Deep.CutRange
import Derived.Deep.CutBlock
import Derived.Deep.RegionHeld3
import Derived.Test.YtjpcelldbhdneaaMostR
import Derived.Test.YtjpcelldbhdneaaCirc3
namespace Go.Proofs.Ytjpcelldbhdneaa
open Go.RowKit
set_option linter.unusedVariables false

set_option maxRecDepth 100000 in
set_option maxHeartbeats 4000000 in
theorem c_spanTell {B : Nat} {W : World} (u : Later B W) (L : List Nat) (h256 : ∀ b, b ∈ L → b < 256) (hlen : L.length ≤ 4611686018427387904) (cap g : Nat) (a : Option Addr) (s : Nat) (hs : s < 256) (h : IntsAt B W a (ints L)) (hg : g < B) (hbox : W.cell? ⟨g, 1, none⟩ = some (.slice a (ints L).length cap)) :
    Calls Try.prog 127 #[.int .i64 s, .pointer (some ⟨g, 0, none⟩)] u.val (Ret B W (.bool (spanR L s))) := by
  have q1 : ∀ u : Later B W, u.val.cell? ⟨g, 1, none⟩ = some (.slice a L.length cap) := fun u => by rw [u.cell hg, hbox, ints_len]
  have HI := Lib.hid h
  have HF : Hid (spanR L s = true ↔ ∀ i, i < L.length → (!decide (L.getD i 0 ||| s = s)) = true) := Lib.hid all_getD
  have H8 : Hid (∀ i, i < L.length → L.getD i 0 < 256) := Lib.hid (fun i hi => h256 _ (by simp [hi]))
  clear h hbox h256
  generalize spanR L s = r at *
  go_enter Try.func127, Try.ntmps127
  go_wp2
  go_loopw [4] (fun i wr => ∃ (k : Nat) (v : Later B W), k ≤ L.length ∧ i = .int .i64 k ∧ wr = v.val ∧ Hid (∀ i, i < k → ¬ L.getD i 0 ||| s = s)) (fun i _ => L.length - (intOf i).toNat)
  case atStart => exact ⟨0, u, by omega, rfl, rfl, Lib.hid (fun i hi => by omega)⟩
  case round =>
    obtain ⟨k, v, hk, rfl, rfl, hf⟩ := hrel
    by_cases hlt : k < L.length
    · obtain ⟨b, off, rfl, hbB, hcell⟩ := HI.out.at (k := k) (by rw [ints_len]; exact hlt)
      have c0 : ∀ v : Later B W, v.val.cell? ⟨b, off + k, none⟩ = some (.int .i64 ((L.getD k 0 : Nat) : Int)) := fun v => by rw [← ints_getD]; exact hcell v k (by rw [ints_len]; exact hlt)
      have h8 := H8.out k hlt
      have KW := Lib.hid (fun v : Later B W => c_within v (L.getD k 0) s (by omega) (by omega))
      have HX : Hid (L.getD k 0 ||| s = s → r = false) := Lib.hid (fun h => by
        cases c : r
        · rfl
        · have := HF.out.1 c k hlt
          rw [decide_eq_true h] at this; cases this)
      have HY : Hid (¬ L.getD k 0 ||| s = s → ∀ i, i < k + 1 → ¬ L.getD i 0 ||| s = s) := Lib.hid (fun h i hi => by
        by_cases c : i = k
        · subst c; exact h
        · exact hf.out i (by omega))
      clear hcell hf
      generalize L.getD k 0 = x at *
      by_cases hw : x ||| s = s
      · have K1 := Lib.hid (fun v => dcall_t (KW.out v) hw)
        have hr := HX.out hw
        subst hr
        clear hw KW HX HY
        go_wp2_with (first | (go_at_call 107; refine (K1.out _).mono ?_; rintro e _ ⟨rfl, v2, rfl⟩))
        go_ret
        exact Ret.mk v2 rfl
      · have K1 := Lib.hid (fun v => dcall_f (KW.out v) hw)
        have HN := Lib.hid (HY.out hw)
        clear hw KW HX HY
        go_wp2_with (first | (go_at_call 107; refine (K1.out _).mono ?_; rintro e _ ⟨rfl, v2, rfl⟩))
        go_roundw
        case rel => exact ⟨k+1, v2, by omega, by go_num, rfl, HN⟩
        case measure => simp [intOf]; omega
    · have hr : r = true := HF.out.2 (fun i hi => by have := hf.out i (by omega); rw [decide_eq_false this]; rfl)
      subst hr
      go_wp2
      go_ret
      exact Ret.mk v rfl

set_option maxRecDepth 100000 in
set_option maxHeartbeats 4000000 in
theorem c_flatTell {B : Nat} {W : World} (u : Later B W) (C : List Nat) (h256 : ∀ b, b ∈ C → b < 256) (hlen : C.length ≤ 4611686018427387904) (cap g : Nat) (a : Option Addr) (s : Nat) (hs : s < 256) (h : IntsAt B W a (ints C)) (hg : g < B) (hbox : W.cell? ⟨g, 0, none⟩ = some (.slice a (ints C).length cap)) :
    Calls Try.prog 126 #[.int .i64 s, .pointer (some ⟨g, 0, none⟩)] u.val (Ret B W (.bool (flatR C s))) := by
  have q1 : ∀ u : Later B W, u.val.cell? ⟨g, 0, none⟩ = some (.slice a C.length cap) := fun u => by rw [u.cell hg, hbox, ints_len]
  have HI := Lib.hid h
  have HF : Hid (flatR C s = true ↔ ∀ i, i < C.length → (!decide (sz (nand (C.getD i 0) s) = 1)) = true) := Lib.hid all_getD
  have H8 : Hid (∀ i, i < C.length → C.getD i 0 < 256) := Lib.hid (fun i hi => h256 _ (by simp [hi]))
  clear h hbox h256
  generalize flatR C s = r at *
  go_enter Try.func126, Try.ntmps126
  go_wp2
  go_loopw [4] (fun i wr => ∃ (k : Nat) (v : Later B W), k ≤ C.length ∧ i = .int .i64 k ∧ wr = v.val ∧ Hid (∀ i, i < k → ¬ sz (nand (C.getD i 0) s) = 1)) (fun i _ => C.length - (intOf i).toNat)
  case atStart => exact ⟨0, u, by omega, rfl, rfl, Lib.hid (fun i hi => by omega)⟩
  case round =>
    obtain ⟨k, v, hk, rfl, rfl, hf⟩ := hrel
    by_cases hlt : k < C.length
    · obtain ⟨b, off, rfl, hbB, hcell⟩ := HI.out.at (k := k) (by rw [ints_len]; exact hlt)
      have c0 : ∀ v : Later B W, v.val.cell? ⟨b, off + k, none⟩ = some (.int .i64 ((C.getD k 0 : Nat) : Int)) := fun v => by rw [← ints_getD]; exact hcell v k (by rw [ints_len]; exact hlt)
      have h8 := H8.out k hlt
      have HX : Hid (sz (nand (C.getD k 0) s) = 1 → r = false) := Lib.hid (fun h => by
        cases c : r
        · rfl
        · have := HF.out.1 c k hlt
          rw [decide_eq_true h] at this; cases this)
      have HY : Hid (¬ sz (nand (C.getD k 0) s) = 1 → ∀ i, i < k + 1 → ¬ sz (nand (C.getD i 0) s) = 1) := Lib.hid (fun h i hi => by
        by_cases c : i = k
        · subst c; exact h
        · exact hf.out i (by omega))
      clear hcell hf
      generalize C.getD k 0 = x at *
      have o1 := i64_andNot x s (by omega) (by omega)
      have hn : nand x s < 256 := nand_lt _ _ 8 h8
      have KS := Lib.hid (fun v : Later B W => c_size v (nand x s) hn)
      have hz := sz_le (nand x s)
      generalize sz (nand x s) = z at *
      by_cases hw : z = 1
      · have d1 : ((z : Int) == 1) = true := by rw [beq_iff_eq]; omega
        have hr := HX.out hw
        subst hr
        clear hw HX HY
        go_wp2_with (first | (go_at_call 44; ((with_reducible refine (KS.out _).mono ?_); rintro e _ ⟨rfl, v2, rfl⟩)))
        go_ret
        exact Ret.mk v2 rfl
      · have d1 : ((z : Int) == 1) = false := by rw [beq_eq_false_iff_ne]; omega
        have HN := Lib.hid (HY.out hw)
        clear hw HX HY
        go_wp2_with (first | (go_at_call 44; ((with_reducible refine (KS.out _).mono ?_); rintro e _ ⟨rfl, v2, rfl⟩)))
        go_roundw
        case rel => exact ⟨k+1, v2, by omega, by go_num, rfl, HN⟩
        case measure => simp [intOf]; omega
    · have hr : r = true := HF.out.2 (fun i hi => by have := hf.out i (by omega); rw [decide_eq_false this]; rfl)
      subst hr
      go_wp2
      go_ret
      exact Ret.mk v rfl

set_option maxRecDepth 100000 in
set_option maxHeartbeats 4000000 in
theorem c_refFlatsO {B : Nat} {W : World} (u : Later B W) (m : Nat) (hm : m ≤ 8) (L : List Nat) (h256 : ∀ b, b ∈ L → b < 256) (hlen : L.length ≤ 4611686018427387904) (a : Option Addr) (cap : Nat) (h : IntsAt B W a (ints L)) :
    Calls Try.prog 17 #[.agg #[.int .i64 m, .slice a (ints L).length cap]] u.val (RetOwn B W (ints (those m (flatR (those m (circB m L)))))) := by
  have hb := bit_le m hm
  have T0 : Hid (Two (u.val.alloc (.cells #[.int .i64 m, .slice a (ints L).length cap] 24)) u.val.heap.size 24 (.int .i64 m) (.slice a (ints L).length cap)) := Lib.hid (Two.new _ _ _ _)
  have hr : u.val.heap.size < (u.val.alloc (.cells #[.int .i64 m, .slice a (ints L).length cap] 24)).heap.size := by simp
  have HV : Hid (∀ v : Later (u.val.alloc (.cells #[.int .i64 m, .slice a (ints L).length cap] 24)).heap.size (u.val.alloc (.cells #[.int .i64 m, .slice a (ints L).length cap] 24)), ∃ w : Later B W, w.val = v.val) := Lib.hid (fun v => ⟨(u.alloc _).up v, rfl⟩)
  have K0 : Hid (Calls Try.prog 15 #[.agg #[.int .i64 m, .slice a (ints L).length cap]] (u.val.alloc (.cells #[.int .i64 m, .slice a (ints L).length cap] 24)) (RetInts (u.val.alloc (.cells #[.int .i64 m, .slice a (ints L).length cap] 24)).heap.size (u.val.alloc (.cells #[.int .i64 m, .slice a (ints L).length cap] 24)) (ints (those m (circB m L))))) := Lib.hid (c_circuits (Later.self _) m hm L h256 hlen a cap (h.to (u.alloc _)))
  have q0 := T0.out.c0
  have q1 := T0.out.c1
  have HC8 : Hid (∀ b, b ∈ those m (circB m L) → b < 256) := Lib.hid (fun b hb' => by have := (mem_those.1 hb').1; omega)
  have HCl : Hid ((those m (circB m L)).length ≤ 256) := Lib.hid (by have := thoseTo_len (circB m L) (bit m); have e : those m (circB m L) = thoseTo (circB m L) (bit m) := rfl; rw [e]; omega)
  clear h h256
  generalize those m (circB m L) = C at *
  go_enter Try.func17, Try.ntmps17
  go_upto_region 2 with (first | (go_at_call 15; ((with_reducible refine (K0.out).mono ?_); rintro e _ ⟨_, rfl, ⟨ad1, cp1, rfl, hI1, hcp1⟩, v1, rfl⟩)))
  clear q0 q1 K0
  have X0 : Hid (RowAt1 (v1.val.alloc (.cells #[.slice ad1 (ints C).length cp1] 22)) v1.val.heap.size 22 (.slice ad1 (ints C).length cp1)) := Lib.hid (heap_alloc_new _ _)
  have hx : v1.val.heap.size < (v1.val.alloc (.cells #[.slice ad1 (ints C).length cp1] 22)).heap.size := by simp
  have hIX : IntsAt (v1.val.alloc (.cells #[.slice ad1 (ints C).length cp1] 22)).heap.size (v1.val.alloc (.cells #[.slice ad1 (ints C).length cp1] 22)) ad1 (ints C) := hI1.to ((Later.self v1.val).alloc _)
  have T1 := Lib.hid (T0.out.keep_at (v1.alloc (.cells #[.slice ad1 (ints C).length cp1] 22)).below hr)
  have K1 : Hid (Calls Try.prog 58 #[.int .i64 m, .func (.func 126) #[] #[.pointer (some ⟨v1.val.heap.size, 0, none⟩)]] (v1.val.alloc (.cells #[.slice ad1 (ints C).length cp1] 22)) (RetOwn (v1.val.alloc (.cells #[.slice ad1 (ints C).length cp1] 22)).heap.size (v1.val.alloc (.cells #[.slice ad1 (ints C).length cp1] 22)) (ints (those m (flatR C))))) := Lib.hid (by
    refine c_those_own (Later.self _) m hm 126 _ (flatR C) (fun args w => by kernel_rfl) (fun x v s hs => ?_)
    exact c_flatTell v C HC8.out (by have := HCl.out; omega) cp1 v1.val.heap.size ad1 s (by omega) (hIX.to x) (Nat.lt_of_lt_of_le hx x.size) ((X0.out.keep x.below).c0))
  have HVX : Hid (∀ y : Later (v1.val.alloc (.cells #[.slice ad1 (ints C).length cp1] 22)).heap.size (v1.val.alloc (.cells #[.slice ad1 (ints C).length cp1] 22)), ∃ w : Later B W, w.val = y.val) := Lib.hid (fun y => HV.out ((v1.alloc _).up y))
  have HBX : Hid (B ≤ (v1.val.alloc (.cells #[.slice ad1 (ints C).length cp1] 22)).heap.size) := Lib.hid (by have := u.size; have := v1.size; simp at this; simp; omega)
  have t0 : (v1.val.alloc (.cells #[.slice ad1 (ints C).length cp1] 22)).cell? ⟨u.val.heap.size, 0, none⟩ = some (.int .i64 m) := T1.out.c0
  clear hI1 hcp1 hIX
  go_wp2_with (first | (go_at_call 58; ((with_reducible refine (K1.out).mono ?_); rintro e _ ⟨_, rfl, ⟨ad2, cp2, rfl, hO2⟩, y1, rfl⟩)))
  go_ret
  exact RetP.of (HVX.out y1) ⟨_, _, rfl, hO2.mono HBX.out⟩

theorem c_refFlats {B : Nat} {W : World} (u : Later B W) (m : Nat) (hm : m ≤ 8) (L : List Nat) (h256 : ∀ b, b ∈ L → b < 256) (hlen : L.length ≤ 4611686018427387904) (a : Option Addr) (cap : Nat) (h : IntsAt B W a (ints L)) :
    Calls Try.prog 17 #[.agg #[.int .i64 m, .slice a (ints L).length cap]] u.val (RetInts B W (ints (those m (flatR (those m (circB m L)))))) := (c_refFlatsO u m hm L h256 hlen a cap h).mono fun _ _ h => h.ints

set_option maxRecDepth 100000 in
set_option maxHeartbeats 4000000 in
theorem c_refHyper {B : Nat} {W : World} (u : Later B W) (m : Nat) (hm : m ≤ 8) (L : List Nat) (h256 : ∀ b, b ∈ L → b < 256) (hlen : L.length ≤ 4611686018427387904) (a : Option Addr) (cap : Nat) (h : IntsAt B W a (ints L)) :
    Calls Try.prog 18 #[.agg #[.int .i64 m, .slice a (ints L).length cap]] u.val (RetInts B W (ints (those m (mostB (those m (spanR L)))))) := by
  have hb := bit_le m hm
  have T0 : Hid (Two (u.val.alloc (.cells #[.int .i64 m, .slice a (ints L).length cap] 24)) u.val.heap.size 24 (.int .i64 m) (.slice a (ints L).length cap)) := Lib.hid (Two.new _ _ _ _)
  have hr : u.val.heap.size < (u.val.alloc (.cells #[.int .i64 m, .slice a (ints L).length cap] 24)).heap.size := by simp
  have hI : IntsAt (u.val.alloc (.cells #[.int .i64 m, .slice a (ints L).length cap] 24)).heap.size (u.val.alloc (.cells #[.int .i64 m, .slice a (ints L).length cap] 24)) a (ints L) := h.to (u.alloc _)
  have HV : Hid (∀ v : Later (u.val.alloc (.cells #[.int .i64 m, .slice a (ints L).length cap] 24)).heap.size (u.val.alloc (.cells #[.int .i64 m, .slice a (ints L).length cap] 24)), ∃ w : Later B W, w.val = v.val) := Lib.hid (fun v => ⟨(u.alloc _).up v, rfl⟩)
  have HN8 : Hid (∀ b, b ∈ those m (spanR L) → b < 256) := Lib.hid (fun b hb' => by have := (mem_those.1 hb').1; omega)
  have HNl : Hid ((those m (spanR L)).length ≤ 256) := Lib.hid (by have := thoseTo_len (spanR L) (bit m); have e : those m (spanR L) = thoseTo (spanR L) (bit m) := rfl; rw [e]; omega)
  have K1 : Hid (Calls Try.prog 58 #[.int .i64 m, .func (.func 127) #[] #[.pointer (some ⟨u.val.heap.size, 0, none⟩)]] (u.val.alloc (.cells #[.int .i64 m, .slice a (ints L).length cap] 24)).drew (RetInts (u.val.alloc (.cells #[.int .i64 m, .slice a (ints L).length cap] 24)).heap.size (u.val.alloc (.cells #[.int .i64 m, .slice a (ints L).length cap] 24)) (ints (those m (spanR L))))) := Lib.hid (by
    refine c_those (Later.self _).drew m hm 127 _ (spanR L) (fun args w => by kernel_rfl) (fun x v s hs => ?_)
    exact c_spanTell v L h256 hlen cap u.val.heap.size a s (by omega) (hI.to x) (Nat.lt_of_lt_of_le hr x.size) ((T0.out.keep x.below).c1))
  have t0 := T0.out.c0
  clear h hI h256
  generalize those m (spanR L) = N at *
  go_enter Try.func18, Try.ntmps18
  go_upto_region 1 with fail
  go_region_held3 (fun w' => w'.cell? ⟨u.val.heap.size, 0, none⟩ = some (.int .i64 m)) (first | exact t0 | exact (T0.out.keep y1.below).c0 | exact ((T0.out.keep y1.below).keep y2.below).c0) (first | (go_at_call 58; refine (K1.out).mono ?_; rintro e _ ⟨_, rfl, ⟨ad2, cp2, rfl, hI2, hcp2⟩, y1, rfl⟩) | (go_at_call 96; refine (c_mostR (Later.self y1.val) m hm N HN8.out (by have := HNl.out; omega) ad2 cp2 hI2).mono ?_; rintro e _ ⟨_, rfl, ⟨ad3, cp3, rfl, hI3, hcp3⟩, y2, rfl⟩))
  go_wp2
  go_ret
  refine RetP.of (HV.out (y1.up y2)) ?_
  exact ⟨_, _, rfl, hI3, hcp3⟩

end Go.Proofs.Ytjpcelldbhdneaa
