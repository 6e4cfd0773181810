
/-
  rotaref.Dual, Deleted, Contracted, Cut.
  The elements of a set as a rising list. No program in sight.
-/
import Derived.Test.YtefkhnibempibaaPk16
import Derived.Test.YtefkhnibempibaaPk03
namespace Go.Proofs.Ytefkhnibempibaa
open Go.RowKit
set_option linter.unusedVariables false

/-- the contract of rotaref.Ranks at a list of bases that is a family -/
theorem c_ranksL {B : Nat} {W : World} (u : Later B W) (m : Nat) (hm : m ≤ 8) (L : List Nat) (a : Option Addr) (cap : Nat) (h : IntsAt B W a (ints L)) (hlen : (ints L).length ≤ 4611686018427387904) (hf : isFam (m : Int) (ints L)) (hTN : toN (ints L) = L) :
    Calls Try.prog 27 #[.agg #[.int .i64 m, .slice a (ints L).length cap]] u.val (RetP B W (fun v w => ∃ g c, v = .slice (some ⟨g, 0, none⟩) (bit m) c ∧ ITab w g (bit m) (fun j => (rk L j : Int)))) := by
  have := c_refRanks u m hm (ints L) a cap h hlen hf
  rwa [hTN] at this
theorem RowAt1.new (w : World) (t : TypeId) (v : Value) : RowAt1 (w.alloc (.cells #[v] t)) w.heap.size t v := heap_alloc_new w _
theorem RowAt1.keepAt {w w' : World} {g B : Nat} {t : TypeId} {v : Value} (h : RowAt1 w g t v) (hb : Below B w w') (hg : g < B) : RowAt1 w' g t v := by
  show w'.heap[g]? = _
  rw [hb.block g hg]; exact h

set_option maxRecDepth 100000 in
set_option maxHeartbeats 8000000 in
theorem c_refDeleted {B : Nat} {W : World} (u : Later B W) (m : Nat) (hm : m ≤ 8) (L : List Nat) (a : Option Addr) (cap : Nat) (h : IntsAt B W a (ints L)) (hlen : (ints L).length ≤ 4611686018427387904) (hf : isFam (m : Int) (ints L)) (hTN : toN (ints L) = L) (s : Nat) (hs : s < bit m) :
    Calls Try.prog 40 #[.agg #[.int .i64 m, .slice a (ints L).length cap], .int .i64 s] u.val (RetP B W (MatO B (cnt s m : Nat) (ints (those (cnt s m) (ofRank (cnt s m) (delR m L s)))))) := by
  have hb := bit_le m hm
  have hB := u.size
  have T0 : Hid (Two (u.val.alloc (.cells #[.int .i64 m, .slice a (ints L).length cap] 24)) u.val.heap.size 24 (.int .i64 m) (.slice a (ints L).length cap)) := Lib.hid (Two.new _ _ _ _)
  have hrr : u.val.heap.size < (u.val.alloc (.cells #[.int .i64 m, .slice a (ints L).length cap] 24)).heap.size := by simp
  have hI : IntsAt (u.val.alloc (.cells #[.int .i64 m, .slice a (ints L).length cap] 24)).heap.size (u.val.alloc (.cells #[.int .i64 m, .slice a (ints L).length cap] 24)) a (ints L) := h.to (u.alloc _)
  have HV : Hid (∀ v : Later (u.val.alloc (.cells #[.int .i64 m, .slice a (ints L).length cap] 24)).heap.size (u.val.alloc (.cells #[.int .i64 m, .slice a (ints L).length cap] 24)), ∃ w : Later B W, w.val = v.val) := Lib.hid (fun v => ⟨(u.alloc _).up v, rfl⟩)
  have q0 : ∀ w : Later (u.val.alloc (.cells #[.int .i64 m, .slice a (ints L).length cap] 24)).heap.size (u.val.alloc (.cells #[.int .i64 m, .slice a (ints L).length cap] 24)), w.val.cell? ⟨u.val.heap.size, 0, none⟩ = some (.int .i64 m) := fun w => (T0.out.keep w.below).c0
  have q1 : ∀ w : Later (u.val.alloc (.cells #[.int .i64 m, .slice a (ints L).length cap] 24)).heap.size (u.val.alloc (.cells #[.int .i64 m, .slice a (ints L).length cap] 24)), w.val.cell? ⟨u.val.heap.size, 1, none⟩ = some (.slice a (ints L).length cap) := fun w => (T0.out.keep w.below).c1
  have p0 : (u.val.alloc (.cells #[.int .i64 m, .slice a (ints L).length cap] 24)).cell? ⟨u.val.heap.size, 0, none⟩ = some (.int .i64 m) := T0.out.c0
  have p1 : (u.val.alloc (.cells #[.int .i64 m, .slice a (ints L).length cap] 24)).cell? ⟨u.val.heap.size, 1, none⟩ = some (.slice a (ints L).length cap) := T0.out.c1
  have hZ : ((u.val.alloc (.cells #[.int .i64 m, .slice a (ints L).length cap] 24)).alloc (.cells #[.int .i64 s] 3)).heap.size = u.val.heap.size + 2 := by simp
  have XM := RowL.new ((u.val.alloc (.cells #[.int .i64 m, .slice a (ints L).length cap] 24)).alloc (.cells #[.int .i64 s] 3)) 24 [.int .i64 0, .slice none 0 0]
  rw [hZ] at XM
  have HZY : Hid (∃ w : Later (u.val.alloc (.cells #[.int .i64 m, .slice a (ints L).length cap] 24)).heap.size (u.val.alloc (.cells #[.int .i64 m, .slice a (ints L).length cap] 24)), w.val = (((u.val.alloc (.cells #[.int .i64 m, .slice a (ints L).length cap] 24)).alloc (.cells #[.int .i64 s] 3)).alloc (.cells #[.int .i64 0, .slice none 0 0] 24))) := Lib.hid ⟨((Later.self (u.val.alloc (.cells #[.int .i64 m, .slice a (ints L).length cap] 24))).alloc _).alloc _, rfl⟩
  have hM1 : (u.val.alloc (.cells #[.int .i64 m, .slice a (ints L).length cap] 24)).heap.size = u.val.heap.size + 1 := by simp
  have XS0 := RowAt1.new (u.val.alloc (.cells #[.int .i64 m, .slice a (ints L).length cap] 24)) 3 (.int .i64 s)
  rw [hM1] at XS0
  have XS := Lib.hid (XS0.keepAt (((Below.refl ((u.val.alloc (.cells #[.int .i64 m, .slice a (ints L).length cap] 24)).alloc (.cells #[.int .i64 s] 3)).heap.size ((u.val.alloc (.cells #[.int .i64 m, .slice a (ints L).length cap] 24)).alloc (.cells #[.int .i64 s] 3))).alloc (Nat.le_refl _) (.cells #[.int .i64 0, .slice none 0 0] 24))) (by rw [hZ]; omega))
  clear XS0
  have KR : Hid (Calls Try.prog 27 #[.agg #[.int .i64 m, .slice a (ints L).length cap]] (((u.val.alloc (.cells #[.int .i64 m, .slice a (ints L).length cap] 24)).alloc (.cells #[.int .i64 s] 3)).alloc (.cells #[.int .i64 0, .slice none 0 0] 24)) (RetP (((u.val.alloc (.cells #[.int .i64 m, .slice a (ints L).length cap] 24)).alloc (.cells #[.int .i64 s] 3)).alloc (.cells #[.int .i64 0, .slice none 0 0] 24)).heap.size (((u.val.alloc (.cells #[.int .i64 m, .slice a (ints L).length cap] 24)).alloc (.cells #[.int .i64 s] 3)).alloc (.cells #[.int .i64 0, .slice none 0 0] 24)) (fun v w => ∃ g c, v = .slice (some ⟨g, 0, none⟩) (bit m) c ∧ ITab w g (bit m) (fun j => (rk L j : Int))))) := Lib.hid (c_ranksL (Later.self (((u.val.alloc (.cells #[.int .i64 m, .slice a (ints L).length cap] 24)).alloc (.cells #[.int .i64 s] 3)).alloc (.cells #[.int .i64 0, .slice none 0 0] 24))) m hm L a cap (hI.to (((Later.self (u.val.alloc (.cells #[.int .i64 m, .slice a (ints L).length cap] 24))).alloc _).alloc _)) hlen hf hTN)
  have hY1 : Hid ((((u.val.alloc (.cells #[.int .i64 m, .slice a (ints L).length cap] 24)).alloc (.cells #[.int .i64 s] 3)).alloc (.cells #[.int .i64 0, .slice none 0 0] 24)).heap.size = u.val.heap.size + 3) := Lib.hid (by simp)
  have z0 : (((u.val.alloc (.cells #[.int .i64 m, .slice a (ints L).length cap] 24)).alloc (.cells #[.int .i64 s] 3)).alloc (.cells #[.int .i64 0, .slice none 0 0] 24)).cell? ⟨u.val.heap.size, 0, none⟩ = some (.int .i64 m) := by obtain ⟨w, hw⟩ := HZY.out; rw [← hw]; exact q0 w
  have z1 : (((u.val.alloc (.cells #[.int .i64 m, .slice a (ints L).length cap] 24)).alloc (.cells #[.int .i64 s] 3)).alloc (.cells #[.int .i64 0, .slice none 0 0] 24)).cell? ⟨u.val.heap.size, 1, none⟩ = some (.slice a (ints L).length cap) := by obtain ⟨w, hw⟩ := HZY.out; rw [← hw]; exact q1 w
  have HVY : Hid (∃ w : Later B W, w.val = (((u.val.alloc (.cells #[.int .i64 m, .slice a (ints L).length cap] 24)).alloc (.cells #[.int .i64 s] 3)).alloc (.cells #[.int .i64 0, .slice none 0 0] 24))) := Lib.hid ⟨(((u.alloc _).alloc _).alloc _), rfl⟩
  have HX := Lib.hid XM
  clear XM hI h hf hTN HZY q0 q1 p0 p1 T0 hrr HV hZ hM1
  go_enter Try.func40, Try.ntmps40
  go_upto_region 1 with fail
  generalize (((u.val.alloc (.cells #[.int .i64 m, .slice a (ints L).length cap] 24)).alloc (.cells #[.int .i64 s] 3)).alloc (.cells #[.int .i64 0, .slice none 0 0] 24)) = Y at *
  generalize u.val.heap.size = gu at *
  obtain ⟨y, hy⟩ := HVY.out
  go_upto_region 2 with (first | (go_at_call 27; ((with_reducible refine (KR.out).mono ?_); rintro e _ ⟨_, rfl, ⟨gt, c, rfl, hT⟩, v1, rfl⟩)))
  have XB : Hid (RowAt1 (v1.val.alloc (.cells #[.slice (some ⟨gt, 0, none⟩) (bit m) c] 22)) v1.val.heap.size 22 (.slice (some ⟨gt, 0, none⟩) (bit m) c)) := Lib.hid (RowAt1.new _ _ _)
  have hvs := v1.size
  have HT : Hid (ITab (v1.val.alloc (.cells #[.slice (some ⟨gt, 0, none⟩) (bit m) c] 22)) gt (bit m) (fun j => (rk L j : Int))) := Lib.hid (hT.keep ((Below.refl _ _).alloc (Nat.le_refl _) _))
  have hgt : gt < v1.val.heap.size := hT.lt
  have HXX : Hid (RowL (v1.val.alloc (.cells #[.slice (some ⟨gt, 0, none⟩) (bit m) c] 22)) (gu + 2) 24 [.int .i64 0, .slice none 0 0]) := Lib.hid ((HX.out.keep v1.below).keep_at ((Below.refl _ _).alloc (Nat.le_refl _) _) (by have := hY1.out; omega))
  have x0 : (v1.val.alloc (.cells #[.slice (some ⟨gt, 0, none⟩) (bit m) c] 22)).cell? ⟨gu, 0, none⟩ = some (.int .i64 m) := by
    have e1 : v1.val.cell? ⟨gu, 0, none⟩ = some (.int .i64 m) := by rw [v1.cell (a := ⟨gu, 0, none⟩) (by have := hY1.out; show gu < _; omega)]; exact z0
    exact ((Later.self v1.val).alloc _).cell (a := ⟨gu, 0, none⟩) (by have := hY1.out; show gu < _; omega) ▸ e1
  have XSX : Hid (RowAt1 (v1.val.alloc (.cells #[.slice (some ⟨gt, 0, none⟩) (bit m) c] 22)) (gu + 1) 3 (.int .i64 s)) := Lib.hid ((XS.out.keep v1.below).keepAt ((Below.refl _ _).alloc (Nat.le_refl _) _) (by have := hY1.out; omega))
  have HVX : Hid (∀ v : Later (v1.val.alloc (.cells #[.slice (some ⟨gt, 0, none⟩) (bit m) c] 22)).heap.size (v1.val.alloc (.cells #[.slice (some ⟨gt, 0, none⟩) (bit m) c] 22)), ∃ w : Later B W, w.val = v.val) := Lib.hid (fun v => ⟨y.to v.val (by rw [hy]; exact (((v1.alloc (.cells #[.slice (some ⟨gt, 0, none⟩) (bit m) c] 22)).up v).below).mono (by have := y.size; rw [hy] at this; exact this)), rfl⟩)
  have hxs : Hid ((v1.val.alloc (.cells #[.slice (some ⟨gt, 0, none⟩) (bit m) c] 22)).heap.size = v1.val.heap.size + 1) := Lib.hid (by simp)
  have hYs := hY1.out
  clear KR HX hT z0 z1 XS hy
  generalize (v1.val.alloc (.cells #[.slice (some ⟨gt, 0, none⟩) (bit m) c] 22)) = X at *
  generalize v1.val.heap.size = gb at *
  have hg2 : gu + 2 < X.heap.size := by have := hxs.out; omega
  have f0 : ∀ (w : Later X.heap.size X), w.val.cell? ⟨gu + 2, 0, none⟩ = some (.int .i64 0) := fun w => (HXX.out.keep_at w.below hg2).cell rfl
  have z0 : ∀ (w : Later X.heap.size X), w.val.frozen? ⟨gu + 2, 0, none⟩ = false := fun w => (HXX.out.keep_at w.below hg2).fz 0
  have f1 : ∀ (w : Later X.heap.size X) (x0 : Value), (w.val.setCell ⟨gu + 2, 0, none⟩ x0).cell? ⟨gu + 2, 1, none⟩ = some (.slice none 0 0) := fun w x0 => ((HXX.out.keep_at w.below hg2).set 0 x0).cell rfl
  have z1 : ∀ (w : Later X.heap.size X) (x0 : Value), (w.val.setCell ⟨gu + 2, 0, none⟩ x0).frozen? ⟨gu + 2, 1, none⟩ = false := fun w x0 => ((HXX.out.keep_at w.below hg2).set 0 x0).fz 1
  have KO : Hid (∀ w : Later X.heap.size X, Calls Try.prog 41 #[.int .i64 (cnt s m : Nat), .func (.func 60) #[] #[.pointer (some ⟨gb, 0, none⟩), .pointer (some ⟨gu, 0, none⟩), .pointer (some ⟨gu + 1, 0, none⟩)]] w.val (RetP X.heap.size X (MatO X.heap.size (cnt s m : Nat) (ints (those (cnt s m) (ofRank (cnt s m) (delR m L s))))))) := Lib.hid (fun w => by
    refine c_ofRank w (cnt s m) (by have := cnt_le s m; omega) 60 _ (delR m L s) (fun args w => by kernel_rfl) (fun x0 v t ht => ?_)
    obtain ⟨x, hx⟩ : ∃ x : Later X.heap.size X, x = x0 := ⟨_, rfl⟩
    subst hx
    have hxz := x.size
    have hxo := hxs.out
    exact c_delTell v m hm L s t gu gb (gu + 1) gt c hs (by have := bit_le (cnt s m) (by have := cnt_le s m; omega); omega) (by omega) (by omega) (by omega) (by omega) (by rw [x.cell (a := ⟨gu, 0, none⟩) (by show gu < _; omega)]; exact x0) ((XB.out.keepAt x.below (by omega)).c0) ((XSX.out.keepAt x.below (by omega)).c0) (HT.out.keep_at x.below (by omega)))
  have KS : Hid (∀ w : Later X.heap.size X, Calls Try.prog 26 #[.int .i64 s] w.val (Ret w.val.heap.size w.val (.int .i64 (sz s)))) := Lib.hid (fun w => c_size (Later.self w.val) s (by omega))
  have hcs := cnt_sz hm hs
  have hsub : ((m : Nat) : Int) - ((sz s : Nat) : Int) = ((cnt s m : Nat) : Int) := by omega
  have wsub := IntWalk.i64_in ((cnt s m : Nat) : Int) (by omega)
  have y0 : ∀ w : Later X.heap.size X, w.val.cell? ⟨gu, 0, none⟩ = some (.int .i64 m) := fun w => by rw [w.cell (a := ⟨gu, 0, none⟩) (by have := hxs.out; show gu < _; omega)]; exact x0
  have y1 : ∀ w : Later X.heap.size X, w.val.cell? ⟨gu + 1, 0, none⟩ = some (.int .i64 s) := fun w => (XSX.out.keepAt w.below (by have := hxs.out; omega)).c0
  generalize hA : those (cnt s m) (ofRank (cnt s m) (delR m L s)) = A at *
  clear hA XB HT
  generalize cnt s m = nn at *
  generalize sz s = zz at *
  have hBg : B ≤ gu + 2 := by omega
  have fin : ∀ (v2 : Later X.heap.size X) (ad : Option Addr) (cp : Nat) (tm : Array Value), Own X.heap.size v2.val ad cp (ints A) → tm.getD 4 undef = .pointer (some ⟨gu + 2, 0, none⟩) → bodyPost Try.prog Try.f40 (RetP B W (MatO B (nn : Nat) (ints A))) .ret { tmps := tm, defers := [] } ((v2.val.setCell ⟨gu + 2, 0, none⟩ (.int .i64 (nn : Nat))).setCell ⟨gu + 2, 1, none⟩ (.slice ad (ints A).length cp)) := fun v2 ad cp tm hO htm => by
    refine bodyPost_ret (results_cell_row rfl _ _ (gu + 2) 24 #[.int .i64 (nn : Nat), .slice ad (ints A).length cp] (0, 0) _ htm (((HXX.out.keep v2.below).set 0 _).set 1 _) Try.underlying24 rfl (by kernel_rfl)) rfl ?_
    obtain ⟨z1, hz1⟩ := later_set (HVX.out v2) (g := gu + 2) (i := 0) hBg (.int .i64 (nn : Nat))
    obtain ⟨z2, hz2⟩ := later_set ⟨z1, hz1⟩ (g := gu + 2) (i := 1) hBg (.slice ad (ints A).length cp)
    refine RetP.of ⟨z2, hz2⟩ ?_
    exact ⟨_, _, rfl, ((hO.set hg2 _).set hg2 _).mono (by omega)⟩
  have HFIN := Lib.hid fin
  clear fin HVX HXX
  obtain ⟨x, hx⟩ : ∃ x : Later X.heap.size X, x.val = X := ⟨Later.self _, rfl⟩
  rw [← hx]
  clear hx x0
  have s0 : x.val.drew.cell? ⟨gu, 0, none⟩ = some (.int .i64 m) ∧ x.val.drew.cell? ⟨gu + 1, 0, none⟩ = some (.int .i64 s) := ⟨y0 x.drew, y1 x.drew⟩
  have se : ∀ (w : Later X.heap.size X) (p q : Value), ((w.val.setCell ⟨gu + 2, 0, none⟩ p).setCell ⟨gu + 2, 1, none⟩ q).cell? ⟨gu, 0, none⟩ = some (.int .i64 m) ∧ ((w.val.setCell ⟨gu + 2, 0, none⟩ p).setCell ⟨gu + 2, 1, none⟩ q).cell? ⟨gu + 1, 0, none⟩ = some (.int .i64 s) := fun w p q => by
    refine ⟨?_, ?_⟩
    · rw [World.cell?_setCell_far _ _ _ _ (show gu + 2 ≠ gu by omega), World.cell?_setCell_far _ _ _ _ (show gu + 2 ≠ gu by omega)]; exact y0 w
    · rw [World.cell?_setCell_far _ _ _ _ (show gu + 2 ≠ gu + 1 by omega), World.cell?_setCell_far _ _ _ _ (show gu + 2 ≠ gu + 1 by omega)]; exact y1 w
  have KSd : Hid (Calls Try.prog 26 #[.int .i64 s] x.val.drew (Ret X.heap.size X (.int .i64 zz))) := Lib.hid ((KS.out x.drew).mono (by
    rintro e _ ⟨rfl, w2, rfl⟩
    exact Ret.mk (x.drew.up w2) rfl))
  go_region_held3 (fun w' => w'.cell? ⟨gu, 0, none⟩ = some (.int .i64 m) ∧ w'.cell? ⟨gu + 1, 0, none⟩ = some (.int .i64 s)) (first | exact s0 | exact ⟨y0 v3, y1 v3⟩ | exact ⟨y0 v2, y1 v2⟩ | exact se v2 _ _) (first | (go_at_call 26; (with_reducible refine (KSd.out).mono ?_); rintro e _ ⟨rfl, v3, rfl⟩) | (go_at_call 41; (with_reducible refine (KO.out v3).mono ?_); rintro e _ ⟨_, rfl, ⟨ad, cp, rfl, hO⟩, v2, rfl⟩))
  all_goals
    go_wp2
    exact HFIN.out v2 ad cp _ hO rfl

end Go.Proofs.Ytefkhnibempibaa

namespace Go.Proofs.Ytefkhnibempibaa
open Go.RowKit
set_option linter.unusedVariables false

theorem elems_first {s o : Nat} (ho : o < 8) (h : s.testBit o = true) (hmin : ∀ i, i < 8 → s.testBit i = true → o ≤ i) : (elems s)[0]? = some o := by
  rw [← List.head?_eq_getElem?]
  unfold elems
  rw [List.head?_filter, List.find?_range_eq_some]
  refine ⟨h, by simpa using ho, fun j hj => ?_⟩
  cases c : s.testBit j
  · rfl
  · have := hmin j (by omega) c; omega
theorem mem_elems {s x : Nat} : x ∈ elems s ↔ x < 8 ∧ s.testBit x = true := by simp [elems]
theorem elems_rise (s : Nat) {i j : Nat} (hij : i < j) (hj : j < (elems s).length) : (elems s).getD i 0 < (elems s).getD j 0 := by
  have hp : List.Pairwise (· < ·) (elems s) := (List.pairwise_lt_range).filter _
  have := List.pairwise_iff_getElem.1 hp i j (by omega) hj hij
  have a : (elems s).getD i 0 = (elems s)[i] := by simp [show i < (elems s).length by omega]
  have b : (elems s).getD j 0 = (elems s)[j] := by simp [hj]
  rw [a, b]; exact this
theorem elems_mem (s : Nat) {i : Nat} (h : i < (elems s).length) : (elems s).getD i 0 < 8 ∧ s.testBit ((elems s).getD i 0) = true := by
  have : (elems s).getD i 0 = (elems s)[i] := by simp [h]
  rw [this]
  exact mem_elems.1 (List.getElem_mem h)
theorem elems_at {s d : Nat} (hd : d < 8) (h : s.testBit d = true) : ∃ j, j < (elems s).length ∧ (elems s).getD j 0 = d ∧ ∀ i, i < j → (elems s).getD i 0 < d := by
  obtain ⟨j, hj, e⟩ := List.getElem_of_mem (mem_elems.2 ⟨hd, h⟩)
  have e2 : (elems s).getD j 0 = d := by simp [hj, e]
  exact ⟨j, hj, e2, fun i hi => by rw [← e2]; exact elems_rise s hi hj⟩

end Go.Proofs.Ytefkhnibempibaa
