
/-
  rotaref.Flats, rotaref.Hyperplanes.
  Tables of 64-bit numbers.
-/
import Derived.Deep.CutRange
import Derived.Deep.CutBlock
import Derived.Deep.RegionHeld3
import Derived.Test.YtefkhnibempibaaPk24
import Derived.Test.YtefkhnibempibaaPk13
import Derived.Test.YtefkhnibempibaaPk10
namespace Go.Proofs.Ytefkhnibempibaa
open Go.RowKit
set_option linter.unusedVariables false

set_option maxRecDepth 100000 in
set_option maxHeartbeats 4000000 in
theorem c_spanTell {B : Nat} {W : World} (u : Later B W) (L : List Nat) (h256 : ∀ b, b ∈ L → b < 256) (hlen : L.length ≤ 4611686018427387904) (cap g : Nat) (a : Option Addr) (s : Nat) (hs : s < 256) (h : IntsAt B W a (ints L)) (hg : g < B) (hbox : W.cell? ⟨g, 1, none⟩ = some (.slice a (ints L).length cap)) :
    Calls Try.prog 34 #[.int .i64 s, .pointer (some ⟨g, 0, none⟩)] u.val (Ret B W (.bool (spanR L s))) := by
  have q1 : ∀ u : Later B W, u.val.cell? ⟨g, 1, none⟩ = some (.slice a L.length cap) := fun u => by rw [u.cell hg, hbox, ints_len]
  have HI := Lib.hid h
  have HF : Hid (spanR L s = true ↔ ∀ i, i < L.length → (!decide (L.getD i 0 ||| s = s)) = true) := Lib.hid all_getD
  have H8 : Hid (∀ i, i < L.length → L.getD i 0 < 256) := Lib.hid (fun i hi => h256 _ (by simp [hi]))
  clear h hbox h256
  generalize spanR L s = r at *
  go_enter Try.func34, Try.ntmps34
  go_wp2
  go_loopw [4] (fun i wr => ∃ (k : Nat) (v : Later B W), k ≤ L.length ∧ i = .int .i64 k ∧ wr = v.val ∧ Hid (∀ i, i < k → ¬ L.getD i 0 ||| s = s)) (fun i _ => L.length - (intOf i).toNat)
  case atStart => exact ⟨0, u, by omega, rfl, rfl, Lib.hid (fun i hi => by omega)⟩
  case round =>
    obtain ⟨k, v, hk, rfl, rfl, hf⟩ := hrel
    by_cases hlt : k < L.length
    · obtain ⟨b, off, rfl, hbB, hcell⟩ := HI.out.at (k := k) (by rw [ints_len]; exact hlt)
      have c0 : ∀ v : Later B W, v.val.cell? ⟨b, off + k, none⟩ = some (.int .i64 ((L.getD k 0 : Nat) : Int)) := fun v => by rw [← ints_getD]; exact hcell v k (by rw [ints_len]; exact hlt)
      have h8 := H8.out k hlt
      have KW := Lib.hid (fun v : Later B W => c_within v (L.getD k 0) s (by omega) (by omega))
      have HX : Hid (L.getD k 0 ||| s = s → r = false) := Lib.hid (fun h => by
        cases c : r
        · rfl
        · have := HF.out.1 c k hlt
          rw [decide_eq_true h] at this; cases this)
      have HY : Hid (¬ L.getD k 0 ||| s = s → ∀ i, i < k + 1 → ¬ L.getD i 0 ||| s = s) := Lib.hid (fun h i hi => by
        by_cases c : i = k
        · subst c; exact h
        · exact hf.out i (by omega))
      clear hcell hf
      generalize L.getD k 0 = x at *
      by_cases hw : x ||| s = s
      · have K1 := Lib.hid (fun v => dcall_t (KW.out v) hw)
        have hr := HX.out hw
        subst hr
        clear hw KW HX HY
        go_wp2_with (first | (go_at_call 35; refine (K1.out _).mono ?_; rintro e _ ⟨rfl, v2, rfl⟩))
        go_ret
        exact Ret.mk v2 rfl
      · have K1 := Lib.hid (fun v => dcall_f (KW.out v) hw)
        have HN := Lib.hid (HY.out hw)
        clear hw KW HX HY
        go_wp2_with (first | (go_at_call 35; refine (K1.out _).mono ?_; rintro e _ ⟨rfl, v2, rfl⟩))
        go_roundw
        case rel => exact ⟨k+1, v2, by omega, by go_num, rfl, HN⟩
        case measure => simp [intOf]; omega
    · have hr : r = true := HF.out.2 (fun i hi => by have := hf.out i (by omega); rw [decide_eq_false this]; rfl)
      subst hr
      go_wp2
      go_ret
      exact Ret.mk v rfl

set_option maxRecDepth 100000 in
set_option maxHeartbeats 4000000 in
theorem c_refHyper {B : Nat} {W : World} (u : Later B W) (m : Nat) (hm : m ≤ 8) (L : List Nat) (h256 : ∀ b, b ∈ L → b < 256) (hlen : L.length ≤ 4611686018427387904) (a : Option Addr) (cap : Nat) (h : IntsAt B W a (ints L)) :
    Calls Try.prog 9 #[.agg #[.int .i64 m, .slice a (ints L).length cap]] u.val (RetInts B W (ints (those m (mostB (those m (spanR L)))))) := by
  have hb := bit_le m hm
  have T0 : Hid (Two (u.val.alloc (.cells #[.int .i64 m, .slice a (ints L).length cap] 24)) u.val.heap.size 24 (.int .i64 m) (.slice a (ints L).length cap)) := Lib.hid (Two.new _ _ _ _)
  have hr : u.val.heap.size < (u.val.alloc (.cells #[.int .i64 m, .slice a (ints L).length cap] 24)).heap.size := by simp
  have hI : IntsAt (u.val.alloc (.cells #[.int .i64 m, .slice a (ints L).length cap] 24)).heap.size (u.val.alloc (.cells #[.int .i64 m, .slice a (ints L).length cap] 24)) a (ints L) := h.to (u.alloc _)
  have HV : Hid (∀ v : Later (u.val.alloc (.cells #[.int .i64 m, .slice a (ints L).length cap] 24)).heap.size (u.val.alloc (.cells #[.int .i64 m, .slice a (ints L).length cap] 24)), ∃ w : Later B W, w.val = v.val) := Lib.hid (fun v => ⟨(u.alloc _).up v, rfl⟩)
  have HN8 : Hid (∀ b, b ∈ those m (spanR L) → b < 256) := Lib.hid (fun b hb' => by have := (mem_those.1 hb').1; omega)
  have HNl : Hid ((those m (spanR L)).length ≤ 256) := Lib.hid (by have := thoseTo_len (spanR L) (bit m); have e : those m (spanR L) = thoseTo (spanR L) (bit m) := rfl; rw [e]; omega)
  have K1 : Hid (Calls Try.prog 15 #[.int .i64 m, .func (.func 34) #[] #[.pointer (some ⟨u.val.heap.size, 0, none⟩)]] (u.val.alloc (.cells #[.int .i64 m, .slice a (ints L).length cap] 24)).drew (RetInts (u.val.alloc (.cells #[.int .i64 m, .slice a (ints L).length cap] 24)).heap.size (u.val.alloc (.cells #[.int .i64 m, .slice a (ints L).length cap] 24)) (ints (those m (spanR L))))) := Lib.hid (by
    refine c_those (Later.self _).drew m hm 34 _ (spanR L) (fun args w => by kernel_rfl) (fun x v s hs => ?_)
    exact c_spanTell v L h256 hlen cap u.val.heap.size a s (by omega) (hI.to x) (Nat.lt_of_lt_of_le hr x.size) ((T0.out.keep x.below).c1))
  have t0 := T0.out.c0
  clear h hI h256
  generalize those m (spanR L) = N at *
  go_enter Try.func9, Try.ntmps9
  go_upto_region 1 with fail
  go_region_held3 (fun w' => w'.cell? ⟨u.val.heap.size, 0, none⟩ = some (.int .i64 m)) (first | exact t0 | exact (T0.out.keep y1.below).c0 | exact ((T0.out.keep y1.below).keep y2.below).c0) (first | (go_at_call 15; refine (K1.out).mono ?_; rintro e _ ⟨_, rfl, ⟨ad2, cp2, rfl, hI2, hcp2⟩, y1, rfl⟩) | (go_at_call 33; refine (c_mostR (Later.self y1.val) m hm N HN8.out (by have := HNl.out; omega) ad2 cp2 hI2).mono ?_; rintro e _ ⟨_, rfl, ⟨ad3, cp3, rfl, hI3, hcp3⟩, y2, rfl⟩))
  go_wp2
  go_ret
  refine RetP.of (HV.out (y1.up y2)) ?_
  exact ⟨_, _, rfl, hI3, hcp3⟩

end Go.Proofs.Ytefkhnibempibaa

namespace Go.Proofs.Ytefkhnibempibaa
open Go.RowKit
set_option linter.unusedVariables false

theorem info_int64 : (Try.prog.info? 2).map (fun i => (i.zero, i.size, i.bytes)) = some (some (.int .i64 0), 1, 8) := by kernel_rfl
/-- a table of numbers in block g -/
def JTab (w : World) (g n : Nat) (A : Nat → Int) : Prop := w.rowIs g 2 n (fun j => .int .i64 (A j))
theorem JTab.lt {w : World} {g n : Nat} {A : Nat → Int} (h : JTab w g n A) : g < w.heap.size := World.rowIs.lt h
theorem JTab.keep {w w' : World} {g n : Nat} {A : Nat → Int} (h : JTab w g n A) (hb : Below w.heap.size w w') : JTab w' g n A := World.rowIs.of_block h (hb.block g (World.rowIs.lt h))
theorem JTab.keep_at {w w' : World} {g n B : Nat} {A : Nat → Int} (h : JTab w g n A) (hb : Below B w w') (hg : g < B) : JTab w' g n A := World.rowIs.of_block h (hb.block g hg)
theorem JTab.cell {w : World} {g n : Nat} {A : Nat → Int} (h : JTab w g n A) {i : Nat} (hi : i < n) : w.cell? ⟨g, i, none⟩ = some (.int .i64 (A i)) := World.rowIs.cell h hi
theorem JTab.frozen {w : World} {g n : Nat} {A : Nat → Int} (h : JTab w g n A) (i : Nat) : w.frozen? ⟨g, i, none⟩ = false := World.rowIs.frozen h i
theorem JTab.set {w : World} {g n : Nat} {A : Nat → Int} (h : JTab w g n A) (i : Nat) (v : Int) {A' : Nat → Int} (e : ∀ j, j < n → A' j = if j = i then v else A j) : JTab (w.setCell ⟨g, i, none⟩ (.int .i64 v)) g n A' :=
  World.rowIs.congr (World.rowIs.set h i _) (fun j hj => by
    show (if j = i then _ else _ : Value) = _
    rw [e j hj]; split <;> rfl)
theorem JTab.congr {w : World} {g n : Nat} {A A' : Nat → Int} (h : JTab w g n A) (e : ∀ j, j < n → A j = A' j) : JTab w g n A' := World.rowIs.congr h (fun j hj => by show Value.int _ _ = Value.int _ _; rw [e j hj])
theorem JTab.other {w : World} {g n : Nat} {A : Nat → Int} (h : JTab w g n A) {b i : Nat} (hne : g ≠ b) (x : Value) : JTab (w.setCell ⟨b, i, none⟩ x) g n A := World.rowIs.of_block h (Below.heap_setCell _ _ _ _ (by rintro rfl; exact hne rfl))
theorem JTab.made (w : World) (n : Nat) : JTab (w.alloc (.cells (madeCells #[.int .i64 0] n) 2)) w.heap.size n (fun _ => 0) := World.rowIs_made w (.int .i64 0) n 2
theorem JTab.ints {w : World} {g n : Nat} {A : Nat → Int} (h : JTab w g n A) : IntsAt w.heap.size w (some ⟨g, 0, none⟩) (tabL n A) := by
  intro _
  refine ⟨g, 0, rfl, h.lt, fun k hk => ?_⟩
  rw [tabL_len] at hk
  rw [tabL_getD hk, Nat.zero_add]
  exact h.cell hk
theorem JTab.reads {w : World} {g n cap : Nat} {A : Nat → Int} (h : JTab w g n A) : Reads w.heap.size w (.slice (some ⟨g, 0, none⟩) n cap) (tabL n A) :=
  ⟨_, _, by rw [tabL_len], h.ints, fun h => by cases h⟩
end Go.Proofs.Ytefkhnibempibaa
