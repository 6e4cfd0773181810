
/-
  rotaref.Summed.
  slices.Sort, Clone, Compact at []int: the shelf's contracts at this program (printed by lay-shelf.mjs and lay-plain.mjs; numbers by name, so that it serves any seat).
-/
import Derived.Test.YtefkhnibempibaaPk23
import Derived.Test.YtefkhnibempibaaPk31
import Derived.Deep.CutRange
import Derived.Shelf.Sort.Plain
import Derived.Ground.Names2Prog
import Derived.Shelf.Slices.Clone
import Derived.Shelf.Slices.CompactI
import Derived.Shelf.Slices.In.SortNone
import Derived.Test.YtefkhnibempibaaProg
namespace Go.Proofs.Ytefkhnibempibaa
open Go.RowKit
set_option linter.unusedVariables false

set_option maxRecDepth 100000 in
set_option maxHeartbeats 8000000 in
theorem c_refSummed {B : Nat} {W : World} (u : Later B W) (m k : Nat) (hmk : m + k ≤ 8) (L1 L2 : List Nat) (a b : Option Addr) (cap capb : Nat) (h1 : IntsAt B W a (ints L1)) (h2 : IntsAt B W b (ints L2)) (hlen1 : (ints L1).length ≤ 4611686018427387904) (hlen2 : (ints L2).length ≤ 4611686018427387904) (hf1 : isFam (m : Int) (ints L1)) (hf2 : isFam (k : Int) (ints L2)) (hTN1 : toN (ints L1) = L1) (hTN2 : toN (ints L2) = L2) :
    Calls Try.prog 13 #[.agg #[.int .i64 m, .slice a (ints L1).length cap], .agg #[.int .i64 k, .slice b (ints L2).length capb]] u.val (RetP B W (MatO B (m + k : Nat) (ints (those (m + k) (ofRank (m + k) (sumR m L1 L2)))))) := by
  have hbm := bit_le m (by omega)
  have hbk := bit_le k (by omega)
  have hB := u.size
  have e1 : (u.val.alloc (.cells #[.int .i64 m, .slice a (ints L1).length cap] 24)).heap.size = u.val.heap.size + 1 := by simp
  have e2 : ((u.val.alloc (.cells #[.int .i64 m, .slice a (ints L1).length cap] 24)).alloc (.cells #[.int .i64 k, .slice b (ints L2).length capb] 24)).heap.size = u.val.heap.size + 2 := by simp
  have X1 : Hid (RowL (((u.val.alloc (.cells #[.int .i64 m, .slice a (ints L1).length cap] 24)).alloc (.cells #[.int .i64 k, .slice b (ints L2).length capb] 24)).alloc (.cells #[.int .i64 0, .slice none 0 0] 24)) u.val.heap.size 24 [.int .i64 m, .slice a (ints L1).length cap]) := Lib.hid (((RowL.new u.val 24 _).keep ((Below.refl _ _).alloc (Nat.le_refl _) _)).keep ((Below.refl _ _).alloc (Nat.le_refl _) _))
  have X2 : Hid (RowL (((u.val.alloc (.cells #[.int .i64 m, .slice a (ints L1).length cap] 24)).alloc (.cells #[.int .i64 k, .slice b (ints L2).length capb] 24)).alloc (.cells #[.int .i64 0, .slice none 0 0] 24)) (u.val.heap.size + 1) 24 [.int .i64 k, .slice b (ints L2).length capb]) := Lib.hid (by
    have h := (RowL.new (u.val.alloc (.cells #[.int .i64 m, .slice a (ints L1).length cap] 24)) 24 [.int .i64 k, .slice b (ints L2).length capb]).keep ((Below.refl _ _).alloc (Nat.le_refl _) (.cells #[.int .i64 0, .slice none 0 0] 24))
    rwa [e1] at h)
  have HX : Hid (RowL (((u.val.alloc (.cells #[.int .i64 m, .slice a (ints L1).length cap] 24)).alloc (.cells #[.int .i64 k, .slice b (ints L2).length capb] 24)).alloc (.cells #[.int .i64 0, .slice none 0 0] 24)) (u.val.heap.size + 2) 24 [.int .i64 0, .slice none 0 0]) := Lib.hid (by
    have h := RowL.new ((u.val.alloc (.cells #[.int .i64 m, .slice a (ints L1).length cap] 24)).alloc (.cells #[.int .i64 k, .slice b (ints L2).length capb] 24)) 24 [.int .i64 0, .slice none 0 0]
    rwa [e2] at h)
  have hY1 : Hid ((((u.val.alloc (.cells #[.int .i64 m, .slice a (ints L1).length cap] 24)).alloc (.cells #[.int .i64 k, .slice b (ints L2).length capb] 24)).alloc (.cells #[.int .i64 0, .slice none 0 0] 24)).heap.size = u.val.heap.size + 3) := Lib.hid (by simp)
  have HVY : Hid (∃ w : Later B W, w.val = (((u.val.alloc (.cells #[.int .i64 m, .slice a (ints L1).length cap] 24)).alloc (.cells #[.int .i64 k, .slice b (ints L2).length capb] 24)).alloc (.cells #[.int .i64 0, .slice none 0 0] 24))) := Lib.hid ⟨((u.alloc _).alloc _).alloc _, rfl⟩
  have HR1 : Hid (∀ w, Bel (((u.val.alloc (.cells #[.int .i64 m, .slice a (ints L1).length cap] 24)).alloc (.cells #[.int .i64 k, .slice b (ints L2).length capb] 24)).alloc (.cells #[.int .i64 0, .slice none 0 0] 24)) w → Calls Try.prog 27 #[.agg #[.int .i64 m, .slice a (ints L1).length cap]] w (RetP w.heap.size w (fun v w => ∃ g c, v = .slice (some ⟨g, 0, none⟩) (bit m) c ∧ ITab w g (bit m) (fun j => (rk L1 j : Int))))) := Lib.hid (fun w hw => c_ranksL (Later.self w) m (by omega) L1 a cap ((h1.to (((u.alloc _).alloc _).alloc _)).to ⟨w, hw.1, hw.2⟩) hlen1 hf1 hTN1)
  have HR2 : Hid (∀ w, Bel (((u.val.alloc (.cells #[.int .i64 m, .slice a (ints L1).length cap] 24)).alloc (.cells #[.int .i64 k, .slice b (ints L2).length capb] 24)).alloc (.cells #[.int .i64 0, .slice none 0 0] 24)) w → Calls Try.prog 27 #[.agg #[.int .i64 k, .slice b (ints L2).length capb]] w (RetP w.heap.size w (fun v w => ∃ g c, v = .slice (some ⟨g, 0, none⟩) (bit k) c ∧ ITab w g (bit k) (fun j => (rk L2 j : Int))))) := Lib.hid (fun w hw => c_ranksL (Later.self w) k (by omega) L2 b capb ((h2.to (((u.alloc _).alloc _).alloc _)).to ⟨w, hw.1, hw.2⟩) hlen2 hf2 hTN2)
  clear e1 e2 h1 h2 hf1 hf2 hTN1 hTN2
  go_enter Try.func13, Try.ntmps13
  go_upto_region 1 with fail
  generalize (((u.val.alloc (.cells #[.int .i64 m, .slice a (ints L1).length cap] 24)).alloc (.cells #[.int .i64 k, .slice b (ints L2).length capb] 24)).alloc (.cells #[.int .i64 0, .slice none 0 0] 24)) = Y at *
  generalize u.val.heap.size = gu at *
  have x0 : ∀ w : Later Y.heap.size Y, w.val.cell? ⟨gu, 0, none⟩ = some (.int .i64 m) := fun w => (X1.out.keep w.below).cell rfl
  have x1 : ∀ w : Later Y.heap.size Y, w.val.cell? ⟨gu, 1, none⟩ = some (.slice a (ints L1).length cap) := fun w => (X1.out.keep w.below).cell rfl
  have x2 : ∀ w : Later Y.heap.size Y, w.val.cell? ⟨gu + 1, 0, none⟩ = some (.int .i64 k) := fun w => (X2.out.keep w.below).cell rfl
  have x3 : ∀ w : Later Y.heap.size Y, w.val.cell? ⟨gu + 1, 1, none⟩ = some (.slice b (ints L2).length capb) := fun w => (X2.out.keep w.below).cell rfl
  obtain ⟨z, hz⟩ : ∃ z : Later Y.heap.size Y, z.val = Y := ⟨Later.self _, rfl⟩
  go_cut [5, 6] from 7 to 10 (fun x y w => TwoBox Y (bit m) (bit k) (fun j => (rk L1 j : Int)) (fun j => (rk L2 j : Int)) x y w)
  case first => as_aux_lemma =>
    rw [← hz]
    clear hz
    have hbz : Bel Y z.val := Bel.of z
    have hz0 := z.size
    have rF : ∀ (w : World) (g : Nat), RB 22 (Value.slice none 0 0) w g → w.cell? ⟨g, 0, none⟩ = some (Value.slice none 0 0) := fun w g h => h.cell
    have rG : ∀ (w : World) (g : Nat), RB 22 (Value.slice none 0 0) w g → w.frozen? ⟨g, 0, none⟩ = false := fun w g h => h.fz
    have rA : ∀ (w : World) (g : Nat) (o : Obj), RB 22 (Value.slice none 0 0) w g → RB 22 (Value.slice none 0 0) (w.alloc o) g := fun w g o h => h.alloc o
    have rN : ∀ w : World, RB 22 (Value.slice none 0 0) (w.alloc (.cells #[(Value.slice none 0 0)] 22)) w.heap.size := fun w => RB.new _ _ _
    have rN2 : ∀ (w : World) (o : Obj), RB 22 (Value.slice none 0 0) ((w.alloc o).alloc (.cells #[(Value.slice none 0 0)] 22)) (w.heap.size + 1) := fun w o => RB.new2 _ _ _ _
    have rD : ∀ (w : World) (g : Nat), RB 22 (Value.slice none 0 0) w g → RB 22 (Value.slice none 0 0) w.drew g := fun w g h => h.drew
    have rU : ∀ (w : World) (g : Nat) (y : Later w.heap.size w), RB 22 (Value.slice none 0 0) w g → RB 22 (Value.slice none 0 0) y.val g := fun w g y h => h.up y
    have rFA : ∀ (w : World) (g : Nat) (o : Obj), RB 22 (Value.slice none 0 0) w g → (w.alloc o).cell? ⟨g, 0, none⟩ = some (Value.slice none 0 0) := fun w g o h => (h.alloc o).cell
    have rGA : ∀ (w : World) (g : Nat) (o : Obj), RB 22 (Value.slice none 0 0) w g → (w.alloc o).frozen? ⟨g, 0, none⟩ = false := fun w g o h => (h.alloc o).fz
    have rFS : ∀ (w : World) (g g' : Nat) (x : Value), RB 22 (Value.slice none 0 0) w g → g' ≠ g → (w.setCell ⟨g', 0, none⟩ x).cell? ⟨g, 0, none⟩ = some (Value.slice none 0 0) := fun w g g' x h hn => (h.set hn x).cell
    have rGS : ∀ (w : World) (g g' : Nat) (x : Value), RB 22 (Value.slice none 0 0) w g → g' ≠ g → (w.setCell ⟨g', 0, none⟩ x).frozen? ⟨g, 0, none⟩ = false := fun w g g' x h hn => (h.set hn x).fz
    have rS : ∀ (w : World) (g g' : Nat) (x : Value), RB 22 (Value.slice none 0 0) w g → g' ≠ g → RB 22 (Value.slice none 0 0) (w.setCell ⟨g', 0, none⟩ x) g := fun w g g' x h hn => h.set hn x
    have rE : ∀ (w : World) (g : Nat) (y : Later w.heap.size w), RB 22 (Value.slice none 0 0) w g → (g = y.val.heap.size) = False := fun w g y h => h.ne y
    have rE' : ∀ (w : World) (g : Nat) (y : Later w.heap.size w), RB 22 (Value.slice none 0 0) w g → (y.val.heap.size = g) = False := fun w g y h => h.ne' y
    have sa : ∀ w, Bel Y w → w.cell? ⟨gu, 0, none⟩ = some (.int .i64 m) ∧ w.cell? ⟨gu, 1, none⟩ = some (.slice a (ints L1).length cap) ∧ w.cell? ⟨gu + 1, 0, none⟩ = some (.int .i64 k) ∧ w.cell? ⟨gu + 1, 1, none⟩ = some (.slice b (ints L2).length capb) := fun w h => by
      obtain ⟨v, rfl⟩ := h.later
      exact ⟨x0 v, x1 v, x2 v, x3 v⟩
    go_region_held3 (fun w' => w'.cell? ⟨gu, 0, none⟩ = some (.int .i64 m) ∧ w'.cell? ⟨gu, 1, none⟩ = some (.slice a (ints L1).length cap) ∧ w'.cell? ⟨gu + 1, 0, none⟩ = some (.int .i64 k) ∧ w'.cell? ⟨gu + 1, 1, none⟩ = some (.slice b (ints L2).length capb)) (first | (refine sa _ ?_; (repeat (first | (with_reducible exact hbz) | (with_reducible refine Bel.up ?_ _) | (with_reducible refine Bel.alloc ?_ _) | (with_reducible refine Bel.drew ?_) | (with_reducible refine Bel.set ?_ (by first | omega | (dsimp only; omega) | (simp; omega)) _))); done) | fail) (first | (go_at_call 27; (with_reducible refine (HR1.out _ ?_).mono ?_); (repeat (first | (with_reducible exact hbz) | (with_reducible refine Bel.up ?_ _) | (with_reducible refine Bel.alloc ?_ _) | (with_reducible refine Bel.drew ?_) | (with_reducible refine Bel.set ?_ (by first | omega | (dsimp only; omega) | (simp; omega)) _))); rintro e _ ⟨_, rfl, ⟨t1, c1, rfl, hT1⟩, v1, rfl⟩; have hz1 := Bel.sz (Y := Y) (w := v1.val) (by (repeat (first | (with_reducible exact hbz) | (with_reducible refine Bel.up ?_ _) | (with_reducible refine Bel.alloc ?_ _) | (with_reducible refine Bel.drew ?_) | (with_reducible refine Bel.set ?_ (by first | omega | (dsimp only; omega) | (simp; omega)) _)))); have s1 := v1.size; try simp at s1; (first | (with_reducible have b0 : RB 22 (Value.slice none 0 0) v1.val z.val.heap.size := RB.up (RB.drew (RB.new _ _ _)) v1) | (with_reducible have b0 : RB 22 (Value.slice none 0 0) v1.val z.val.heap.size := RB.up (RB.drew (RB.alloc (RB.new _ _ _) _)) v1) | (with_reducible have b0 : RB 22 (Value.slice none 0 0) v1.val z.val.heap.size := RB.up (RB.new _ _ _) v1) | (with_reducible have b0 : RB 22 (Value.slice none 0 0) v1.val z.val.heap.size := RB.up (RB.alloc (RB.new _ _ _) _) v1) | skip); (first | (with_reducible have b1 : RB 22 (Value.slice none 0 0) v1.val (z.val.heap.size + 1) := RB.up (RB.drew (RB.new2 _ _ _ _)) v1) | (with_reducible have b1 : RB 22 (Value.slice none 0 0) v1.val (z.val.heap.size + 1) := RB.up (RB.new2 _ _ _ _) v1) | skip); try have n0 : z.val.heap.size ≠ v1.val.heap.size := (by omega); try have n1 : v1.val.heap.size ≠ z.val.heap.size := (by omega)) | (go_at_call 27; (with_reducible refine (HR2.out _ ?_).mono ?_); (repeat (first | (with_reducible exact hbz) | (with_reducible refine Bel.up ?_ _) | (with_reducible refine Bel.alloc ?_ _) | (with_reducible refine Bel.drew ?_) | (with_reducible refine Bel.set ?_ (by first | omega | (dsimp only; omega) | (simp; omega)) _))); rintro e _ ⟨_, rfl, ⟨t2, c2, rfl, hT2⟩, v2, rfl⟩; have hz2 := Bel.sz (Y := Y) (w := v2.val) (by (repeat (first | (with_reducible exact hbz) | (with_reducible refine Bel.up ?_ _) | (with_reducible refine Bel.alloc ?_ _) | (with_reducible refine Bel.drew ?_) | (with_reducible refine Bel.set ?_ (by first | omega | (dsimp only; omega) | (simp; omega)) _)))); have s2 := v2.size; try simp at s2; (first | (with_reducible have b2 : RB 22 (Value.slice none 0 0) v2.val z.val.heap.size := RB.up b0 v2) | (with_reducible have b2 : RB 22 (Value.slice none 0 0) v2.val z.val.heap.size := RB.up (RB.alloc b0 _) v2) | skip); (first | (with_reducible have b3 : RB 22 (Value.slice none 0 0) v2.val (z.val.heap.size + 1) := RB.up b1 v2) | skip); (first | (with_reducible have b4 : RB 22 (Value.slice none 0 0) v2.val v1.val.heap.size := RB.up (RB.new _ _ _) v2) | (with_reducible have b4 : RB 22 (Value.slice none 0 0) v2.val v1.val.heap.size := RB.up (RB.alloc (RB.new _ _ _) _) v2) | skip); (first | (with_reducible have b5 : RB 22 (Value.slice none 0 0) v2.val (v1.val.heap.size + 1) := RB.up (RB.new2 _ _ _ _) v2) | skip); try have n2 : z.val.heap.size ≠ v2.val.heap.size := (by omega); try have n3 : v2.val.heap.size ≠ z.val.heap.size := (by omega); try have n4 : v1.val.heap.size ≠ v2.val.heap.size := (by omega); try have n5 : v2.val.heap.size ≠ v1.val.heap.size := (by omega)) | fail)
    all_goals
      go_wp2
      go_meet
      case rel =>
        refine TwoBox.mk (t1 := t1) (t2 := t2) (c1 := c1) (c2 := c2) ?_ ?_ ?_ ?_ ?_
        · (repeat (first | (with_reducible exact hbz) | (with_reducible refine Bel.up ?_ _) | (with_reducible refine Bel.alloc ?_ _) | (with_reducible refine Bel.drew ?_) | (with_reducible refine Bel.set ?_ (by first | omega | (dsimp only; omega) | (simp; omega)) _)))
        · (repeat (first | (with_reducible assumption) | (with_reducible exact RB.new _ _ _) | (with_reducible exact RB.new2 _ _ _ _) | (with_reducible refine RB.up ?_ _) | (with_reducible refine RB.alloc ?_ _) | (with_reducible refine RB.drew ?_) | (with_reducible refine RB.same (v := (Value.slice none 0 0)) ?_ _) | (with_reducible refine RB.set ?_ (by first | assumption | omega) _)))
        · (repeat (first | (with_reducible assumption) | (with_reducible exact RB.new _ _ _) | (with_reducible exact RB.new2 _ _ _ _) | (with_reducible refine RB.up ?_ _) | (with_reducible refine RB.alloc ?_ _) | (with_reducible refine RB.drew ?_) | (with_reducible refine RB.same (v := (Value.slice none 0 0)) ?_ _) | (with_reducible refine RB.set ?_ (by first | assumption | omega) _)))
        · (repeat (first | (with_reducible assumption) | (with_reducible refine ITab.upI ?_ _) | (with_reducible refine ITab.allocI ?_ _) | (with_reducible refine ITab.drewI ?_) | (with_reducible refine ITab.rbset (t := 22) ?_ (by omega) (by (repeat (first | (with_reducible assumption) | (with_reducible exact RB.new _ _ _) | (with_reducible exact RB.new2 _ _ _ _) | (with_reducible refine RB.up ?_ _) | (with_reducible refine RB.alloc ?_ _) | (with_reducible refine RB.drew ?_) | (with_reducible refine RB.same (v := (Value.slice none 0 0)) ?_ _) | (with_reducible refine RB.set ?_ (by first | assumption | omega) _)))))))
        · (repeat (first | (with_reducible assumption) | (with_reducible refine ITab.upI ?_ _) | (with_reducible refine ITab.allocI ?_ _) | (with_reducible refine ITab.drewI ?_) | (with_reducible refine ITab.rbset (t := 22) ?_ (by omega) (by (repeat (first | (with_reducible assumption) | (with_reducible exact RB.new _ _ _) | (with_reducible exact RB.new2 _ _ _ _) | (with_reducible refine RB.up ?_ _) | (with_reducible refine RB.alloc ?_ _) | (with_reducible refine RB.drew ?_) | (with_reducible refine RB.same (v := (Value.slice none 0 0)) ?_ _) | (with_reducible refine RB.set ?_ (by first | assumption | omega) _)))))))
  case rest => as_aux_lemma =>
    clear z hz
    obtain ⟨g1, g2, t1, t2, c1, c2, v, rfl, rfl, rfl, hR1, hR2, hT1, hT2⟩ := hcut
    obtain ⟨y, hy⟩ := HVY.out
    have hYs := hY1.out
    have hvs := v.size
    have XR1 : Hid (∀ x : Later v.val.heap.size v.val, x.val.cell? ⟨g1, 0, none⟩ = some (.slice (some ⟨t1, 0, none⟩) (bit m) c1)) := Lib.hid (fun x => (RB.up hR1 x).cell)
    have XR2 : Hid (∀ x : Later v.val.heap.size v.val, x.val.cell? ⟨g2, 0, none⟩ = some (.slice (some ⟨t2, 0, none⟩) (bit k) c2)) := Lib.hid (fun x => (RB.up hR2 x).cell)
    have XT1 : Hid (∀ x : Later v.val.heap.size v.val, ITab x.val t1 (bit m) (fun j => (rk L1 j : Int))) := Lib.hid (fun x => ITab.upI hT1 x)
    have XT2 : Hid (∀ x : Later v.val.heap.size v.val, ITab x.val t2 (bit k) (fun j => (rk L2 j : Int))) := Lib.hid (fun x => ITab.upI hT2 x)
    have hg1 : g1 < v.val.heap.size := RowAt1.lt hR1
    have hg2' : g2 < v.val.heap.size := RowAt1.lt hR2
    have ht1 : t1 < v.val.heap.size := hT1.lt
    have ht2 : t2 < v.val.heap.size := hT2.lt
    have XM : Hid (∀ x : Later v.val.heap.size v.val, x.val.cell? ⟨gu, 0, none⟩ = some (.int .i64 m)) := Lib.hid (fun x => x0 (v.up x))
    have HXX : Hid (RowL v.val (gu + 2) 24 [.int .i64 0, .slice none 0 0]) := Lib.hid (HX.out.keep v.below)
    have HVX : Hid (∀ x : Later v.val.heap.size v.val, ∃ w : Later B W, w.val = x.val) := Lib.hid (fun x => ⟨y.to x.val (by rw [hy]; exact ((v.up x).below).mono (by have := y.size; rw [hy] at this; exact this)), rfl⟩)
    have y0 : ∀ x : Later v.val.heap.size v.val, x.val.cell? ⟨gu, 0, none⟩ = some (.int .i64 m) := XM.out
    have y1 : ∀ x : Later v.val.heap.size v.val, x.val.cell? ⟨gu + 1, 0, none⟩ = some (.int .i64 k) := fun x => x2 (v.up x)
    clear hR1 hR2 hT1 hT2 HR1 HR2 x0 x1 x2 x3 X1 X2 HX HVY hy y
    generalize v.val = X at *
    have hgg : gu < X.heap.size := by omega
    have hg2 : gu + 2 < X.heap.size := by omega
    have f0 : ∀ (w : Later X.heap.size X), w.val.cell? ⟨gu + 2, 0, none⟩ = some (.int .i64 0) := fun w => (HXX.out.keep_at w.below hg2).cell rfl
    have z0 : ∀ (w : Later X.heap.size X), w.val.frozen? ⟨gu + 2, 0, none⟩ = false := fun w => (HXX.out.keep_at w.below hg2).fz 0
    have f1 : ∀ (w : Later X.heap.size X) (x0 : Value), (w.val.setCell ⟨gu + 2, 0, none⟩ x0).cell? ⟨gu + 2, 1, none⟩ = some (.slice none 0 0) := fun w x0 => ((HXX.out.keep_at w.below hg2).set 0 x0).cell rfl
    have z1 : ∀ (w : Later X.heap.size X) (x0 : Value), (w.val.setCell ⟨gu + 2, 0, none⟩ x0).frozen? ⟨gu + 2, 1, none⟩ = false := fun w x0 => ((HXX.out.keep_at w.below hg2).set 0 x0).fz 1
    have KO : Hid (∀ w : Later X.heap.size X, Calls Try.prog 41 #[.int .i64 (m + k : Nat), .func (.func 42) #[] #[.pointer (some ⟨g1, 0, none⟩), .pointer (some ⟨gu, 0, none⟩), .pointer (some ⟨g2, 0, none⟩)]] w.val (RetP X.heap.size X (MatO X.heap.size (m + k : Nat) (ints (those (m + k) (ofRank (m + k) (sumR m L1 L2))))))) := Lib.hid (fun w => by
      refine c_ofRank w (m + k) hmk 42 _ (sumR m L1 L2) (fun args w => by kernel_rfl) (fun x0 v t ht => ?_)
      obtain ⟨x, hx⟩ : ∃ x : Later X.heap.size X, x = x0 := ⟨_, rfl⟩
      subst hx
      have hxz := x.size
      exact c_sumTell v m k hmk L1 L2 t gu g1 t1 c1 g2 t2 c2 ht (by omega) (by omega) (by omega) (by omega) (by omega) (XM.out x) (XR1.out x) (XT1.out x) (XR2.out x) (XT2.out x))
    generalize hA : those (m + k) (ofRank (m + k) (sumR m L1 L2)) = A at *
    have hadd : (m : Int) + (k : Int) = ((m + k : Nat) : Int) := by omega
    have wadd := IntWalk.i64_in ((m + k : Nat) : Int) (by omega)
    clear hA XR1 XR2 XT1 XT2 XM
    generalize m + k = nn at *
    have hBg : B ≤ gu + 2 := by omega
    have fin : ∀ (v2 : Later X.heap.size X) (ad : Option Addr) (cp : Nat) (tm : Array Value), Own X.heap.size v2.val ad cp (ints A) → tm.getD 4 undef = .pointer (some ⟨gu + 2, 0, none⟩) → bodyPost Try.prog Try.f13 (RetP B W (MatO B (nn : Nat) (ints A))) .ret { tmps := tm, defers := [] } ((v2.val.setCell ⟨gu + 2, 0, none⟩ (.int .i64 (nn : Nat))).setCell ⟨gu + 2, 1, none⟩ (.slice ad (ints A).length cp)) := fun v2 ad cp tm hO htm => by
      refine bodyPost_ret (results_cell_row rfl _ _ (gu + 2) 24 #[.int .i64 (nn : Nat), .slice ad (ints A).length cp] (0, 0) _ htm (((HXX.out.keep v2.below).set 0 _).set 1 _) Try.underlying24 rfl (by kernel_rfl)) rfl ?_
      obtain ⟨z1, hz1⟩ := later_set (HVX.out v2) (g := gu + 2) (i := 0) hBg (.int .i64 (nn : Nat))
      obtain ⟨z2, hz2⟩ := later_set ⟨z1, hz1⟩ (g := gu + 2) (i := 1) hBg (.slice ad (ints A).length cp)
      refine RetP.of ⟨z2, hz2⟩ ?_
      exact ⟨_, _, rfl, ((hO.set hg2 _).set hg2 _).mono (by omega)⟩
    have HFIN := Lib.hid fin
    clear fin HVX HXX
    obtain ⟨x, hx⟩ : ∃ x : Later X.heap.size X, x.val = X := ⟨Later.self _, rfl⟩
    rw [← hx]
    clear hx
    rw [show gu + 1 + 1 = gu + 2 from rfl]
    go_wp2_with (first | (go_at_call 41; (with_reducible refine (KO.out x).mono ?_); rintro e _ ⟨_, rfl, ⟨ad, cp, rfl, hO⟩, v2, rfl⟩))
    exact HFIN.out v2 ad cp _ hO rfl

end Go.Proofs.Ytefkhnibempibaa

namespace Go.Proofs
open Go.Shelf
def Try.lays189_ren : Go.Shelf.Ren := ⟨fun | 189 => 51 | 125 => 73 | 257 => 72 | 128 => 88 | 129 => 89 | 294 => 79 | 295 => 80 | 296 => 81 | 297 => 82 | 298 => 83 | 299 => 84 | 216 => 85 | 300 => 86 | 301 => 87 | 328 => 93 | 329 => 94 | 330 => 95 | 331 => 96 | 332 => 97 | 215 => 98 | 343 => 99 | n => n, fun | 28 => 22 | 3 => 3 | 46 => 65 | 0 => 0 | 51 => 76 | 53 => 78 | 4 => 4 | 183 => 71 | 182 => 70 | 131 => 67 | 5 => 5 | 9 => 9 | 218 => 79 | 222 => 83 | 228 => 85 | 229 => 86 | n => n, fun | n => n⟩
theorem Try.lays189 : Go.Proofs.Lays.n189 Try.prog Try.lays189_ren := {
  mixed := by kernel_rfl
  f125 := Try.func73.trans (congrArg some (by kernel_rfl))
  f128 := Try.func88.trans (congrArg some (by kernel_rfl))
  f129 := Try.func89.trans (congrArg some (by kernel_rfl))
  f189 := Try.func51.trans (congrArg some (by kernel_rfl))
  f215 := Try.func98.trans (congrArg some (by kernel_rfl))
  f216 := Try.func85.trans (congrArg some (by kernel_rfl))
  f257 := Try.func72.trans (congrArg some (by kernel_rfl))
  f294 := Try.func79.trans (congrArg some (by kernel_rfl))
  f295 := Try.func80.trans (congrArg some (by kernel_rfl))
  f296 := Try.func81.trans (congrArg some (by kernel_rfl))
  f297 := Try.func82.trans (congrArg some (by kernel_rfl))
  f298 := Try.func83.trans (congrArg some (by kernel_rfl))
  f299 := Try.func84.trans (congrArg some (by kernel_rfl))
  f300 := Try.func86.trans (congrArg some (by kernel_rfl))
  f301 := Try.func87.trans (congrArg some (by kernel_rfl))
  f328 := Try.func93.trans (congrArg some (by kernel_rfl))
  f329 := Try.func94.trans (congrArg some (by kernel_rfl))
  f330 := Try.func95.trans (congrArg some (by kernel_rfl))
  f331 := Try.func96.trans (congrArg some (by kernel_rfl))
  f332 := Try.func97.trans (congrArg some (by kernel_rfl))
  f343 := Try.func99.trans (congrArg some (by kernel_rfl))
  t0 := Try.underlying0
  a0 := Try.isAgg0
  z0 := Try.sizeOf0
  v0 := Try.zeroValue0
  t3 := Try.underlying3
  a3 := Try.isAgg3
  z3 := Try.sizeOf3
  v3 := Try.zeroValue3
  t4 := Try.underlying4
  a4 := Try.isAgg4
  z4 := Try.sizeOf4
  v4 := Try.zeroValue4
  t5 := Try.underlying5
  a5 := Try.isAgg5
  z5 := Try.sizeOf5
  v5 := Try.zeroValue5
  t9 := Try.underlying9
  a9 := Try.isAgg9
  z9 := Try.sizeOf9
  v9 := Try.zeroValue9
  t28 := Try.underlying22
  a28 := Try.isAgg22
  z28 := Try.sizeOf22
  v28 := Try.zeroValue22
  t46 := Try.underlying65
  a46 := Try.isAgg65
  z46 := Try.sizeOf65
  v46 := Try.zeroValue65
  t51 := Try.underlying76
  a51 := Try.isAgg76
  z51 := Try.sizeOf76
  v51 := Try.zeroValue76
  t53 := Try.underlying78
  a53 := Try.isAgg78
  z53 := Try.sizeOf78
  v53 := Try.zeroValue78
  t131 := Try.underlying67
  a131 := Try.isAgg67
  z131 := Try.sizeOf67
  v131 := Try.zeroValue67
  t182 := Try.underlying70
  a182 := Try.isAgg70
  z182 := Try.sizeOf70
  v182 := Try.zeroValue70
  t183 := Try.underlying71
  a183 := Try.isAgg71
  z183 := Try.sizeOf71
  v183 := Try.zeroValue71
  t218 := Try.underlying79
  a218 := Try.isAgg79
  z218 := Try.sizeOf79
  v218 := Try.zeroValue79
  t222 := Try.underlying83
  a222 := Try.isAgg83
  z222 := Try.sizeOf83
  v222 := Try.zeroValue83
  t228 := Try.underlying85
  a228 := Try.isAgg85
  z228 := Try.sizeOf85
  v228 := Try.zeroValue85
  t229 := Try.underlying86
  a229 := Try.isAgg86
  z229 := Try.sizeOf86
  v229 := Try.zeroValue86 }
open Go.Sort Go.RowKit in
theorem Try.slices_Sort_int (blk off cap : Nat) (zs : List Int) (w : World) (hH : Holds (Value.int .i64) w blk off zs.toArray) (hblk : blk < w.heap.size) (hsz : zs.length < 4611686018427387904) :
    Calls Try.prog 51 #[.slice (some ⟨blk, off, none⟩) zs.length cap] w fun e w' =>
      e = .returned (.tuple #[]) ∧ ∃ n os, w' = grow (putRow (Value.int .i64) (Sort.ahead w n) blk off (zs.mergeSort fun x y => decide (x ≤ y)).toArray) os := Any.slices_Sort_int Try.lays189 blk off cap zs w hH hblk hsz
def Try.laysNm215_ren : Go.Shelf.Ren := ⟨fun | 15 => 46 | n => n, fun | 22 => 22 | 3 => 3 | 4 => 4 | n => n, fun | n => n⟩
theorem Try.laysNm215 : Go.Proofs.Lays2.n15 Try.prog Try.laysNm215_ren := {
  mixed := by kernel_rfl
  f15 := Try.func46.trans (congrArg some (by kernel_rfl))
  t3 := Try.underlying3
  a3 := Try.isAgg3
  z3 := Try.sizeOf3
  v3 := Try.zeroValue3
  t4 := Try.underlying4
  a4 := Try.isAgg4
  z4 := Try.sizeOf4
  v4 := Try.zeroValue4
  t22 := Try.underlying22
  a22 := Try.isAgg22
  z22 := Try.sizeOf22
  v22 := Try.zeroValue22
  i3 := by kernel_rfl }
open Go.RowKit Go.Lib in
theorem Try.slices_Clone_int (b off n c : Nat) (zs : List Int) (w : World) (hz : n ≤ zs.length) (hbig : n * 8 ≤ 140737488355328) (hc : ∀ j, j < zs.length → w.cell? ⟨b, off + j, none⟩ = some (.int .i64 (zs.getD j 0))) :
    Calls Try.prog 46 #[.slice (some ⟨b, off, none⟩) n c] w fun e w' => ∃ v', e = .returned v' ∧ w'.ownsRow w.heap.size 3 1 v' n ((zs.take n).map (Value.int .i64)) ∧ v' ≠ .slice none 0 0 ∧ Below w.heap.size w w' := Any.slices_Clone_int Try.laysNm215 b off n c zs w hz hbig hc
open Go.RowKit Go.Lib in
theorem Try.slices_Clone_int_nil (n c : Nat) (w : World) :
    Calls Try.prog 46 #[.slice none n c] w fun e w' => e = .returned (.slice none 0 0) ∧ w' = w := Any.slices_Clone_int_nil Try.laysNm215 n c w
open Go.RowKit Go.Lib in
theorem Try.slices_Clone_int_zero (a : Addr) (c : Nat) (w : World) :
    Calls Try.prog 46 #[.slice (some a) 0 c] w fun e w' => ∃ v', e = .returned v' ∧ w'.ownsRow w.heap.size 3 1 v' 0 [] ∧ v' ≠ .slice none 0 0 ∧ Below w.heap.size w w' := Any.slices_Clone_int_zero Try.laysNm215 a c w
def Try.laysNm220_ren : Go.Shelf.Ren := ⟨fun | 20 => 52 | n => n, fun | 22 => 22 | 3 => 3 | 4 => 4 | 0 => 0 | n => n, fun | n => n⟩
theorem Try.laysNm220 : Go.Proofs.Lays2.n20 Try.prog Try.laysNm220_ren := {
  mixed := by kernel_rfl
  f20 := Try.func52.trans (congrArg some (by kernel_rfl))
  t0 := Try.underlying0
  a0 := Try.isAgg0
  z0 := Try.sizeOf0
  v0 := Try.zeroValue0
  t3 := Try.underlying3
  a3 := Try.isAgg3
  z3 := Try.sizeOf3
  v3 := Try.zeroValue3
  t4 := Try.underlying4
  a4 := Try.isAgg4
  z4 := Try.sizeOf4
  v4 := Try.zeroValue4
  t22 := Try.underlying22
  a22 := Try.isAgg22
  z22 := Try.sizeOf22
  v22 := Try.zeroValue22
  i3 := by kernel_rfl }
open Go.RowKit Go.Lib Go.Sort in
theorem Try.slices_Compact_int_arr (blk off cap : Nat) (d : Array Int) (w : World) (hH : Holds encI w blk off d) (hsz : d.size ≤ 9223372036854775807) (hcap : d.size ≤ cap) :
    Calls Try.prog 52 #[.slice (some ⟨blk, off, none⟩) d.size cap] w fun e w' => e = .returned (.slice (some ⟨blk, off, none⟩) (compactUpTo d d.size).length cap) ∧ ∃ q, w' = putRow encI (Sort.ahead w q) blk off (compactUpTo d d.size ++ List.replicate (d.size - (compactUpTo d d.size).length) 0).toArray := Any.slices_Compact_int_arr Try.laysNm220 blk off cap d w hH hsz hcap
open Go.RowKit Go.Lib Go.Sort in
theorem Try.slices_Compact_int (blk off cap : Nat) (zs : List Int) (w : World) (hH : Holds (Value.int .i64) w blk off zs.toArray) (hsz : zs.length ≤ 9223372036854775807) (hcap : zs.length ≤ cap) :
    Calls Try.prog 52 #[.slice (some ⟨blk, off, none⟩) zs.length cap] w fun e w' => e = .returned (.slice (some ⟨blk, off, none⟩) (Lib.compact zs).length cap) ∧ ∃ q, w' = putRow (Value.int .i64) (Sort.ahead w q) blk off (Lib.compact zs ++ List.replicate (zs.length - (Lib.compact zs).length) 0).toArray := Any.slices_Compact_int Try.laysNm220 blk off cap zs w hH hsz hcap
open Go.RowKit Go.Lib Go.Sort in
theorem Try.slices_Compact_int_empty (a : Option Addr) (cap : Nat) (w : World) :
    Calls Try.prog 52 #[.slice a 0 cap] w fun e w' => e = .returned (.slice a 0 cap) ∧ w' = w := Any.slices_Compact_int_empty Try.laysNm220 a cap w
open Go.RowKit Go.Sort in
theorem Try.slices_Sort_int_none (p : Option Addr) (cap : Nat) (w : World) :
    Calls Try.prog 51 #[.slice p 0 cap] w fun e w' => e = .returned (.tuple #[]) ∧ w' = w := Any.slices_Sort_int_none Try.lays189 p cap w
end Go.Proofs
