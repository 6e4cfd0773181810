
/-
  same.each.
-/
import Derived.Test.YtdcdhdlklppalaaPk40
import Derived.Test.YtdcdhdlklppalaaPk25
import Derived.Test.YtdcdhdlklppalaaPk18
import Derived.Deep.CutRange
import Derived.OwnWalk
namespace Go.Proofs.Ytdcdhdlklppalaa
open Go.RowKit
set_option linter.unusedVariables false

/-- what a search over orders leaves behind -/
def EachPost (U : World) (D : Nat → Prop) (I : Nat → Option Nat → List (List Nat) → World → Prop) (F : List (List Nat)) (e : Ending) (w' : World) : Prop :=
  e = .returned (.tuple #[]) ∧ ∃ v' : Off U.heap.size D U, w' = v'.val ∧ ∃ bp o, U.heap.size ≤ bp ∧ I bp o F v'.val
/-- two boxes, in which tables lie; all of it new -/
def TwoBoxB (Y : World) (n1 n2 : Nat) (f1 f2 : Nat → Int) (x y : Value) (w : World) : Prop :=
  ∃ (g1 g2 t1 t2 c1 c2 : Nat) (v : Later Y.heap.size Y), x = .pointer (some ⟨g1, 0, none⟩) ∧ y = .pointer (some ⟨g2, 0, none⟩) ∧ w = v.val ∧ RB 22 (.slice (some ⟨t1, 0, none⟩) n1 c1) v.val g1 ∧ RB 22 (.slice (some ⟨t2, 0, none⟩) n2 c2) v.val g2 ∧ ITab v.val t1 n1 f1 ∧ ITab v.val t2 n2 f2 ∧ Y.heap.size ≤ g1 ∧ Y.heap.size ≤ g2 ∧ Y.heap.size ≤ t1 ∧ Y.heap.size ≤ t2
theorem TwoBoxB.mk {Y w : World} {n1 n2 t1 t2 c1 c2 g1 g2 : Nat} {f1 f2 : Nat → Int} (k1 : Y.heap.size ≤ t1) (k2 : Y.heap.size ≤ t2) (k3 : Y.heap.size ≤ g1) (k4 : Y.heap.size ≤ g2) (h : Bel Y w) (h1 : RB 22 (.slice (some ⟨t1, 0, none⟩) n1 c1) w g1) (h2 : RB 22 (.slice (some ⟨t2, 0, none⟩) n2 c2) w g2) (i1 : ITab w t1 n1 f1) (i2 : ITab w t2 n2 f2) : TwoBoxB Y n1 n2 f1 f2 (.pointer (some ⟨g1, 0, none⟩)) (.pointer (some ⟨g2, 0, none⟩)) w := by
  obtain ⟨v, rfl⟩ := h.later
  exact ⟨g1, g2, t1, t2, c1, c2, v, rfl, rfl, rfl, h1, h2, i1, i2, k3, k4, k1, k2⟩
def madeE (w : World) (ba bd bb bx bz : Nat) : World := (w.alloc (.cells #[.slice none 0 0] 22)).alloc (.cells #[.func (.func 58) #[] #[.pointer (some ⟨w.heap.size, 0, none⟩), .pointer (some ⟨ba, 0, none⟩), .pointer (some ⟨bd, 0, none⟩), .pointer (some ⟨bb, 0, none⟩), .pointer (some ⟨bx, 0, none⟩), .pointer (some ⟨bz, 0, none⟩), .pointer (some ⟨w.heap.size + 1, 0, none⟩)]] 53)
theorem madeE_size (w : World) (ba bd bb bx bz : Nat) : (madeE w ba bd bb bx bz).heap.size = w.heap.size + 2 := by simp [madeE]
theorem madeE_below (w : World) (ba bd bb bx bz : Nat) : Below w.heap.size w (madeE w ba bd bb bx bz) := by
  unfold madeE
  refine Below.alloc (Below.alloc (Below.refl _ _) ?_ _) ?_ _ <;> simp
theorem madeE_cells (w : World) (ba bd bb bx bz : Nat) : RowAt1 (madeE w ba bd bb bx bz) w.heap.size 22 (.slice none 0 0) ∧ RowAt1 (madeE w ba bd bb bx bz) (w.heap.size + 1) 53 (.func (.func 58) #[] #[.pointer (some ⟨w.heap.size, 0, none⟩), .pointer (some ⟨ba, 0, none⟩), .pointer (some ⟨bd, 0, none⟩), .pointer (some ⟨bb, 0, none⟩), .pointer (some ⟨bx, 0, none⟩), .pointer (some ⟨bz, 0, none⟩), .pointer (some ⟨w.heap.size + 1, 0, none⟩)]) := by
  constructor
  · exact row1_under (heap_alloc_new w _) _
  · have h := heap_alloc_new (w.alloc (.cells #[.slice none 0 0] 22)) (.cells #[.func (.func 58) #[] #[.pointer (some ⟨w.heap.size, 0, none⟩), .pointer (some ⟨ba, 0, none⟩), .pointer (some ⟨bd, 0, none⟩), .pointer (some ⟨bb, 0, none⟩), .pointer (some ⟨bx, 0, none⟩), .pointer (some ⟨bz, 0, none⟩), .pointer (some ⟨w.heap.size + 1, 0, none⟩)]] 53)
    rw [show (w.alloc (.cells #[.slice none 0 0] 22)).heap.size = w.heap.size + 1 by simp] at h
    exact h

set_option maxRecDepth 100000 in
set_option maxHeartbeats 8000000 in
theorem c_each {B0 : Nat} {W0 : World} (u : Later B0 W0) (n : Nat) (hn : n ≤ 8) (l1 l2 : List Int) (a b : Option Addr) (cap capb : Nat) (h1 : IntsAt B0 W0 a l1) (h2 : IntsAt B0 W0 b l2) (hlen1 : l1.length ≤ 4611686018427387904) (hlen2 : l2.length ≤ 4611686018427387904) (he1 : MatIs (n : Int) l1 0) (he2 : MatIs (n : Int) l2 0)
    (D : Nat → Prop) (hD : ∀ k, D k → k < u.val.heap.size) (on : Bool) (kf : FuncId) (caps : Array Value) (I : Nat → Option Nat → List (List Nat) → World → Prop)
    (HDo : ∀ (bp : Nat) (W : World), u.val.heap.size ≤ bp → bp < W.heap.size → Below u.val.heap.size u.val W → DoOn W.heap.size bp W D n on kf caps (I bp))
    (HI0 : ∀ (bp : Nat) (w : World), u.val.heap.size ≤ bp → Below u.val.heap.size u.val w → I bp none [] w) :
    Calls Try.prog 36 #[.agg #[.int .i64 n, .slice a l1.length cap], .agg #[.int .i64 n, .slice b l2.length capb], .func (.func kf) #[] caps] u.val (EachPost u.val D I (cutF on (ords n (toN l1) (toN l2)))) := by
  have hbn := bit_le n hn
  have e1 : (u.val.alloc (.cells #[.int .i64 n, .slice a l1.length cap] 24)).heap.size = u.val.heap.size + 1 := by simp
  have e2 : ((u.val.alloc (.cells #[.int .i64 n, .slice a l1.length cap] 24)).alloc (.cells #[.int .i64 n, .slice b l2.length capb] 24)).heap.size = u.val.heap.size + 2 := by simp
  have X1 : Hid (RowL (((u.val.alloc (.cells #[.int .i64 n, .slice a l1.length cap] 24)).alloc (.cells #[.int .i64 n, .slice b l2.length capb] 24)).alloc (.cells #[.func (.func kf) #[] caps] 51)) u.val.heap.size 24 [.int .i64 n, .slice a l1.length cap]) := Lib.hid (((RowL.new u.val 24 _).keep ((Below.refl _ _).alloc (Nat.le_refl _) _)).keep ((Below.refl _ _).alloc (Nat.le_refl _) _))
  have X2 : Hid (RowL (((u.val.alloc (.cells #[.int .i64 n, .slice a l1.length cap] 24)).alloc (.cells #[.int .i64 n, .slice b l2.length capb] 24)).alloc (.cells #[.func (.func kf) #[] caps] 51)) (u.val.heap.size + 1) 24 [.int .i64 n, .slice b l2.length capb]) := Lib.hid (by
    have h := (RowL.new (u.val.alloc (.cells #[.int .i64 n, .slice a l1.length cap] 24)) 24 [.int .i64 n, .slice b l2.length capb]).keep ((Below.refl _ _).alloc (Nat.le_refl _) (.cells #[.func (.func kf) #[] caps] 51))
    rwa [e1] at h)
  have X3 : Hid (RowAt1 (((u.val.alloc (.cells #[.int .i64 n, .slice a l1.length cap] 24)).alloc (.cells #[.int .i64 n, .slice b l2.length capb] 24)).alloc (.cells #[.func (.func kf) #[] caps] 51)) (u.val.heap.size + 2) 51 (.func (.func kf) #[] caps)) := Lib.hid (by
    have h := RowAt1.new ((u.val.alloc (.cells #[.int .i64 n, .slice a l1.length cap] 24)).alloc (.cells #[.int .i64 n, .slice b l2.length capb] 24)) 51 (.func (.func kf) #[] caps)
    rwa [e2] at h)
  have hY1 : Hid ((((u.val.alloc (.cells #[.int .i64 n, .slice a l1.length cap] 24)).alloc (.cells #[.int .i64 n, .slice b l2.length capb] 24)).alloc (.cells #[.func (.func kf) #[] caps] 51)).heap.size = u.val.heap.size + 3) := Lib.hid (by simp)
  have HBY : Hid (Below u.val.heap.size u.val (((u.val.alloc (.cells #[.int .i64 n, .slice a l1.length cap] 24)).alloc (.cells #[.int .i64 n, .slice b l2.length capb] 24)).alloc (.cells #[.func (.func kf) #[] caps] 51))) := Lib.hid ((((Below.refl _ _).alloc (Nat.le_refl _) _).alloc (by simp) _).alloc (by simp; omega) _)
  have HR1 : Hid (∀ w, Bel (((u.val.alloc (.cells #[.int .i64 n, .slice a l1.length cap] 24)).alloc (.cells #[.int .i64 n, .slice b l2.length capb] 24)).alloc (.cells #[.func (.func kf) #[] caps] 51)) w → Calls Try.prog 57 #[.agg #[.int .i64 n, .slice a l1.length cap]] w (RetP w.heap.size w (fun v w => ∃ g c, v = .slice (some ⟨g, 0, none⟩) (bit n) c ∧ ITab w g (bit n) (fun j => (rk (toN l1) j : Int)) ∧ (((u.val.alloc (.cells #[.int .i64 n, .slice a l1.length cap] 24)).alloc (.cells #[.int .i64 n, .slice b l2.length capb] 24)).alloc (.cells #[.func (.func kf) #[] caps] 51)).heap.size ≤ g))) := Lib.hid (fun w hw => (c_sameRanksB (Later.self w) n hn l1 a cap ((h1.to (((u.alloc _).alloc _).alloc _)).to ⟨w, hw.1, hw.2⟩) hlen1 he1).mono fun _ _ ⟨v, h1, ⟨g, c, h2, h3, h5⟩, h4⟩ => ⟨v, h1, ⟨g, c, h2, h3, Nat.le_trans hw.2 h5⟩, h4⟩)
  have HR2 : Hid (∀ w, Bel (((u.val.alloc (.cells #[.int .i64 n, .slice a l1.length cap] 24)).alloc (.cells #[.int .i64 n, .slice b l2.length capb] 24)).alloc (.cells #[.func (.func kf) #[] caps] 51)) w → Calls Try.prog 57 #[.agg #[.int .i64 n, .slice b l2.length capb]] w (RetP w.heap.size w (fun v w => ∃ g c, v = .slice (some ⟨g, 0, none⟩) (bit n) c ∧ ITab w g (bit n) (fun j => (rk (toN l2) j : Int)) ∧ (((u.val.alloc (.cells #[.int .i64 n, .slice a l1.length cap] 24)).alloc (.cells #[.int .i64 n, .slice b l2.length capb] 24)).alloc (.cells #[.func (.func kf) #[] caps] 51)).heap.size ≤ g))) := Lib.hid (fun w hw => (c_sameRanksB (Later.self w) n hn l2 b capb ((h2.to (((u.alloc _).alloc _).alloc _)).to ⟨w, hw.1, hw.2⟩) hlen2 he2).mono fun _ _ ⟨v, h1, ⟨g, c, h2, h3, h5⟩, h4⟩ => ⟨v, h1, ⟨g, c, h2, h3, Nat.le_trans hw.2 h5⟩, h4⟩)
  have HDn := Lib.hid HDo
  have HIn := Lib.hid HI0
  have HDl := Lib.hid hD
  have HOr : Hid (ords n (toN l1) (toN l2) = srch n (okF (rk (toN l1)) (rk (toN l2))) (fun _ => true) n []) := Lib.hid rfl
  clear e1 e2 h1 h2 he1 he2 HDo HI0 hD
  go_enter Try.func36, Try.ntmps36
  go_upto_region 1 with fail
  generalize (((u.val.alloc (.cells #[.int .i64 n, .slice a l1.length cap] 24)).alloc (.cells #[.int .i64 n, .slice b l2.length capb] 24)).alloc (.cells #[.func (.func kf) #[] caps] 51)) = Y at *
  generalize hU : u.val = U at *
  have HU := Lib.hid hU
  clear hU
  generalize hgu : U.heap.size = gu at *
  have Hgu := Lib.hid hgu
  clear hgu
  have x0 : ∀ w : Later Y.heap.size Y, w.val.cell? ⟨gu, 0, none⟩ = some (.int .i64 n) := fun w => (X1.out.keep w.below).cell rfl
  have x1 : ∀ w : Later Y.heap.size Y, w.val.cell? ⟨gu, 1, none⟩ = some (.slice a l1.length cap) := fun w => (X1.out.keep w.below).cell rfl
  have x2 : ∀ w : Later Y.heap.size Y, w.val.cell? ⟨gu + 1, 0, none⟩ = some (.int .i64 n) := fun w => (X2.out.keep w.below).cell rfl
  have x3 : ∀ w : Later Y.heap.size Y, w.val.cell? ⟨gu + 1, 1, none⟩ = some (.slice b l2.length capb) := fun w => (X2.out.keep w.below).cell rfl
  obtain ⟨z, hz⟩ : ∃ z : Later Y.heap.size Y, z.val = Y := ⟨Later.self _, rfl⟩
  go_cut [6, 7] from 10 to 13 (fun x y w => TwoBoxB Y (bit n) (bit n) (fun j => (rk (toN l1) j : Int)) (fun j => (rk (toN l2) j : Int)) x y w)
  case first => as_aux_lemma =>
    rw [← hz]
    clear hz
    have hbz : Bel Y z.val := Bel.of z
    have hz0 := z.size
    have rF : ∀ (w : World) (g : Nat), RB 22 (Value.slice none 0 0) w g → w.cell? ⟨g, 0, none⟩ = some (Value.slice none 0 0) := fun w g h => h.cell
    have rG : ∀ (w : World) (g : Nat), RB 22 (Value.slice none 0 0) w g → w.frozen? ⟨g, 0, none⟩ = false := fun w g h => h.fz
    have rA : ∀ (w : World) (g : Nat) (o : Obj), RB 22 (Value.slice none 0 0) w g → RB 22 (Value.slice none 0 0) (w.alloc o) g := fun w g o h => h.alloc o
    have rN : ∀ w : World, RB 22 (Value.slice none 0 0) (w.alloc (.cells #[(Value.slice none 0 0)] 22)) w.heap.size := fun w => RB.new _ _ _
    have rN2 : ∀ (w : World) (o : Obj), RB 22 (Value.slice none 0 0) ((w.alloc o).alloc (.cells #[(Value.slice none 0 0)] 22)) (w.heap.size + 1) := fun w o => RB.new2 _ _ _ _
    have rD : ∀ (w : World) (g : Nat), RB 22 (Value.slice none 0 0) w g → RB 22 (Value.slice none 0 0) w.drew g := fun w g h => h.drew
    have rU : ∀ (w : World) (g : Nat) (y : Later w.heap.size w), RB 22 (Value.slice none 0 0) w g → RB 22 (Value.slice none 0 0) y.val g := fun w g y h => h.up y
    have rFA : ∀ (w : World) (g : Nat) (o : Obj), RB 22 (Value.slice none 0 0) w g → (w.alloc o).cell? ⟨g, 0, none⟩ = some (Value.slice none 0 0) := fun w g o h => (h.alloc o).cell
    have rGA : ∀ (w : World) (g : Nat) (o : Obj), RB 22 (Value.slice none 0 0) w g → (w.alloc o).frozen? ⟨g, 0, none⟩ = false := fun w g o h => (h.alloc o).fz
    have rFS : ∀ (w : World) (g g' : Nat) (x : Value), RB 22 (Value.slice none 0 0) w g → g' ≠ g → (w.setCell ⟨g', 0, none⟩ x).cell? ⟨g, 0, none⟩ = some (Value.slice none 0 0) := fun w g g' x h hn => (h.set hn x).cell
    have rGS : ∀ (w : World) (g g' : Nat) (x : Value), RB 22 (Value.slice none 0 0) w g → g' ≠ g → (w.setCell ⟨g', 0, none⟩ x).frozen? ⟨g, 0, none⟩ = false := fun w g g' x h hn => (h.set hn x).fz
    have rS : ∀ (w : World) (g g' : Nat) (x : Value), RB 22 (Value.slice none 0 0) w g → g' ≠ g → RB 22 (Value.slice none 0 0) (w.setCell ⟨g', 0, none⟩ x) g := fun w g g' x h hn => h.set hn x
    have rE : ∀ (w : World) (g : Nat) (y : Later w.heap.size w), RB 22 (Value.slice none 0 0) w g → (g = y.val.heap.size) = False := fun w g y h => h.ne y
    have rE' : ∀ (w : World) (g : Nat) (y : Later w.heap.size w), RB 22 (Value.slice none 0 0) w g → (y.val.heap.size = g) = False := fun w g y h => h.ne' y
    have sa : ∀ w, Bel Y w → w.cell? ⟨gu, 0, none⟩ = some (.int .i64 n) ∧ w.cell? ⟨gu, 1, none⟩ = some (.slice a l1.length cap) ∧ w.cell? ⟨gu + 1, 0, none⟩ = some (.int .i64 n) ∧ w.cell? ⟨gu + 1, 1, none⟩ = some (.slice b l2.length capb) := fun w h => by
      obtain ⟨v, rfl⟩ := h.later
      exact ⟨x0 v, x1 v, x2 v, x3 v⟩
    go_region_held3 (fun w' => w'.cell? ⟨gu, 0, none⟩ = some (.int .i64 n) ∧ w'.cell? ⟨gu, 1, none⟩ = some (.slice a l1.length cap) ∧ w'.cell? ⟨gu + 1, 0, none⟩ = some (.int .i64 n) ∧ w'.cell? ⟨gu + 1, 1, none⟩ = some (.slice b l2.length capb)) (first | (refine sa _ ?_; (repeat (first | (with_reducible exact hbz) | (with_reducible refine Bel.up ?_ _) | (with_reducible refine Bel.alloc ?_ _) | (with_reducible refine Bel.drew ?_) | (with_reducible refine Bel.set ?_ (by first | omega | (dsimp only; omega) | (simp; omega)) _))); done) | fail) (first | (go_at_call 57; (with_reducible refine (HR1.out _ ?_).mono ?_); (repeat (first | (with_reducible exact hbz) | (with_reducible refine Bel.up ?_ _) | (with_reducible refine Bel.alloc ?_ _) | (with_reducible refine Bel.drew ?_) | (with_reducible refine Bel.set ?_ (by first | omega | (dsimp only; omega) | (simp; omega)) _))); rintro e _ ⟨_, rfl, ⟨t1, c1, rfl, hT1, hb1⟩, v1, rfl⟩; have hz1 := Bel.sz (Y := Y) (w := v1.val) (by (repeat (first | (with_reducible exact hbz) | (with_reducible refine Bel.up ?_ _) | (with_reducible refine Bel.alloc ?_ _) | (with_reducible refine Bel.drew ?_) | (with_reducible refine Bel.set ?_ (by first | omega | (dsimp only; omega) | (simp; omega)) _)))); have s1 := v1.size; try simp at s1; (first | (with_reducible have b0 : RB 22 (Value.slice none 0 0) v1.val z.val.heap.size := RB.up (RB.drew (RB.new _ _ _)) v1) | (with_reducible have b0 : RB 22 (Value.slice none 0 0) v1.val z.val.heap.size := RB.up (RB.drew (RB.alloc (RB.new _ _ _) _)) v1) | (with_reducible have b0 : RB 22 (Value.slice none 0 0) v1.val z.val.heap.size := RB.up (RB.new _ _ _) v1) | (with_reducible have b0 : RB 22 (Value.slice none 0 0) v1.val z.val.heap.size := RB.up (RB.alloc (RB.new _ _ _) _) v1) | skip); (first | (with_reducible have b1 : RB 22 (Value.slice none 0 0) v1.val (z.val.heap.size + 1) := RB.up (RB.drew (RB.new2 _ _ _ _)) v1) | (with_reducible have b1 : RB 22 (Value.slice none 0 0) v1.val (z.val.heap.size + 1) := RB.up (RB.new2 _ _ _ _) v1) | skip); try have n0 : z.val.heap.size ≠ v1.val.heap.size := (by omega); try have n1 : v1.val.heap.size ≠ z.val.heap.size := (by omega)) | (go_at_call 57; (with_reducible refine (HR2.out _ ?_).mono ?_); (repeat (first | (with_reducible exact hbz) | (with_reducible refine Bel.up ?_ _) | (with_reducible refine Bel.alloc ?_ _) | (with_reducible refine Bel.drew ?_) | (with_reducible refine Bel.set ?_ (by first | omega | (dsimp only; omega) | (simp; omega)) _))); rintro e _ ⟨_, rfl, ⟨t2, c2, rfl, hT2, hb2⟩, v2, rfl⟩; have hz2 := Bel.sz (Y := Y) (w := v2.val) (by (repeat (first | (with_reducible exact hbz) | (with_reducible refine Bel.up ?_ _) | (with_reducible refine Bel.alloc ?_ _) | (with_reducible refine Bel.drew ?_) | (with_reducible refine Bel.set ?_ (by first | omega | (dsimp only; omega) | (simp; omega)) _)))); have s2 := v2.size; try simp at s2; (first | (with_reducible have b2 : RB 22 (Value.slice none 0 0) v2.val z.val.heap.size := RB.up b0 v2) | (with_reducible have b2 : RB 22 (Value.slice none 0 0) v2.val z.val.heap.size := RB.up (RB.alloc b0 _) v2) | skip); (first | (with_reducible have b3 : RB 22 (Value.slice none 0 0) v2.val (z.val.heap.size + 1) := RB.up b1 v2) | skip); (first | (with_reducible have b4 : RB 22 (Value.slice none 0 0) v2.val v1.val.heap.size := RB.up (RB.new _ _ _) v2) | (with_reducible have b4 : RB 22 (Value.slice none 0 0) v2.val v1.val.heap.size := RB.up (RB.alloc (RB.new _ _ _) _) v2) | skip); (first | (with_reducible have b5 : RB 22 (Value.slice none 0 0) v2.val (v1.val.heap.size + 1) := RB.up (RB.new2 _ _ _ _) v2) | skip); try have n2 : z.val.heap.size ≠ v2.val.heap.size := (by omega); try have n3 : v2.val.heap.size ≠ z.val.heap.size := (by omega); try have n4 : v1.val.heap.size ≠ v2.val.heap.size := (by omega); try have n5 : v2.val.heap.size ≠ v1.val.heap.size := (by omega)) | fail)
    all_goals
      go_wp2
      go_meet
      case rel =>
        refine TwoBoxB.mk (t1 := t1) (t2 := t2) (c1 := c1) (c2 := c2) hb1 hb2 (by first | omega | (dsimp only; omega) | (simp; omega)) (by first | omega | (dsimp only; omega) | (simp; omega)) ?_ ?_ ?_ ?_ ?_
        · (repeat (first | (with_reducible exact hbz) | (with_reducible refine Bel.up ?_ _) | (with_reducible refine Bel.alloc ?_ _) | (with_reducible refine Bel.drew ?_) | (with_reducible refine Bel.set ?_ (by first | omega | (dsimp only; omega) | (simp; omega)) _)))
        · (repeat (first | (with_reducible assumption) | (with_reducible exact RB.new _ _ _) | (with_reducible exact RB.new2 _ _ _ _) | (with_reducible refine RB.up ?_ _) | (with_reducible refine RB.alloc ?_ _) | (with_reducible refine RB.drew ?_) | (with_reducible refine RB.same (v := (Value.slice none 0 0)) ?_ _) | (with_reducible refine RB.set ?_ (by first | assumption | omega) _)))
        · (repeat (first | (with_reducible assumption) | (with_reducible exact RB.new _ _ _) | (with_reducible exact RB.new2 _ _ _ _) | (with_reducible refine RB.up ?_ _) | (with_reducible refine RB.alloc ?_ _) | (with_reducible refine RB.drew ?_) | (with_reducible refine RB.same (v := (Value.slice none 0 0)) ?_ _) | (with_reducible refine RB.set ?_ (by first | assumption | omega) _)))
        · (repeat (first | (with_reducible assumption) | (with_reducible refine ITab.upI ?_ _) | (with_reducible refine ITab.allocI ?_ _) | (with_reducible refine ITab.drewI ?_) | (with_reducible refine ITab.rbset (t := 22) ?_ (by omega) (by (repeat (first | (with_reducible assumption) | (with_reducible exact RB.new _ _ _) | (with_reducible exact RB.new2 _ _ _ _) | (with_reducible refine RB.up ?_ _) | (with_reducible refine RB.alloc ?_ _) | (with_reducible refine RB.drew ?_) | (with_reducible refine RB.same (v := (Value.slice none 0 0)) ?_ _) | (with_reducible refine RB.set ?_ (by first | assumption | omega) _)))))))
        · (repeat (first | (with_reducible assumption) | (with_reducible refine ITab.upI ?_ _) | (with_reducible refine ITab.allocI ?_ _) | (with_reducible refine ITab.drewI ?_) | (with_reducible refine ITab.rbset (t := 22) ?_ (by omega) (by (repeat (first | (with_reducible assumption) | (with_reducible exact RB.new _ _ _) | (with_reducible exact RB.new2 _ _ _ _) | (with_reducible refine RB.up ?_ _) | (with_reducible refine RB.alloc ?_ _) | (with_reducible refine RB.drew ?_) | (with_reducible refine RB.same (v := (Value.slice none 0 0)) ?_ _) | (with_reducible refine RB.set ?_ (by first | assumption | omega) _)))))))
  case rest => as_aux_lemma =>
    clear z hz HR1 HR2 x0 x1 x2 x3
    obtain ⟨g1, g2, t1, t2, c1, c2, v, rfl, rfl, rfl, hR1, hR2, hT1, hT2, hk1, hk2, hk3, hk4⟩ := hcut
    have HOff : Hid (∀ k, k < gu → k ≠ gu ∧ k ≠ gu + 1 ∧ k ≠ gu + 2 ∧ k ≠ g1 ∧ k ≠ g2 ∧ k ≠ v.val.heap.size + 1 ∧ k ≠ t1 ∧ k ≠ t2) := Lib.hid (fun k hk => by
      have := hY1.out
      have := v.size
      exact ⟨by omega, by omega, by omega, by omega, by omega, by omega, by omega, by omega⟩)
    clear hk1 hk2 hk3 hk4
    have hsf := fun (a : Addr) (c : Array Value) (w : World) => run_store Try.prog w a (.func (.func 58) #[] c) .plain rfl
    have hp1 : ∀ (args : Array Value) (w : World), (callFunc 58 args).run Try.prog w = .ok (.enter 58 args) w := fun _ _ => by kernel_rfl
    have HT1 := Lib.hid hT1
    have HT2 := Lib.hid hT2
    have HR1 := Lib.hid hR1
    have HR2 := Lib.hid hR2
    have hvs := Lib.hid v.size
    have hbl := Lib.hid v.below
    clear hT1 hT2 hR1 hR2
    generalize v.val = V at *
    clear v
    go_upto_region 5 with fail
    rw [show ((V.alloc (.cells #[.slice none 0 0] 22)).alloc (.cells #[.func (.func 58) #[] #[.pointer (some ⟨V.heap.size, 0, none⟩), .pointer (some ⟨gu, 0, none⟩), .pointer (some ⟨gu + 2, 0, none⟩), .pointer (some ⟨gu + 1, 0, none⟩), .pointer (some ⟨g1, 0, none⟩), .pointer (some ⟨g2, 0, none⟩), .pointer (some ⟨V.heap.size + 1, 0, none⟩)]] 53)) = madeE V gu (gu + 2) (gu + 1) g1 g2 from rfl]
    have C3 := Lib.hid (madeE_cells V gu (gu + 2) (gu + 1) g1 g2)
    have S3 := Lib.hid (madeE_size V gu (gu + 2) (gu + 1) g1 g2)
    have B3 := Lib.hid (madeE_below V gu (gu + 2) (gu + 1) g1 g2)
    have r2 := C3.out.2.c0
    have hgu3 := hY1.out
    have hvs2 := hvs.out
    have BM : Hid (Below gu U (madeE V gu (gu + 2) (gu + 1) g1 g2)) := Lib.hid ((HBY.out.trans (hbl.out.mono (by omega))).trans (B3.out.mono (by omega)))
    have K : Hid (Calls Try.prog 58 #[.int .i64 0, .pointer (some ⟨V.heap.size, 0, none⟩), .pointer (some ⟨gu, 0, none⟩), .pointer (some ⟨gu + 2, 0, none⟩), .pointer (some ⟨gu + 1, 0, none⟩), .pointer (some ⟨g1, 0, none⟩), .pointer (some ⟨g2, 0, none⟩), .pointer (some ⟨V.heap.size + 1, 0, none⟩)] (madeE V gu (gu + 2) (gu + 1) g1 g2) (FromPost (madeE V gu (gu + 2) (gu + 1) g1 g2).heap.size V.heap.size (madeE V gu (gu + 2) (gu + 1) g1 g2) D on (I V.heap.size) [] [] (srch n (okF (rk (toN l1)) (rk (toN l2))) (fun _ => true) n []))) := Lib.hid (by
      have hs3 := S3.out
      have hb3 := B3.out
      have hgl1 := HT1.out.lt
      have hgl2 := HT2.out.lt
      have hrl1 : g1 < V.heap.size := RowAt1.lt HR1.out
      have hrl2 : g2 < V.heap.size := RowAt1.lt HR2.out
      have hne : ∀ k, k = V.heap.size ∨ D k → k = V.heap.size ∨ k < gu := fun k hk => by
        rcases hk with h | h
        · exact .inl h
        · exact .inr (HDl.out k h)
      have hO := HOff.out
      have hT1 := HT1.out
      have hT2 := HT2.out
      have e1 : (madeE V gu (gu + 2) (gu + 1) g1 g2).cell? ⟨gu, 0, none⟩ = some (.int .i64 n) := ((X1.out.keep hbl.out).keep hb3).cell rfl
      have e2 : (madeE V gu (gu + 2) (gu + 1) g1 g2).cell? ⟨gu + 1, 0, none⟩ = some (.int .i64 n) := ((X2.out.keep hbl.out).keep hb3).cell rfl
      have e3 : (madeE V gu (gu + 2) (gu + 1) g1 g2).cell? ⟨gu + 2, 0, none⟩ = some (.func (.func kf) #[] caps) := RowAt1.c0 ((X3.out.keep hbl.out).keep hb3)
      have e4 := RowAt1.c0 (RowAt1.keep HR1.out hb3)
      have e5 := RowAt1.c0 (RowAt1.keep HR2.out hb3)
      refine c_eachFrom (madeE V gu (gu + 2) (gu + 1) g1 g2).heap.size V.heap.size (madeE V gu (gu + 2) (gu + 1) g1 g2) D n _ _ on kf caps (I V.heap.size) t1 t2 c1 c2 gu (gu + 1) (gu + 2) g1 g2 (V.heap.size + 1) ⟨hn, Nat.le_refl _, by omega, e1, e2, e3, e4, e5, r2, hT1.keep hb3, hT2.keep hb3, by omega, fun k hk => ?_⟩ (HDn.out V.heap.size _ (by omega) (by omega) BM.out) n [] 0 [] none 0 (Off.self _ _ (Nat.le_refl _)) (Pre.nil n) (by simp) (by omega) (fun k _ => by simp) (fun _ => rfl) ⟨C3.out.1, Own.nil _ _⟩ (HIn.out V.heap.size _ (by omega) BM.out)
      rcases hne k hk with h | h
      · subst h
        exact ⟨by omega, by omega, by omega, by omega, by omega, by omega, by omega, by omega⟩
      · obtain ⟨q1, q2, q3, q4, q5, q6, q7, q8⟩ := hO k h
        exact ⟨q1, q2, q3, q4, q5, q6, q7, q8⟩)
    have HFin : Hid (∀ (v' : Off (madeE V gu (gu + 2) (gu + 1) g1 g2).heap.size (fun k => k = V.heap.size ∨ D k) (madeE V gu (gu + 2) (gu + 1) g1 g2)) (o : Option Nat), I V.heap.size o ([] ++ cutF on (srch n (okF (rk (toN l1)) (rk (toN l2))) (fun _ => true) n [])) v'.val → EachPost U D I (cutF on (ords n (toN l1) (toN l2))) (.returned (.tuple #[])) v'.val) := Lib.hid (fun v' o h => by
      have hg := Hgu.out
      have hs3 := S3.out
      have hbm := BM.out
      refine ⟨rfl, ⟨v'.val, v'.os.trans hbm.os, v'.tape.trans hbm.tape, v'.output.trans hbm.output, Nat.le_trans hbm.size v'.size, by have := v'.size; have := hbm.size; omega, fun k hk hn => ?_⟩, rfl, V.heap.size, o, by omega, ?_⟩
      · rw [v'.block k (by omega) (fun c => by
          rcases c with c | c
          · omega
          · exact hn c)]
        exact hbm.block k (by omega)
      · rw [HOr.out]
        rwa [List.nil_append] at h)
    clear HOr HDn HIn HDl X1 X2 X3 hY1 HBY hvs hbl HR1 HR2 HT1 HT2 C3 S3 B3 BM HOff hgu3 hvs2 Hgu HU
    generalize madeE V gu (gu + 2) (gu + 1) g1 g2 = M at *
    go_wp2_with (first | (go_at_call 58; (with_reducible refine (K.out).mono ?_); rintro e _ ⟨v', rfl, rfl, ad, cp, hP, hI⟩) | fail)
    go_end0
    exact HFin.out v' (ownBlk ad) hI
end Go.Proofs.Ytdcdhdlklppalaa
