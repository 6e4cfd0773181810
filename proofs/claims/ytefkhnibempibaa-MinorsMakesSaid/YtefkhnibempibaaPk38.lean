
/-
  minors.Sum.
  minors.Sum of two matroids.
-/
import Derived.Test.YtefkhnibempibaaPk34
import Derived.Test.YtefkhnibempibaaPk18
namespace Go.Proofs.Ytefkhnibempibaa
open Go.RowKit
set_option linter.unusedVariables false

/-- the answer of the check -/
noncomputable def mtE (n : Int) (l : List Int) : Int := Classical.choose (MatIs.ex n l)
theorem mtE_is (n : Int) (l : List Int) : MatIs n l (mtE n l) := Classical.choose_spec (MatIs.ex n l)
theorem mtE_eq {n : Int} {l : List Int} {e : Int} (h : MatIs n l e) : mtE n l = e := by
  have h2 := mtE_is n l
  by_cases c : okM n l
  · by_cases d : Exch (toN l)
    · rw [h.2.2 c d, h2.2.2 c d]
    · rw [h.2.1 c d, h2.2.1 c d]
  · rw [h.1 c, h2.1 c]

set_option maxRecDepth 100000 in
set_option maxHeartbeats 8000000 in
theorem c_minSum_no {B : Nat} {W : World} (u : Later B W) (n1 n2 : Int) (l1 l2 : List Int) (a b : Option Addr) (cap capb : Nat) (e1 e2 er : Int) (h1 : IntsAt B W a l1) (h2 : IntsAt B W b l2) (hlen1 : l1.length ≤ 4611686018427387904) (hlen2 : l2.length ≤ 4611686018427387904) (he1 : MatIs n1 l1 e1) (he2 : MatIs n2 l2 e2) (hc : (e1 ≠ 0 ∧ er = e1) ∨ (e1 = 0 ∧ e2 ≠ 0 ∧ er = e2) ∨ (e1 = 0 ∧ e2 = 0 ∧ 0 ≤ n1 ∧ n1 ≤ 8 ∧ 0 ≤ n2 ∧ n2 ≤ 8 ∧ 8 < n1 + n2 ∧ er = 2)) :
    Calls Try.prog 17 #[.agg #[.int .i64 n1, .slice a l1.length cap], .agg #[.int .i64 n2, .slice b l2.length capb]] u.val (RetP B W (MatTO B 0 [] er)) := by
  have hB := u.size
  have hs1 : (u.val.alloc (.cells #[.int .i64 n1, .slice a l1.length cap] 24)).heap.size = u.val.heap.size + 1 := by simp
  have hs2 : ((u.val.alloc (.cells #[.int .i64 n1, .slice a l1.length cap] 24)).alloc (.cells #[.int .i64 n2, .slice b l2.length capb] 24)).heap.size = u.val.heap.size + 2 := by simp
  have HA : Hid (RowL (((u.val.alloc (.cells #[.int .i64 n1, .slice a l1.length cap] 24)).alloc (.cells #[.int .i64 n2, .slice b l2.length capb] 24)).alloc (.cells #[.int .i64 0, .slice none 0 0] 24)) u.val.heap.size 24 [.int .i64 n1, .slice a l1.length cap]) := Lib.hid (((RowL.new _ _ _).keep ((Below.refl _ _).alloc (Nat.le_refl _) _)).keep ((Below.refl _ _).alloc (Nat.le_refl _) _))
  have HB2 : Hid (RowL (((u.val.alloc (.cells #[.int .i64 n1, .slice a l1.length cap] 24)).alloc (.cells #[.int .i64 n2, .slice b l2.length capb] 24)).alloc (.cells #[.int .i64 0, .slice none 0 0] 24)) (u.val.heap.size + 1) 24 [.int .i64 n2, .slice b l2.length capb]) := Lib.hid (by
    have := RowL.new (u.val.alloc (.cells #[.int .i64 n1, .slice a l1.length cap] 24)) 24 [.int .i64 n2, .slice b l2.length capb]
    rw [hs1] at this
    exact this.keep ((Below.refl _ _).alloc (Nat.le_refl _) _))
  have HX : Hid (RowL (((u.val.alloc (.cells #[.int .i64 n1, .slice a l1.length cap] 24)).alloc (.cells #[.int .i64 n2, .slice b l2.length capb] 24)).alloc (.cells #[.int .i64 0, .slice none 0 0] 24)) (u.val.heap.size + 2) 24 [.int .i64 0, .slice none 0 0]) := Lib.hid (by
    have := RowL.new ((u.val.alloc (.cells #[.int .i64 n1, .slice a l1.length cap] 24)).alloc (.cells #[.int .i64 n2, .slice b l2.length capb] 24)) 24 [.int .i64 0, .slice none 0 0]
    rwa [hs2] at this)
  have HVY : Hid (∀ v : Later (((u.val.alloc (.cells #[.int .i64 n1, .slice a l1.length cap] 24)).alloc (.cells #[.int .i64 n2, .slice b l2.length capb] 24)).alloc (.cells #[.int .i64 0, .slice none 0 0] 24)).heap.size (((u.val.alloc (.cells #[.int .i64 n1, .slice a l1.length cap] 24)).alloc (.cells #[.int .i64 n2, .slice b l2.length capb] 24)).alloc (.cells #[.int .i64 0, .slice none 0 0] 24)), ∃ w : Later B W, w.val = v.val) := Lib.hid (fun v => ⟨(((u.alloc _).alloc _).alloc _).up v, rfl⟩)
  have KC := Lib.hid (fun (v : Later (((u.val.alloc (.cells #[.int .i64 n1, .slice a l1.length cap] 24)).alloc (.cells #[.int .i64 n2, .slice b l2.length capb] 24)).alloc (.cells #[.int .i64 0, .slice none 0 0] 24)).heap.size (((u.val.alloc (.cells #[.int .i64 n1, .slice a l1.length cap] 24)).alloc (.cells #[.int .i64 n2, .slice b l2.length capb] 24)).alloc (.cells #[.int .i64 0, .slice none 0 0] 24))) (n' : Int) (l' : List Int) (a' : Option Addr) (c' : Nat) (h' : IntsAt (((u.val.alloc (.cells #[.int .i64 n1, .slice a l1.length cap] 24)).alloc (.cells #[.int .i64 n2, .slice b l2.length capb] 24)).alloc (.cells #[.int .i64 0, .slice none 0 0] 24)).heap.size (((u.val.alloc (.cells #[.int .i64 n1, .slice a l1.length cap] 24)).alloc (.cells #[.int .i64 n2, .slice b l2.length capb] 24)).alloc (.cells #[.int .i64 0, .slice none 0 0] 24)) a' l') (hl : l'.length ≤ 4611686018427387904) => c_axCheck v n' l' a' c' (mtE n' l') h' hl (mtE_is n' l'))
  have I1 : Hid (IntsAt (((u.val.alloc (.cells #[.int .i64 n1, .slice a l1.length cap] 24)).alloc (.cells #[.int .i64 n2, .slice b l2.length capb] 24)).alloc (.cells #[.int .i64 0, .slice none 0 0] 24)).heap.size (((u.val.alloc (.cells #[.int .i64 n1, .slice a l1.length cap] 24)).alloc (.cells #[.int .i64 n2, .slice b l2.length capb] 24)).alloc (.cells #[.int .i64 0, .slice none 0 0] 24)) a l1) := Lib.hid (h1.to (((u.alloc _).alloc _).alloc _))
  have I2 : Hid (IntsAt (((u.val.alloc (.cells #[.int .i64 n1, .slice a l1.length cap] 24)).alloc (.cells #[.int .i64 n2, .slice b l2.length capb] 24)).alloc (.cells #[.int .i64 0, .slice none 0 0] 24)).heap.size (((u.val.alloc (.cells #[.int .i64 n1, .slice a l1.length cap] 24)).alloc (.cells #[.int .i64 n2, .slice b l2.length capb] 24)).alloc (.cells #[.int .i64 0, .slice none 0 0] 24)) b l2) := Lib.hid (h2.to (((u.alloc _).alloc _).alloc _))
  have E1 := mtE_eq he1
  have E2 := mtE_eq he2
  have HC := Lib.hid hc
  clear h1 h2 he1 he2 hs1 hs2 hc
  go_enter Try.func17, Try.ntmps17
  go_upto_region 1 with fail
  generalize (((u.val.alloc (.cells #[.int .i64 n1, .slice a l1.length cap] 24)).alloc (.cells #[.int .i64 n2, .slice b l2.length capb] 24)).alloc (.cells #[.int .i64 0, .slice none 0 0] 24)) = Y at *
  generalize u.val.heap.size = g at *
  have hgr : g + 2 < Y.heap.size := HX.out.lt
  have hBg : B ≤ g + 2 := by omega
  obtain ⟨y, hy⟩ : ∃ y : Later Y.heap.size Y, y.val = Y := ⟨Later.self _, rfl⟩
  have q0 : ∀ w : Later Y.heap.size Y, w.val.cell? ⟨g, 0, none⟩ = some (.int .i64 n1) := fun w => (HA.out.keep w.below).cell rfl
  have q1 : ∀ w : Later Y.heap.size Y, w.val.cell? ⟨g, 1, none⟩ = some (.slice a l1.length cap) := fun w => (HA.out.keep w.below).cell rfl
  have q2 : ∀ w : Later Y.heap.size Y, w.val.cell? ⟨g + 1, 0, none⟩ = some (.int .i64 n2) := fun w => (HB2.out.keep w.below).cell rfl
  have q3 : ∀ w : Later Y.heap.size Y, w.val.cell? ⟨g + 1, 1, none⟩ = some (.slice b l2.length capb) := fun w => (HB2.out.keep w.below).cell rfl
  have f0 : ∀ (w : Later Y.heap.size Y), w.val.cell? ⟨g + 2, 0, none⟩ = some (.int .i64 0) := fun w => (HX.out.keep_at w.below hgr).cell rfl
  have z0 : ∀ (w : Later Y.heap.size Y), w.val.frozen? ⟨g + 2, 0, none⟩ = false := fun w => (HX.out.keep_at w.below hgr).fz 0
  have f1 : ∀ (w : Later Y.heap.size Y) (x0 : Value), (w.val.setCell ⟨g + 2, 0, none⟩ x0).cell? ⟨g + 2, 1, none⟩ = some (.slice none 0 0) := fun w x0 => ((HX.out.keep_at w.below hgr).set 0 x0).cell rfl
  have z1 : ∀ (w : Later Y.heap.size Y) (x0 : Value), (w.val.setCell ⟨g + 2, 0, none⟩ x0).frozen? ⟨g + 2, 1, none⟩ = false := fun w x0 => ((HX.out.keep_at w.below hgr).set 0 x0).fz 1
  rw [← hy]
  clear hy
  refine wp_region_later y (by kernel_rfl) (by kernel_rfl) (fun _ => ?_)
  repeat (first | go_big_quiet_step ((go_at_call 44; exact KC.out _ _ _ _ _ (by first | exact I1.out | exact I2.out) (by first | exact hlen1 | exact hlen2))) | (refine wpQuiet_step (fun K hK => ?_); go_simp; refine ⟨_, fun _ => rfl, ?_⟩; refine hK _ ?_; clear hK K))
  refine wpQuiet_nil ?_
  intro y
  have HF : Hid (RetP B W (MatTO B 0 [] er) (.returned (.tuple #[.agg #[.int .i64 0, .slice none 0 0], .int .i64 er])) ((y.val.setCell ⟨g + 2, 0, none⟩ (.int .i64 0)).setCell ⟨g + 2, 1, none⟩ (.slice none 0 0))) := Lib.hid (by
    obtain ⟨y1, hy1⟩ := later_set (HVY.out y) (g := g + 2) (i := 0) hBg (.int .i64 0)
    obtain ⟨y2, hy2⟩ := later_set ⟨y1, hy1⟩ (g := g + 2) (i := 1) hBg (.slice none 0 0)
    exact RetP.of ⟨y2, hy2⟩ MatTO.no)
  have HRow : Hid (RowL ((y.val.setCell ⟨g + 2, 0, none⟩ (.int .i64 0)).setCell ⟨g + 2, 1, none⟩ (.slice none 0 0)) (g + 2) 24 [.int .i64 0, .slice none 0 0]) := Lib.hid (((HX.out.keep y.below).set 0 _).set 1 _)
  have q0y := q0 y
  have q2y := q2 y
  have f0y := f0 y
  have z0y := z0 y
  have f1y := f1 y
  have z1y := z1 y
  rcases HC.out with ⟨g1, rfl⟩ | ⟨rfl, g1, rfl⟩ | ⟨rfl, rfl, g1, g2, g3, g4, g5, rfl⟩
  · have d0 : (er != 0) = true := by rw [bne_iff_ne]; exact g1
    clear HC
    go_wp2
    refine bodyPost_ret (results_row (vs := [.int .i64 0, .slice none 0 0]) rfl _ _ (g + 2) rfl HRow.out Try.underlying24 (by kernel_rfl)) rfl ?_
    rw [E1]
    exact HF.out
  · have d0 : (er != 0) = true := by rw [bne_iff_ne]; exact g1
    clear HC
    go_wp2
    refine bodyPost_ret (results_row (vs := [.int .i64 0, .slice none 0 0]) rfl _ _ (g + 2) rfl HRow.out Try.underlying24 (by kernel_rfl)) rfl ?_
    rw [E2]
    exact HF.out
  · have w1 := IntWalk.i64_in (n1 + n2) (by omega)
    have d0 : decide (8 < n1 + n2) = true := decide_eq_true g5
    clear HC
    go_wp2
    refine bodyPost_ret (results_row (vs := [.int .i64 0, .slice none 0 0]) rfl _ _ (g + 2) rfl HRow.out Try.underlying24 (by kernel_rfl)) rfl ?_
    exact HF.out

end Go.Proofs.Ytefkhnibempibaa

namespace Go.Proofs.Ytefkhnibempibaa
open Go.RowKit
set_option linter.unusedVariables false


theorem w64_in (n : Int) (h : -9223372036854775808 ≤ n ∧ n ≤ 9223372036854775807) : wrap64 n = n := by have := IntWalk.i64_in n h; rw [IntKind.wrap_i64] at this; unfold wrap64; omega
theorem sumL_nil (m : Nat) (L2 : List Nat) : sumL m [] L2 = [] := rfl
theorem sumL_step (m : Nat) (L1 L2 : List Nat) {k : Nat} (hk : k < L1.length) : sumL m (L1.take (k + 1)) L2 = sumL m (L1.take k) L2 ++ L2.map (fun y => L1.getD k 0 ||| y * bit m) := by
  unfold sumL
  rw [List.take_add_one, List.getElem?_eq_getElem hk, List.flatMap_append]
  have : L1.getD k 0 = L1[k] := by simp [hk]
  rw [this]
  simp
theorem sumL_len (m : Nat) (L1 L2 : List Nat) : (sumL m L1 L2).length = L1.length * L2.length := by
  induction L1 with
  | nil => simp [sumL]
  | cons x xs ih =>
    have e : sumL m (x :: xs) L2 = L2.map (fun y => x ||| y * bit m) ++ sumL m xs L2 := rfl
    rw [e, List.length_append, List.length_map, ih, List.length_cons, Nat.add_mul, Nat.one_mul, Nat.add_comm]
theorem sumL_lt {m k : Nat} {L1 L2 : List Nat} (h1 : ∀ x, x ∈ L1 → x < bit m) (h2 : ∀ x, x ∈ L2 → x < bit k) : ∀ s, s ∈ sumL m L1 L2 → s < bit (m + k) := fun s hs => by
  obtain ⟨x, hx, h⟩ := List.mem_flatMap.1 hs
  obtain ⟨y, hy, rfl⟩ := List.mem_map.1 h
  exact or_lt_add (h1 x hx) (h2 y hy)

set_option maxRecDepth 100000 in
set_option maxHeartbeats 16000000 in
theorem c_minSum {B : Nat} {W : World} (u : Later B W) (m k : Nat) (hmk : m + k ≤ 8) (L1 L2 : List Nat) (ht1 : ∀ x, x ∈ L1 → x < bit m) (ht2 : ∀ x, x ∈ L2 → x < bit k) (hL1 : L1.length ≤ 1024) (hL2 : L2.length ≤ 1024) (a b : Option Addr) (cap capb : Nat) (h1 : IntsAt B W a (ints L1)) (h2 : IntsAt B W b (ints L2)) (he1 : MatIs (m : Int) (ints L1) 0) (he2 : MatIs (k : Int) (ints L2) 0) :
    Calls Try.prog 17 #[.agg #[.int .i64 m, .slice a (ints L1).length cap], .agg #[.int .i64 k, .slice b (ints L2).length capb]] u.val (RetP B W (MatTO B ((m + k : Nat) : Int) (ints (those (m + k) (memB (sumL m L1 L2)))) 0)) := by
  have hB := u.size
  have hb := bit_le (m + k) hmk
  have hbm := bit_le m (by omega)
  have hbk := bit_le k (by omega)
  have hlen1 : (ints L1).length ≤ 4611686018427387904 := by rw [ints_len]; omega
  have hlen2 : (ints L2).length ≤ 4611686018427387904 := by rw [ints_len]; omega
  have hs1 : (u.val.alloc (.cells #[.int .i64 m, .slice a (ints L1).length cap] 24)).heap.size = u.val.heap.size + 1 := by simp
  have hs2 : ((u.val.alloc (.cells #[.int .i64 m, .slice a (ints L1).length cap] 24)).alloc (.cells #[.int .i64 k, .slice b (ints L2).length capb] 24)).heap.size = u.val.heap.size + 2 := by simp
  have HA : Hid (RowL (((u.val.alloc (.cells #[.int .i64 m, .slice a (ints L1).length cap] 24)).alloc (.cells #[.int .i64 k, .slice b (ints L2).length capb] 24)).alloc (.cells #[.int .i64 0, .slice none 0 0] 24)) u.val.heap.size 24 [.int .i64 m, .slice a (ints L1).length cap]) := Lib.hid (((RowL.new _ _ _).keep ((Below.refl _ _).alloc (Nat.le_refl _) _)).keep ((Below.refl _ _).alloc (Nat.le_refl _) _))
  have HB2 : Hid (RowL (((u.val.alloc (.cells #[.int .i64 m, .slice a (ints L1).length cap] 24)).alloc (.cells #[.int .i64 k, .slice b (ints L2).length capb] 24)).alloc (.cells #[.int .i64 0, .slice none 0 0] 24)) (u.val.heap.size + 1) 24 [.int .i64 k, .slice b (ints L2).length capb]) := Lib.hid (by
    have := RowL.new (u.val.alloc (.cells #[.int .i64 m, .slice a (ints L1).length cap] 24)) 24 [.int .i64 k, .slice b (ints L2).length capb]
    rw [hs1] at this
    exact this.keep ((Below.refl _ _).alloc (Nat.le_refl _) _))
  have HX : Hid (RowL (((u.val.alloc (.cells #[.int .i64 m, .slice a (ints L1).length cap] 24)).alloc (.cells #[.int .i64 k, .slice b (ints L2).length capb] 24)).alloc (.cells #[.int .i64 0, .slice none 0 0] 24)) (u.val.heap.size + 2) 24 [.int .i64 0, .slice none 0 0]) := Lib.hid (by
    have := RowL.new ((u.val.alloc (.cells #[.int .i64 m, .slice a (ints L1).length cap] 24)).alloc (.cells #[.int .i64 k, .slice b (ints L2).length capb] 24)) 24 [.int .i64 0, .slice none 0 0]
    rwa [hs2] at this)
  have HVY : Hid (∀ v : Later (((u.val.alloc (.cells #[.int .i64 m, .slice a (ints L1).length cap] 24)).alloc (.cells #[.int .i64 k, .slice b (ints L2).length capb] 24)).alloc (.cells #[.int .i64 0, .slice none 0 0] 24)).heap.size (((u.val.alloc (.cells #[.int .i64 m, .slice a (ints L1).length cap] 24)).alloc (.cells #[.int .i64 k, .slice b (ints L2).length capb] 24)).alloc (.cells #[.int .i64 0, .slice none 0 0] 24)), ∃ w : Later B W, w.val = v.val) := Lib.hid (fun v => ⟨(((u.alloc _).alloc _).alloc _).up v, rfl⟩)
  have KC := Lib.hid (fun (v : Later (((u.val.alloc (.cells #[.int .i64 m, .slice a (ints L1).length cap] 24)).alloc (.cells #[.int .i64 k, .slice b (ints L2).length capb] 24)).alloc (.cells #[.int .i64 0, .slice none 0 0] 24)).heap.size (((u.val.alloc (.cells #[.int .i64 m, .slice a (ints L1).length cap] 24)).alloc (.cells #[.int .i64 k, .slice b (ints L2).length capb] 24)).alloc (.cells #[.int .i64 0, .slice none 0 0] 24))) (n' : Int) (l' : List Int) (a' : Option Addr) (c' : Nat) (h' : IntsAt (((u.val.alloc (.cells #[.int .i64 m, .slice a (ints L1).length cap] 24)).alloc (.cells #[.int .i64 k, .slice b (ints L2).length capb] 24)).alloc (.cells #[.int .i64 0, .slice none 0 0] 24)).heap.size (((u.val.alloc (.cells #[.int .i64 m, .slice a (ints L1).length cap] 24)).alloc (.cells #[.int .i64 k, .slice b (ints L2).length capb] 24)).alloc (.cells #[.int .i64 0, .slice none 0 0] 24)) a' l') (hl : l'.length ≤ 4611686018427387904) (hh : MatIs n' l' 0) => c_axCheck v n' l' a' c' 0 h' hl hh)
  have I1 : Hid (IntsAt (((u.val.alloc (.cells #[.int .i64 m, .slice a (ints L1).length cap] 24)).alloc (.cells #[.int .i64 k, .slice b (ints L2).length capb] 24)).alloc (.cells #[.int .i64 0, .slice none 0 0] 24)).heap.size (((u.val.alloc (.cells #[.int .i64 m, .slice a (ints L1).length cap] 24)).alloc (.cells #[.int .i64 k, .slice b (ints L2).length capb] 24)).alloc (.cells #[.int .i64 0, .slice none 0 0] 24)) a (ints L1)) := Lib.hid (h1.to (((u.alloc _).alloc _).alloc _))
  have I2 : Hid (IntsAt (((u.val.alloc (.cells #[.int .i64 m, .slice a (ints L1).length cap] 24)).alloc (.cells #[.int .i64 k, .slice b (ints L2).length capb] 24)).alloc (.cells #[.int .i64 0, .slice none 0 0] 24)).heap.size (((u.val.alloc (.cells #[.int .i64 m, .slice a (ints L1).length cap] 24)).alloc (.cells #[.int .i64 k, .slice b (ints L2).length capb] 24)).alloc (.cells #[.int .i64 0, .slice none 0 0] 24)) b (ints L2)) := Lib.hid (h2.to (((u.alloc _).alloc _).alloc _))
  have HE1 := Lib.hid he1
  have HE2 := Lib.hid he2
  have HT1 : Hid (∀ i, i < L1.length → L1.getD i 0 < bit m) := Lib.hid (fun i hi => ht1 _ (by simp [hi]))
  have HT2 : Hid (∀ i, i < L2.length → L2.getD i 0 < bit k) := Lib.hid (fun i hi => ht2 _ (by simp [hi]))
  have HS : Hid (∀ s, s ∈ sumL m L1 L2 → s < bit (m + k)) := Lib.hid (sumL_lt ht1 ht2)
  clear h1 h2 he1 he2 hs1 hs2 ht1 ht2
  go_enter Try.func17, Try.ntmps17
  go_upto_region 1 with fail
  generalize (((u.val.alloc (.cells #[.int .i64 m, .slice a (ints L1).length cap] 24)).alloc (.cells #[.int .i64 k, .slice b (ints L2).length capb] 24)).alloc (.cells #[.int .i64 0, .slice none 0 0] 24)) = Y at *
  generalize u.val.heap.size = g at *
  have hgr : g + 2 < Y.heap.size := HX.out.lt
  have hBg : B ≤ g + 2 := by omega
  obtain ⟨y, hy⟩ : ∃ y : Later Y.heap.size Y, y.val = Y := ⟨Later.self _, rfl⟩
  have q0 : ∀ w : Later Y.heap.size Y, w.val.cell? ⟨g, 0, none⟩ = some (.int .i64 m) := fun w => (HA.out.keep w.below).cell rfl
  have q1 : ∀ w : Later Y.heap.size Y, w.val.cell? ⟨g, 1, none⟩ = some (.slice a (ints L1).length cap) := fun w => (HA.out.keep w.below).cell rfl
  have q2 : ∀ w : Later Y.heap.size Y, w.val.cell? ⟨g + 1, 0, none⟩ = some (.int .i64 k) := fun w => (HB2.out.keep w.below).cell rfl
  have q3 : ∀ w : Later Y.heap.size Y, w.val.cell? ⟨g + 1, 1, none⟩ = some (.slice b (ints L2).length capb) := fun w => (HB2.out.keep w.below).cell rfl
  rw [← hy]
  clear hy HA HB2
  refine wp_region_later y (by kernel_rfl) (by kernel_rfl) (fun _ => ?_)
  repeat (first | go_big_quiet_step ((go_at_call 44; exact KC.out _ _ _ _ _ (by first | exact I1.out | exact I2.out) (by first | exact hlen1 | exact hlen2) (by first | exact HE1.out | exact HE2.out))) | (refine wpQuiet_step (fun K hK => ?_); go_simp; refine ⟨_, fun _ => rfl, ?_⟩; refine hK _ ?_; clear hK K))
  refine wpQuiet_nil ?_
  intro y
  clear KC HE1 HE2
  have hil1 : (ints L1).length = L1.length := ints_len L1
  have hil2 : (ints L2).length = L2.length := ints_len L2
  rw [hil1] at q1 ⊢
  rw [hil2] at q3 ⊢
  have w0 := IntWalk.i64_in ((m : Int) + (k : Int)) (by omega)
  have d0 : decide (8 < (m : Int) + (k : Int)) = false := decide_eq_false (by omega)
  have q0y := q0 y
  have q1y := q1 y
  have q2y := q2 y
  have q3y := q3 y
  go_wp2
  go_loopw [8, 38] (fun t i wr => ∃ (c : Nat) (ad : Option Addr) (cp : Nat) (u : Later Y.heap.size Y), c ≤ L1.length ∧ t = .slice ad (ints (sumL m (L1.take c) L2)).length cp ∧ i = .int .i64 c ∧ wr = u.val ∧ Hid (Own Y.heap.size u.val ad cp (ints (sumL m (L1.take c) L2)))) (fun _ i _ => L1.length - (intOf i).toNat)
  case atStart => exact ⟨0, none, 0, y, by omega, rfl, rfl, rfl, Lib.hid (Own.nil _ _)⟩
  case round =>
    clear y q0y q1y q2y q3y
    obtain ⟨c, ad, cp, u, hc, rfl, rfl, rfl, HO⟩ := hrel
    by_cases hlt : c < L1.length
    · obtain ⟨b1, off1, rfl, hbB1, hcell1⟩ := (I1.out.to u).at (k := c) (by rw [ints_len]; exact hlt)
      have c0 : ∀ v : Later u.val.heap.size u.val, v.val.cell? ⟨b1, off1 + c, none⟩ = some (.int .i64 ((L1.getD c 0 : Nat) : Int)) := fun v => by rw [← ints_getD]; exact hcell1 v c (by rw [ints_len]; exact hlt)
      have hx := HT1.out c hlt
      have HSt := Lib.hid (sumL_step m L1 L2 hlt)
      have HLn : Hid ((sumL m (L1.take c) L2).length + 1024 ≤ 2097152) := Lib.hid (by
        rw [sumL_len]
        have h5 : (L1.take c).length ≤ 1024 := by have := List.length_take_le c L1; omega
        have h6 : (L1.take c).length * L2.length ≤ 1024 * 1024 := Nat.mul_le_mul h5 hL2
        omega)
      have q3u := q3 u
      have c0u : u.val.cell? ⟨b1, off1 + c, none⟩ = some (.int .i64 ((L1.getD c 0 : Nat) : Int)) := c0 (Later.self _)
      clear hcell1
      generalize sumL m (L1.take c) L2 = T at *
      generalize L1.getD c 0 = x at *
      go_wp2
      go_loopw [8, 45] (fun t i wr => ∃ (d : Nat) (ad : Option Addr) (cp : Nat) (u2 : Later Y.heap.size Y), d ≤ L2.length ∧ t = .slice ad (ints (T ++ (L2.take d).map (fun y => x ||| y * bit m))).length cp ∧ i = .int .i64 d ∧ wr = u2.val ∧ Hid (Own Y.heap.size u2.val ad cp (ints (T ++ (L2.take d).map (fun y => x ||| y * bit m))))) (fun _ i _ => L2.length - (intOf i).toNat)
      case atStart => exact ⟨0, ad, cp, u, by omega, by simp, rfl, rfl, Lib.hid (by have := HO.out; simp only [List.take_zero, List.map_nil, List.append_nil]; exact this)⟩
      case round =>
        obtain ⟨d, ad2, cp2, u2, hd, rfl, rfl, rfl, HO2⟩ := hrel
        by_cases hlt2 : d < L2.length
        · obtain ⟨b2, off2, rfl, hbB2, hcell2⟩ := (I2.out.to u2).at (k := d) (by rw [ints_len]; exact hlt2)
          have e0 : ∀ v : Later u2.val.heap.size u2.val, v.val.cell? ⟨b2, off2 + d, none⟩ = some (.int .i64 ((L2.getD d 0 : Nat) : Int)) := fun v => by rw [← ints_getD]; exact hcell2 v d (by rw [ints_len]; exact hlt2)
          have hy := HT2.out d hlt2
          have HS2 := Lib.hid (take_map_step (fun y => x ||| y * bit m) L2 hlt2)
          have HLn2 : Hid ((ints (T ++ (L2.take d).map (fun y => x ||| y * bit m))).length + 1 ≤ 1099511627776) := Lib.hid (by
            rw [ints_len, List.length_append, List.length_map]
            have := List.length_take_le d L2
            have := HLn.out
            omega)
          have t0 : ∀ v : Later u2.val.heap.size u2.val, v.val.cell? ⟨g, 0, none⟩ = some (.int .i64 m) := fun v => q0 (u2.up v)
          clear hcell2
          obtain ⟨v0, hv0⟩ : ∃ v0 : Later u2.val.heap.size u2.val, v0.val = u2.val := ⟨Later.self _, rfl⟩
          rw [← hv0]
          clear hv0
          generalize (L2.take d).map (fun y => x ||| y * bit m) = T2 at *
          generalize L2.getD d 0 = z at *
          obtain ⟨p, hp⟩ : ∃ p, z * bit m = p := ⟨_, rfl⟩
          have hp2 : p < 65536 := by
            rw [← hp]
            have : z * bit m ≤ 255 * 256 := Nat.mul_le_mul (by omega) (by omega)
            omega
          have o1 : bits .or .i64 (x : Int) (p : Int) = ((x ||| p : Nat) : Int) := i64_or x p (by omega) (by omega)
          have w1 : wrap64 ((z : Int) * 2 ^ m) = (p : Int) := by
            rw [bit_cast, ← Int.natCast_mul, hp]
            exact w64_in (p : Int) (by omega)
          rw [hp] at HS2
          clear hp
          go_wp2_with (first | (at_builtin; refine wpList_push (B := Y.heap.size) (W := Y) (w := v0.val) (u2.up v0).below (u2.up v0).size rfl _ _ rfl (ints (T ++ T2)) ad2 cp2 ((x ||| p : Nat) : Int) rfl (HO2.out.keep v0.below) rfl (by have := HLn2.out; omega) ?_; intro u3 ad3 cp3 hown))
          go_roundw
          case rel => exact ⟨d+1, ad3, cp3, u3, by omega, by rw [HS2.out, ← List.append_assoc, ints_snoc]; simp, by go_num, rfl, by rw [HS2.out, ← List.append_assoc, ints_snoc]; exact hown⟩
          case measure => simp [intOf]; omega
        · have hde : d = L2.length := by omega
          subst hde
          rw [List.take_length] at HO2 ⊢
          go_wp2
          go_roundw
          case rel => exact ⟨c+1, ad2, cp2, u2, by omega, by rw [HSt.out], by go_num, rfl, by rw [HSt.out]; exact HO2⟩
          case measure => simp [intOf]; omega
    · have hce : c = L1.length := by omega
      subst hce
      rw [List.take_length] at HO ⊢
      have KM := Lib.hid (c_made u (m + k) ((m : Int) + (k : Int)) (sumL m L1 L2) HS.out hmk (by rw [sumL_len]; exact Nat.mul_le_mul hL1 hL2) ad cp HO.out)
      obtain ⟨A, hA⟩ : ∃ A, those (m + k) (memB (sumL m L1 L2)) = A := ⟨_, rfl⟩
      rw [hA] at KM
      have HA := Lib.hid hA
      clear hA
      have q0u := q0 u
      have q1u := q1 u
      have q2u := q2 u
      have q3u := q3 u
      generalize (ints (sumL m L1 L2)).length = len at *
      have f0 : ∀ (w : Later Y.heap.size Y), w.val.cell? ⟨g + 2, 0, none⟩ = some (.int .i64 0) := fun w => (HX.out.keep_at w.below hgr).cell rfl
      have z0 : ∀ (w : Later Y.heap.size Y), w.val.frozen? ⟨g + 2, 0, none⟩ = false := fun w => (HX.out.keep_at w.below hgr).fz 0
      have f1 : ∀ (w : Later Y.heap.size Y) (x0 : Value), (w.val.setCell ⟨g + 2, 0, none⟩ x0).cell? ⟨g + 2, 1, none⟩ = some (.slice none 0 0) := fun w x0 => ((HX.out.keep_at w.below hgr).set 0 x0).cell rfl
      have z1 : ∀ (w : Later Y.heap.size Y) (x0 : Value), (w.val.setCell ⟨g + 2, 0, none⟩ x0).frozen? ⟨g + 2, 1, none⟩ = false := fun w x0 => ((HX.out.keep_at w.below hgr).set 0 x0).fz 1
      go_wp2_with (first | (go_at_call 45; ((with_reducible refine (KM.out).mono ?_); rintro e _ ⟨_, rfl, ⟨ad3, cp3, rfl, hO3⟩, v3, rfl⟩)))
      refine bodyPost_ret (results_row (vs := [.int .i64 ((m : Int) + (k : Int)), .slice ad3 (ints A).length cp3]) rfl _ _ (g + 2) rfl (((HX.out.keep v3.below).set 0 _).set 1 _) Try.underlying24 (by kernel_rfl)) rfl ?_
      obtain ⟨y1, hy1⟩ := later_set (HVY.out v3) (g := g + 2) (i := 0) hBg (.int .i64 ((m : Int) + (k : Int)))
      obtain ⟨y2, hy2⟩ := later_set ⟨y1, hy1⟩ (g := g + 2) (i := 1) hBg (.slice ad3 (ints A).length cp3)
      have hus := u.size
      have hgu2 : g + 2 < u.val.heap.size := by omega
      have hA := HA.out
      subst hA
      rw [Int.natCast_add]
      refine RetP.of ⟨y2, hy2⟩ ⟨_, _, rfl, ((hO3.set hgu2 _).set hgu2 _).mono (Nat.le_trans hB (Nat.le_trans (by omega) hus))⟩

end Go.Proofs.Ytefkhnibempibaa
