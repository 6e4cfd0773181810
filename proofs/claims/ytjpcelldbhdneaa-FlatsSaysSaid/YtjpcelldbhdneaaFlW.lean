
/-
  flats.Mobius, Levels, Independent, Characteristic.
-/
import Derived.Test.YtjpcelldbhdneaaFlMob
namespace Go.Proofs.Ytjpcelldbhdneaa
open Go.RowKit
set_option linter.unusedVariables false

/-! ### of what is no matroid -/
set_option maxRecDepth 100000 in
set_option maxHeartbeats 4000000 in
theorem c_flMobius_no {B : Nat} {W : World} (u : Later B W) (n : Int) (l : List Int) (a : Option Addr) (cap : Nat) (e : Int) (h : IntsAt B W a l) (hlen : l.length ≤ 4611686018427387904) (he : MatIs n l e) (h0 : e ≠ 0) :
    Calls Try.prog 69 #[.agg #[.int .i64 n, .slice a l.length cap]] u.val (RetP B W (ListE [] e)) := by
  have T0 : Two (u.val.alloc (.cells #[.int .i64 n, .slice a l.length cap] 24)) u.val.heap.size 24 (.int .i64 n) (.slice a l.length cap) := Two.new _ _ _ _
  have HV : Hid (∀ v : Later (u.val.alloc (.cells #[.int .i64 n, .slice a l.length cap] 24)).heap.size (u.val.alloc (.cells #[.int .i64 n, .slice a l.length cap] 24)), ∃ w : Later B W, w.val = v.val) := Lib.hid (fun v => ⟨(u.alloc _).up v, rfl⟩)
  have p0 : (u.val.alloc (.cells #[.int .i64 n, .slice a l.length cap] 24)).cell? ⟨u.val.heap.size, 0, none⟩ = some (.int .i64 n) := T0.c0
  have p1 : (u.val.alloc (.cells #[.int .i64 n, .slice a l.length cap] 24)).cell? ⟨u.val.heap.size, 1, none⟩ = some (.slice a l.length cap) := T0.c1
  have K0 := Lib.hid (show Calls Try.prog 178 #[.agg #[.int .i64 n, .slice a l.length cap]] (u.val.alloc (.cells #[.int .i64 n, .slice a l.length cap] 24)) _ from c_flatsOf_no (Later.self (u.val.alloc (.cells #[.int .i64 n, .slice a l.length cap] 24))) n l a cap e (h.to (u.alloc _)) hlen he h0)
  have d0 : (e != 0) = true := by rw [bne_iff_ne]; exact h0
  clear h hlen he T0 h0
  go_enter Try.func69, Try.ntmps69
  go_wp2_with (first | (go_at_call 178; (with_reducible refine (K0.out).mono ?_); rintro e _ ⟨rfl, v1, rfl⟩))
  go_ret2
  exact RetP.of (HV.out (v1.alloc _)) ListE.no
set_option maxRecDepth 100000 in
set_option maxHeartbeats 4000000 in
theorem c_flChar_no {B : Nat} {W : World} (u : Later B W) (n : Int) (l : List Int) (a : Option Addr) (cap : Nat) (e : Int) (h : IntsAt B W a l) (hlen : l.length ≤ 4611686018427387904) (he : MatIs n l e) (h0 : e ≠ 0) :
    Calls Try.prog 70 #[.agg #[.int .i64 n, .slice a l.length cap]] u.val (RetP B W (ListE [] e)) := by
  have T0 : Two (u.val.alloc (.cells #[.int .i64 n, .slice a l.length cap] 24)) u.val.heap.size 24 (.int .i64 n) (.slice a l.length cap) := Two.new _ _ _ _
  have HV : Hid (∀ v : Later (u.val.alloc (.cells #[.int .i64 n, .slice a l.length cap] 24)).heap.size (u.val.alloc (.cells #[.int .i64 n, .slice a l.length cap] 24)), ∃ w : Later B W, w.val = v.val) := Lib.hid (fun v => ⟨(u.alloc _).up v, rfl⟩)
  have p0 : (u.val.alloc (.cells #[.int .i64 n, .slice a l.length cap] 24)).cell? ⟨u.val.heap.size, 0, none⟩ = some (.int .i64 n) := T0.c0
  have p1 : (u.val.alloc (.cells #[.int .i64 n, .slice a l.length cap] 24)).cell? ⟨u.val.heap.size, 1, none⟩ = some (.slice a l.length cap) := T0.c1
  have K0 := Lib.hid (show Calls Try.prog 178 #[.agg #[.int .i64 n, .slice a l.length cap]] (u.val.alloc (.cells #[.int .i64 n, .slice a l.length cap] 24)) _ from c_flatsOf_no (Later.self (u.val.alloc (.cells #[.int .i64 n, .slice a l.length cap] 24))) n l a cap e (h.to (u.alloc _)) hlen he h0)
  have d0 : (e != 0) = true := by rw [bne_iff_ne]; exact h0
  clear h hlen he T0 h0
  go_enter Try.func70, Try.ntmps70
  go_wp2_with (first | (go_at_call 178; (with_reducible refine (K0.out).mono ?_); rintro e _ ⟨rfl, v1, rfl⟩))
  go_ret2
  exact RetP.of (HV.out (v1.alloc _)) ListE.no
set_option maxRecDepth 100000 in
set_option maxHeartbeats 4000000 in
theorem c_flLevels_no {B : Nat} {W : World} (u : Later B W) (n : Int) (l : List Int) (a : Option Addr) (cap : Nat) (e : Int) (h : IntsAt B W a l) (hlen : l.length ≤ 4611686018427387904) (he : MatIs n l e) (h0 : e ≠ 0) :
    Calls Try.prog 71 #[.agg #[.int .i64 n, .slice a l.length cap]] u.val (RetP B W (ListE [] e)) := by
  have T0 : Two (u.val.alloc (.cells #[.int .i64 n, .slice a l.length cap] 24)) u.val.heap.size 24 (.int .i64 n) (.slice a l.length cap) := Two.new _ _ _ _
  have HV : Hid (∀ v : Later (u.val.alloc (.cells #[.int .i64 n, .slice a l.length cap] 24)).heap.size (u.val.alloc (.cells #[.int .i64 n, .slice a l.length cap] 24)), ∃ w : Later B W, w.val = v.val) := Lib.hid (fun v => ⟨(u.alloc _).up v, rfl⟩)
  have p0 : (u.val.alloc (.cells #[.int .i64 n, .slice a l.length cap] 24)).cell? ⟨u.val.heap.size, 0, none⟩ = some (.int .i64 n) := T0.c0
  have p1 : (u.val.alloc (.cells #[.int .i64 n, .slice a l.length cap] 24)).cell? ⟨u.val.heap.size, 1, none⟩ = some (.slice a l.length cap) := T0.c1
  have K0 := Lib.hid (show Calls Try.prog 178 #[.agg #[.int .i64 n, .slice a l.length cap]] (u.val.alloc (.cells #[.int .i64 n, .slice a l.length cap] 24)) _ from c_flatsOf_no (Later.self (u.val.alloc (.cells #[.int .i64 n, .slice a l.length cap] 24))) n l a cap e (h.to (u.alloc _)) hlen he h0)
  have d0 : (e != 0) = true := by rw [bne_iff_ne]; exact h0
  clear h hlen he T0 h0
  go_enter Try.func71, Try.ntmps71
  go_wp2_with (first | (go_at_call 178; (with_reducible refine (K0.out).mono ?_); rintro e _ ⟨rfl, v1, rfl⟩))
  go_ret2
  exact RetP.of (HV.out (v1.alloc _)) ListE.no
set_option maxRecDepth 100000 in
set_option maxHeartbeats 4000000 in
theorem c_flInd_no {B : Nat} {W : World} (u : Later B W) (n : Int) (l : List Int) (a : Option Addr) (cap : Nat) (e : Int) (h : IntsAt B W a l) (hlen : l.length ≤ 4611686018427387904) (he : MatIs n l e) (h0 : e ≠ 0) :
    Calls Try.prog 72 #[.agg #[.int .i64 n, .slice a l.length cap]] u.val (RetP B W (ListE [] e)) := by
  have T0 : Two (u.val.alloc (.cells #[.int .i64 n, .slice a l.length cap] 24)) u.val.heap.size 24 (.int .i64 n) (.slice a l.length cap) := Two.new _ _ _ _
  have HV : Hid (∀ v : Later (u.val.alloc (.cells #[.int .i64 n, .slice a l.length cap] 24)).heap.size (u.val.alloc (.cells #[.int .i64 n, .slice a l.length cap] 24)), ∃ w : Later B W, w.val = v.val) := Lib.hid (fun v => ⟨(u.alloc _).up v, rfl⟩)
  have p0 : (u.val.alloc (.cells #[.int .i64 n, .slice a l.length cap] 24)).cell? ⟨u.val.heap.size, 0, none⟩ = some (.int .i64 n) := T0.c0
  have p1 : (u.val.alloc (.cells #[.int .i64 n, .slice a l.length cap] 24)).cell? ⟨u.val.heap.size, 1, none⟩ = some (.slice a l.length cap) := T0.c1
  have K0 := Lib.hid (show Calls Try.prog 178 #[.agg #[.int .i64 n, .slice a l.length cap]] (u.val.alloc (.cells #[.int .i64 n, .slice a l.length cap] 24)) _ from c_flatsOf_no (Later.self (u.val.alloc (.cells #[.int .i64 n, .slice a l.length cap] 24))) n l a cap e (h.to (u.alloc _)) hlen he h0)
  have d0 : (e != 0) = true := by rw [bne_iff_ne]; exact h0
  clear h hlen he T0 h0
  go_enter Try.func72, Try.ntmps72
  go_wp2_with (first | (go_at_call 178; (with_reducible refine (K0.out).mono ?_); rintro e _ ⟨rfl, v1, rfl⟩))
  go_ret2
  exact RetP.of (HV.out (v1.alloc _)) ListE.no

theorem mk_tab1 (n : Nat) (h : n ≤ 1000) : ∀ w : World, (Instr.makeSlice 22 (.int .i64 ((n : Int) + 1)) (.int .i64 ((n : Int) + 1))).run Try.prog w = .ok (.slice (some ⟨w.heap.size, 0, none⟩) (n + 1) (n + 1)) (w.alloc (.cells (madeCells #[.int .i64 0] (n + 1)) 3)) := by
  have := mk_tab (n + 1) (by omega)
  simpa only [Int.natCast_add, Int.natCast_one] using this
theorem mk_tab641 (n : Nat) (h : n ≤ 1000) : ∀ w : World, (Instr.makeSlice 59 (.int .i64 ((n : Int) + 1)) (.int .i64 ((n : Int) + 1))).run Try.prog w = .ok (.slice (some ⟨w.heap.size, 0, none⟩) (n + 1) (n + 1)) (w.alloc (.cells (madeCells #[.int .i64 0] (n + 1)) 2)) := by
  have := mk_tab64 (n + 1) (by omega)
  simpa only [Int.natCast_add, Int.natCast_one] using this
/-! ### of a matroid -/
set_option maxRecDepth 100000 in
set_option maxHeartbeats 4000000 in
theorem c_flMobius {B : Nat} {W : World} (u : Later B W) (m : Nat) (hm : m ≤ 8) (l : List Int) (a : Option Addr) (cap : Nat) (h : IntsAt B W a l) (hlen : l.length ≤ 4611686018427387904) (he : MatIs (m : Int) l 0) (A : Nat → Int) (hA : MuIs (those m (flatP m (toN l))) A) :
    Calls Try.prog 69 #[.agg #[.int .i64 m, .slice a l.length cap]] u.val (RetP B W (ListE (tabL (those m (flatP m (toN l))).length A) 0)) := by
  have hbm := bit_le m hm
  have T0 : Two (u.val.alloc (.cells #[.int .i64 m, .slice a l.length cap] 24)) u.val.heap.size 24 (.int .i64 m) (.slice a l.length cap) := Two.new _ _ _ _
  have HV : Hid (∀ v : Later (u.val.alloc (.cells #[.int .i64 m, .slice a l.length cap] 24)).heap.size (u.val.alloc (.cells #[.int .i64 m, .slice a l.length cap] 24)), ∃ w : Later B W, w.val = v.val) := Lib.hid (fun v => ⟨(u.alloc _).up v, rfl⟩)
  have HB0 : Hid (B ≤ (u.val.alloc (.cells #[.int .i64 m, .slice a l.length cap] 24)).heap.size) := Lib.hid (by have := u.size; simp; omega)
  have q0 : ∀ w : Later (u.val.alloc (.cells #[.int .i64 m, .slice a l.length cap] 24)).heap.size (u.val.alloc (.cells #[.int .i64 m, .slice a l.length cap] 24)), w.val.cell? ⟨u.val.heap.size, 0, none⟩ = some (.int .i64 m) := fun w => (T0.keep w.below).c0
  have p0 : (u.val.alloc (.cells #[.int .i64 m, .slice a l.length cap] 24)).cell? ⟨u.val.heap.size, 0, none⟩ = some (.int .i64 m) := T0.c0
  have p1 : (u.val.alloc (.cells #[.int .i64 m, .slice a l.length cap] 24)).cell? ⟨u.val.heap.size, 1, none⟩ = some (.slice a l.length cap) := T0.c1
  have K0 := Lib.hid (show Calls Try.prog 178 #[.agg #[.int .i64 m, .slice a l.length cap]] (u.val.alloc (.cells #[.int .i64 m, .slice a l.length cap] 24)) _ from c_flatsOf (Later.self (u.val.alloc (.cells #[.int .i64 m, .slice a l.length cap] 24))) m hm l a cap (h.to (u.alloc _)) hlen he)
  clear h hlen he T0
  go_enter Try.func69, Try.ntmps69
  go_upto_region 2 with (first | (go_at_call 178; ((with_reducible refine (K0.out).mono ?_); rintro e _ ⟨_, rfl, ⟨adF, cpF, g, c, rfl, hO, hT, hBg⟩, v1, rfl⟩)))
  have TY : RowL (v1.val.alloc (.cells #[.int .i64 m, .slice a l.length cap, .slice adF (ints (those m (flatP m (toN l)))).length cpF, .slice (some ⟨g, 0, none⟩) (bit m) c] 115)) v1.val.heap.size 115 [.int .i64 m, .slice a l.length cap, .slice adF (ints (those m (flatP m (toN l)))).length cpF, .slice (some ⟨g, 0, none⟩) (bit m) c] := RowL.new _ _ _
  have s0 : ∀ w : Later (v1.val.alloc (.cells #[.int .i64 m, .slice a l.length cap, .slice adF (ints (those m (flatP m (toN l)))).length cpF, .slice (some ⟨g, 0, none⟩) (bit m) c] 115)).heap.size (v1.val.alloc (.cells #[.int .i64 m, .slice a l.length cap, .slice adF (ints (those m (flatP m (toN l)))).length cpF, .slice (some ⟨g, 0, none⟩) (bit m) c] 115)), w.val.cell? ⟨v1.val.heap.size, 0, none⟩ = some (.int .i64 m) := fun w => (TY.keep w.below).cell rfl
  have s1 : ∀ w : Later (v1.val.alloc (.cells #[.int .i64 m, .slice a l.length cap, .slice adF (ints (those m (flatP m (toN l)))).length cpF, .slice (some ⟨g, 0, none⟩) (bit m) c] 115)).heap.size (v1.val.alloc (.cells #[.int .i64 m, .slice a l.length cap, .slice adF (ints (those m (flatP m (toN l)))).length cpF, .slice (some ⟨g, 0, none⟩) (bit m) c] 115)), w.val.cell? ⟨v1.val.heap.size, 1, none⟩ = some (.slice a l.length cap) := fun w => (TY.keep w.below).cell rfl
  have s2 : ∀ w : Later (v1.val.alloc (.cells #[.int .i64 m, .slice a l.length cap, .slice adF (ints (those m (flatP m (toN l)))).length cpF, .slice (some ⟨g, 0, none⟩) (bit m) c] 115)).heap.size (v1.val.alloc (.cells #[.int .i64 m, .slice a l.length cap, .slice adF (ints (those m (flatP m (toN l)))).length cpF, .slice (some ⟨g, 0, none⟩) (bit m) c] 115)), w.val.cell? ⟨v1.val.heap.size, 2, none⟩ = some (.slice adF (ints (those m (flatP m (toN l)))).length cpF) := fun w => (TY.keep w.below).cell rfl
  have s3 : ∀ w : Later (v1.val.alloc (.cells #[.int .i64 m, .slice a l.length cap, .slice adF (ints (those m (flatP m (toN l)))).length cpF, .slice (some ⟨g, 0, none⟩) (bit m) c] 115)).heap.size (v1.val.alloc (.cells #[.int .i64 m, .slice a l.length cap, .slice adF (ints (those m (flatP m (toN l)))).length cpF, .slice (some ⟨g, 0, none⟩) (bit m) c] 115)), w.val.cell? ⟨v1.val.heap.size, 3, none⟩ = some (.slice (some ⟨g, 0, none⟩) (bit m) c) := fun w => (TY.keep w.below).cell rfl
  have hcp := hO.le
  have HIF : Hid (IntsAt (v1.val.alloc (.cells #[.int .i64 m, .slice a l.length cap, .slice adF (ints (those m (flatP m (toN l)))).length cpF, .slice (some ⟨g, 0, none⟩) (bit m) c] 115)).heap.size (v1.val.alloc (.cells #[.int .i64 m, .slice a l.length cap, .slice adF (ints (those m (flatP m (toN l)))).length cpF, .slice (some ⟨g, 0, none⟩) (bit m) c] 115)) adF (ints (those m (flatP m (toN l))))) := Lib.hid (hO.reads.to ((Later.self v1.val).alloc _))
  have HT : Hid (ITab (v1.val.alloc (.cells #[.int .i64 m, .slice a l.length cap, .slice adF (ints (those m (flatP m (toN l)))).length cpF, .slice (some ⟨g, 0, none⟩) (bit m) c] 115)) g (bit m) (fun j => (rk (toN l) j : Int))) := Lib.hid (hT.keep ((Below.refl _ _).alloc (Nat.le_refl _) _))
  have hgY : g < (v1.val.alloc (.cells #[.int .i64 m, .slice a l.length cap, .slice adF (ints (those m (flatP m (toN l)))).length cpF, .slice (some ⟨g, 0, none⟩) (bit m) c] 115)).heap.size := HT.out.lt
  have HVY : Hid (∀ v : Later (v1.val.alloc (.cells #[.int .i64 m, .slice a l.length cap, .slice adF (ints (those m (flatP m (toN l)))).length cpF, .slice (some ⟨g, 0, none⟩) (bit m) c] 115)).heap.size (v1.val.alloc (.cells #[.int .i64 m, .slice a l.length cap, .slice adF (ints (those m (flatP m (toN l)))).length cpF, .slice (some ⟨g, 0, none⟩) (bit m) c] 115)), ∃ w : Later B W, w.val = v.val) := Lib.hid (fun v => HV.out ((v1.alloc _).up v))
  have HBY : Hid (B ≤ (v1.val.alloc (.cells #[.int .i64 m, .slice a l.length cap, .slice adF (ints (those m (flatP m (toN l)))).length cpF, .slice (some ⟨g, 0, none⟩) (bit m) c] 115)).heap.size) := Lib.hid (by obtain ⟨w, hw⟩ := HV.out (v1.alloc (.cells #[.int .i64 m, .slice a l.length cap, .slice adF (ints (those m (flatP m (toN l)))).length cpF, .slice (some ⟨g, 0, none⟩) (bit m) c] 115)); have := w.size; rw [hw] at this; exact this)
  have r0 : ∀ w : Later (v1.val.alloc (.cells #[.int .i64 m, .slice a l.length cap, .slice adF (ints (those m (flatP m (toN l)))).length cpF, .slice (some ⟨g, 0, none⟩) (bit m) c] 115)).heap.size (v1.val.alloc (.cells #[.int .i64 m, .slice a l.length cap, .slice adF (ints (those m (flatP m (toN l)))).length cpF, .slice (some ⟨g, 0, none⟩) (bit m) c] 115)), w.val.cell? ⟨u.val.heap.size, 0, none⟩ = some (.int .i64 m) := fun w => q0 ((v1.alloc _).up w)
  clear K0 HV HB0 q0 p0 p1 TY hO hT hBg
  generalize v1.val.heap.size = gl at *
  generalize (v1.val.alloc (.cells #[.int .i64 m, .slice a l.length cap, .slice adF (ints (those m (flatP m (toN l)))).length cpF, .slice (some ⟨g, 0, none⟩) (bit m) c] 115)) = Y at *
  obtain ⟨y, hy⟩ : ∃ y : Later Y.heap.size Y, y.val = Y := ⟨Later.self _, rfl⟩
  rw [← hy]
  clear hy
  have hF8 : ∀ i, i < (those m (flatP m (toN l))).length → (those m (flatP m (toN l))).getD i 0 < 256 := fun i hi => by have := (those_at hi).1; omega
  have hFl : (those m (flatP m (toN l))).length ≤ 256 := by have := thoseTo_len (flatP m (toN l)) (bit m); have e : those m (flatP m (toN l)) = thoseTo (flatP m (toN l)) (bit m) := rfl; rw [e]; omega
  rw [ints_len] at hcp
  have K := Lib.hid (fun v : Later Y.heap.size Y => c_latMobius v (those m (flatP m (toN l))) hFl hF8 adF cpF HIF.out hcp A hA (.int .i64 m) (.slice a l.length cap) (.slice (some ⟨g, 0, none⟩) (bit m) c))
  clear hF8 hA
  go_wp2_with (first | (go_at_call 179; ((with_reducible refine (K.out _).mono ?_); rintro e _ ⟨_, rfl, ⟨g2, rfl, hT2, hB2⟩, v2, rfl⟩)))
  go_ret2
  exact RetP.of (HVY.out v2) ⟨_, rfl, hT2.reads⟩

/-- of how many of the first k flats the rank is d -/
def lvTo (F : List Nat) (L : List Nat) (k d : Nat) : Int := isum (fun i => if rk L (F.getD i 0) = d then 1 else 0) k
theorem lvTo_le (F L : List Nat) (k d : Nat) : -((k : Nat) : Int) ≤ lvTo F L k d ∧ lvTo F L k d ≤ (k : Nat) := by
  have := isum_le (b := 1) (n := k) (f := fun i => if rk L (F.getD i 0) = d then 1 else 0) (fun i _ => by
    show -((1 : Nat) : Int) ≤ (if _ then _ else _) ∧ (if _ then _ else _) ≤ ((1 : Nat) : Int)
    split <;> decide)
  rw [Nat.mul_one] at this
  exact this
theorem lvTo_step (F L : List Nat) (k j : Nat) : lvTo F L (k + 1) j = if j = rk L (F.getD k 0) then lvTo F L k (rk L (F.getD k 0)) + 1 else lvTo F L k j := by
  unfold lvTo
  simp only [isum]
  by_cases c : j = rk L (F.getD k 0)
  · subst c; rw [if_pos rfl, if_pos rfl]
  · rw [if_neg (Ne.symm c), if_neg c, Int.add_zero]

set_option maxRecDepth 100000 in
set_option maxHeartbeats 8000000 in
theorem c_flLevels {B : Nat} {W : World} (u : Later B W) (m : Nat) (hm : m ≤ 8) (l : List Int) (a : Option Addr) (cap : Nat) (h : IntsAt B W a l) (hlen : l.length ≤ 4611686018427387904) (he : MatIs (m : Int) l 0) (hR : ∀ s, s < bit m → rk (toN l) s ≤ rk (toN l) (bit m - 1)) :
    Calls Try.prog 71 #[.agg #[.int .i64 m, .slice a l.length cap]] u.val (RetP B W (ListE (tabL (rk (toN l) (bit m - 1) + 1) (lvTo (those m (flatP m (toN l))) (toN l) (those m (flatP m (toN l))).length)) 0)) := by
  have hbm := bit_le m hm
  have T0 : Two (u.val.alloc (.cells #[.int .i64 m, .slice a l.length cap] 24)) u.val.heap.size 24 (.int .i64 m) (.slice a l.length cap) := Two.new _ _ _ _
  have HV : Hid (∀ v : Later (u.val.alloc (.cells #[.int .i64 m, .slice a l.length cap] 24)).heap.size (u.val.alloc (.cells #[.int .i64 m, .slice a l.length cap] 24)), ∃ w : Later B W, w.val = v.val) := Lib.hid (fun v => ⟨(u.alloc _).up v, rfl⟩)
  have HB0 : Hid (B ≤ (u.val.alloc (.cells #[.int .i64 m, .slice a l.length cap] 24)).heap.size) := Lib.hid (by have := u.size; simp; omega)
  have q0 : ∀ w : Later (u.val.alloc (.cells #[.int .i64 m, .slice a l.length cap] 24)).heap.size (u.val.alloc (.cells #[.int .i64 m, .slice a l.length cap] 24)), w.val.cell? ⟨u.val.heap.size, 0, none⟩ = some (.int .i64 m) := fun w => (T0.keep w.below).c0
  have p0 : (u.val.alloc (.cells #[.int .i64 m, .slice a l.length cap] 24)).cell? ⟨u.val.heap.size, 0, none⟩ = some (.int .i64 m) := T0.c0
  have p1 : (u.val.alloc (.cells #[.int .i64 m, .slice a l.length cap] 24)).cell? ⟨u.val.heap.size, 1, none⟩ = some (.slice a l.length cap) := T0.c1
  have K0 := Lib.hid (show Calls Try.prog 178 #[.agg #[.int .i64 m, .slice a l.length cap]] (u.val.alloc (.cells #[.int .i64 m, .slice a l.length cap] 24)) _ from c_flatsOf (Later.self (u.val.alloc (.cells #[.int .i64 m, .slice a l.length cap] 24))) m hm l a cap (h.to (u.alloc _)) hlen he)
  clear h hlen he T0
  go_enter Try.func71, Try.ntmps71
  go_upto_region 2 with (first | (go_at_call 178; ((with_reducible refine (K0.out).mono ?_); rintro e _ ⟨_, rfl, ⟨adF, cpF, g, c, rfl, hO, hT, hBg⟩, v1, rfl⟩)))
  have TY : RowL (v1.val.alloc (.cells #[.int .i64 m, .slice a l.length cap, .slice adF (ints (those m (flatP m (toN l)))).length cpF, .slice (some ⟨g, 0, none⟩) (bit m) c] 115)) v1.val.heap.size 115 [.int .i64 m, .slice a l.length cap, .slice adF (ints (those m (flatP m (toN l)))).length cpF, .slice (some ⟨g, 0, none⟩) (bit m) c] := RowL.new _ _ _
  have s0 : ∀ w : Later (v1.val.alloc (.cells #[.int .i64 m, .slice a l.length cap, .slice adF (ints (those m (flatP m (toN l)))).length cpF, .slice (some ⟨g, 0, none⟩) (bit m) c] 115)).heap.size (v1.val.alloc (.cells #[.int .i64 m, .slice a l.length cap, .slice adF (ints (those m (flatP m (toN l)))).length cpF, .slice (some ⟨g, 0, none⟩) (bit m) c] 115)), w.val.cell? ⟨v1.val.heap.size, 0, none⟩ = some (.int .i64 m) := fun w => (TY.keep w.below).cell rfl
  have s1 : ∀ w : Later (v1.val.alloc (.cells #[.int .i64 m, .slice a l.length cap, .slice adF (ints (those m (flatP m (toN l)))).length cpF, .slice (some ⟨g, 0, none⟩) (bit m) c] 115)).heap.size (v1.val.alloc (.cells #[.int .i64 m, .slice a l.length cap, .slice adF (ints (those m (flatP m (toN l)))).length cpF, .slice (some ⟨g, 0, none⟩) (bit m) c] 115)), w.val.cell? ⟨v1.val.heap.size, 1, none⟩ = some (.slice a l.length cap) := fun w => (TY.keep w.below).cell rfl
  have s2 : ∀ w : Later (v1.val.alloc (.cells #[.int .i64 m, .slice a l.length cap, .slice adF (ints (those m (flatP m (toN l)))).length cpF, .slice (some ⟨g, 0, none⟩) (bit m) c] 115)).heap.size (v1.val.alloc (.cells #[.int .i64 m, .slice a l.length cap, .slice adF (ints (those m (flatP m (toN l)))).length cpF, .slice (some ⟨g, 0, none⟩) (bit m) c] 115)), w.val.cell? ⟨v1.val.heap.size, 2, none⟩ = some (.slice adF (ints (those m (flatP m (toN l)))).length cpF) := fun w => (TY.keep w.below).cell rfl
  have s3 : ∀ w : Later (v1.val.alloc (.cells #[.int .i64 m, .slice a l.length cap, .slice adF (ints (those m (flatP m (toN l)))).length cpF, .slice (some ⟨g, 0, none⟩) (bit m) c] 115)).heap.size (v1.val.alloc (.cells #[.int .i64 m, .slice a l.length cap, .slice adF (ints (those m (flatP m (toN l)))).length cpF, .slice (some ⟨g, 0, none⟩) (bit m) c] 115)), w.val.cell? ⟨v1.val.heap.size, 3, none⟩ = some (.slice (some ⟨g, 0, none⟩) (bit m) c) := fun w => (TY.keep w.below).cell rfl
  have hcp := hO.le
  have HIF : Hid (IntsAt (v1.val.alloc (.cells #[.int .i64 m, .slice a l.length cap, .slice adF (ints (those m (flatP m (toN l)))).length cpF, .slice (some ⟨g, 0, none⟩) (bit m) c] 115)).heap.size (v1.val.alloc (.cells #[.int .i64 m, .slice a l.length cap, .slice adF (ints (those m (flatP m (toN l)))).length cpF, .slice (some ⟨g, 0, none⟩) (bit m) c] 115)) adF (ints (those m (flatP m (toN l))))) := Lib.hid (hO.reads.to ((Later.self v1.val).alloc _))
  have HT : Hid (ITab (v1.val.alloc (.cells #[.int .i64 m, .slice a l.length cap, .slice adF (ints (those m (flatP m (toN l)))).length cpF, .slice (some ⟨g, 0, none⟩) (bit m) c] 115)) g (bit m) (fun j => (rk (toN l) j : Int))) := Lib.hid (hT.keep ((Below.refl _ _).alloc (Nat.le_refl _) _))
  have hgY : g < (v1.val.alloc (.cells #[.int .i64 m, .slice a l.length cap, .slice adF (ints (those m (flatP m (toN l)))).length cpF, .slice (some ⟨g, 0, none⟩) (bit m) c] 115)).heap.size := HT.out.lt
  have HVY : Hid (∀ v : Later (v1.val.alloc (.cells #[.int .i64 m, .slice a l.length cap, .slice adF (ints (those m (flatP m (toN l)))).length cpF, .slice (some ⟨g, 0, none⟩) (bit m) c] 115)).heap.size (v1.val.alloc (.cells #[.int .i64 m, .slice a l.length cap, .slice adF (ints (those m (flatP m (toN l)))).length cpF, .slice (some ⟨g, 0, none⟩) (bit m) c] 115)), ∃ w : Later B W, w.val = v.val) := Lib.hid (fun v => HV.out ((v1.alloc _).up v))
  have HBY : Hid (B ≤ (v1.val.alloc (.cells #[.int .i64 m, .slice a l.length cap, .slice adF (ints (those m (flatP m (toN l)))).length cpF, .slice (some ⟨g, 0, none⟩) (bit m) c] 115)).heap.size) := Lib.hid (by obtain ⟨w, hw⟩ := HV.out (v1.alloc (.cells #[.int .i64 m, .slice a l.length cap, .slice adF (ints (those m (flatP m (toN l)))).length cpF, .slice (some ⟨g, 0, none⟩) (bit m) c] 115)); have := w.size; rw [hw] at this; exact this)
  have r0 : ∀ w : Later (v1.val.alloc (.cells #[.int .i64 m, .slice a l.length cap, .slice adF (ints (those m (flatP m (toN l)))).length cpF, .slice (some ⟨g, 0, none⟩) (bit m) c] 115)).heap.size (v1.val.alloc (.cells #[.int .i64 m, .slice a l.length cap, .slice adF (ints (those m (flatP m (toN l)))).length cpF, .slice (some ⟨g, 0, none⟩) (bit m) c] 115)), w.val.cell? ⟨u.val.heap.size, 0, none⟩ = some (.int .i64 m) := fun w => q0 ((v1.alloc _).up w)
  clear K0 HV HB0 q0 p0 p1 TY hO hT hBg
  generalize v1.val.heap.size = gl at *
  generalize (v1.val.alloc (.cells #[.int .i64 m, .slice a l.length cap, .slice adF (ints (those m (flatP m (toN l)))).length cpF, .slice (some ⟨g, 0, none⟩) (bit m) c] 115)) = Y at *
  obtain ⟨y, hy⟩ : ∃ y : Later Y.heap.size Y, y.val = Y := ⟨Later.self _, rfl⟩
  rw [← hy]
  clear hy
  have HF8 : Hid (∀ i, i < (those m (flatP m (toN l))).length → (those m (flatP m (toN l))).getD i 0 < bit m) := Lib.hid (fun i hi => (those_at hi).1)
  have hFl : (those m (flatP m (toN l))).length ≤ 256 := by have := thoseTo_len (flatP m (toN l)) (bit m); have e : those m (flatP m (toN l)) = thoseTo (flatP m (toN l)) (bit m) := rfl; rw [e]; omega
  have HR := Lib.hid hR
  have hR8 := rk_le8 (toN l) (bit m - 1)
  have KR := Lib.hid (fun v : Later Y.heap.size Y => c_latRank v m hm (toN l) (.int .i64 m) (.slice a l.length cap) 0 g c (.slice adF (ints (those m (flatP m (toN l)))).length cpF) hgY HT.out)
  clear hR
  rw [ints_len] at *
  generalize those m (flatP m (toN l)) = F at *
  generalize toN l = L at *
  have hmk := mk_tab1 (rk L (bit m - 1)) (by omega)
  generalize hRk : rk L (bit m - 1) = R at *
  clear hRk
  go_upto_region 5 with (first | (go_at_call 180; ((with_reducible refine (KR.out _).mono ?_); rintro e _ ⟨rfl, y, rfl⟩)))
  have HT2 : Hid (ITab (y.val.alloc (.cells (madeCells #[.int .i64 0] (R + 1)) 3)) y.val.heap.size (R + 1) (lvTo F L 0)) := Lib.hid ((ITab.made y.val (R + 1)).congr (fun j _ => rfl))
  have hB2 : Y.heap.size ≤ y.val.heap.size := y.size
  have HZ : Hid (∃ w : Later Y.heap.size Y, w.val = (y.val.alloc (.cells (madeCells #[.int .i64 0] (R + 1)) 3))) := Lib.hid ⟨y.alloc _, rfl⟩
  clear hmk KR
  generalize (y.val.alloc (.cells (madeCells #[.int .i64 0] (R + 1)) 3)) = Y3 at *
  generalize y.val.heap.size = g2 at *
  clear y
  obtain ⟨y, hy⟩ := HZ.out
  subst hy
  clear HZ
  go_wp2
  go_loopw [24] (fun i wr => ∃ (k : Nat) (v : Later Y.heap.size Y), k ≤ F.length ∧ i = .int .i64 k ∧ wr = v.val ∧ Hid (ITab v.val g2 (R + 1) (lvTo F L k))) (fun i _ => F.length - (intOf i).toNat)
  case atStart => exact ⟨0, y, by omega, rfl, rfl, HT2⟩
  case round =>
    clear y HT2
    obtain ⟨k, v, hk, rfl, rfl, HT2⟩ := hrel
    by_cases hlt : k < F.length
    · obtain ⟨bb, off, rfl, hbB, hcell⟩ := HIF.out.at (k := k) (by rw [ints_len]; exact hlt)
      have c0 : ∀ w : Later Y.heap.size Y, w.val.cell? ⟨bb, off + k, none⟩ = some (.int .i64 ((F.getD k 0 : Nat) : Int)) := fun w => by rw [← ints_getD]; exact hcell w k (by rw [ints_len]; exact hlt)
      have hfk := HF8.out k hlt
      have c1 : ∀ w : Later Y.heap.size Y, w.val.cell? ⟨g, F.getD k 0, none⟩ = some (.int .i64 (rk L (F.getD k 0) : Int)) := fun w => (HT.out.keep_at w.below hgY).cell hfk
      have hrR := HR.out (F.getD k 0) hfk
      have hrR2 : rk L (F.getD k 0) < R + 1 := by omega
      have c2 := HT2.out.cell hrR2
      have c3 := HT2.out.frozen (rk L (F.getD k 0))
      have hb1 := lvTo_le F L k (rk L (F.getD k 0))
      have HN : Hid (ITab (v.val.setCell ⟨g2, rk L (F.getD k 0), none⟩ (.int .i64 (lvTo F L k (rk L (F.getD k 0)) + 1))) g2 (R + 1) (lvTo F L (k + 1))) := Lib.hid (HT2.out.set _ _ (fun j _ => lvTo_step F L k j))
      clear hcell HT2
      have hw := IntWalk.i64_in (lvTo F L k (rk L (F.getD k 0)) + 1) (by omega)
      have hb2 : Hid (rk L (F.getD k 0) ≤ 8) := Lib.hid (rk_le8 L _)
      generalize lvTo F L k (rk L (F.getD k 0)) = q at *
      generalize rk L (F.getD k 0) = p at *
      generalize F.getD k 0 = f at *
      go_wp2
      go_roundw
      case rel => exact ⟨k+1, v.set ⟨g2, p, none⟩ hB2 _, by omega, by go_num, rfl, HN⟩
      case measure => simp [intOf]; omega
    · have hke : Hid (k = F.length) := Lib.hid (by omega)
      go_wp2
      go_ret2
      rw [hke.out] at HT2
      exact RetP.of (HVY.out v) ⟨_, rfl, HT2.out.reads⟩

end Go.Proofs.Ytjpcelldbhdneaa
