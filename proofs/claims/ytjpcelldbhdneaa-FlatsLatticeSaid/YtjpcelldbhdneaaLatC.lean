
/-
  flats.Covers, flats.Modular.
-/
import Derived.Test.YtjpcelldbhdneaaFlOf
import Derived.Test.YtjpcelldbhdneaaLatPl
namespace Go.Proofs.Ytjpcelldbhdneaa
open Go.RowKit
set_option linter.unusedVariables false

set_option maxRecDepth 100000 in
set_option maxHeartbeats 4000000 in
theorem c_flCovers_no {B : Nat} {W : World} (u : Later B W) (n f : Int) (l : List Int) (a : Option Addr) (cap : Nat) (e : Int) (h : IntsAt B W a l) (hlen : l.length ≤ 4611686018427387904) (he : MatIs n l e) (h0 : e ≠ 0) :
    Calls Try.prog 78 #[.agg #[.int .i64 n, .slice a l.length cap], .int .i64 f] u.val (RetP B W (ListE [] e)) := by
  have T0 : Two (u.val.alloc (.cells #[.int .i64 n, .slice a l.length cap] 24)) u.val.heap.size 24 (.int .i64 n) (.slice a l.length cap) := Two.new _ _ _ _
  have HV : Hid (∀ v : Later (u.val.alloc (.cells #[.int .i64 n, .slice a l.length cap] 24)).heap.size (u.val.alloc (.cells #[.int .i64 n, .slice a l.length cap] 24)), ∃ w : Later B W, w.val = v.val) := Lib.hid (fun v => ⟨(u.alloc _).up v, rfl⟩)
  have p0 : (u.val.alloc (.cells #[.int .i64 n, .slice a l.length cap] 24)).cell? ⟨u.val.heap.size, 0, none⟩ = some (.int .i64 n) := T0.c0
  have p1 : (u.val.alloc (.cells #[.int .i64 n, .slice a l.length cap] 24)).cell? ⟨u.val.heap.size, 1, none⟩ = some (.slice a l.length cap) := T0.c1
  have K0 := Lib.hid (show Calls Try.prog 178 #[.agg #[.int .i64 n, .slice a l.length cap]] (u.val.alloc (.cells #[.int .i64 n, .slice a l.length cap] 24)) _ from c_flatsOf_no (Later.self (u.val.alloc (.cells #[.int .i64 n, .slice a l.length cap] 24))) n l a cap e (h.to (u.alloc _)) hlen he h0)
  have d0 : (e != 0) = true := by rw [bne_iff_ne]; exact h0
  clear h hlen he T0 h0
  go_enter Try.func78, Try.ntmps78
  go_wp2_with (first | (go_at_call 178; (with_reducible refine (K0.out).mono ?_); rintro e _ ⟨rfl, v1, rfl⟩))
  go_ret2
  exact RetP.of (HV.out (v1.alloc _)) ListE.no
set_option maxRecDepth 100000 in
set_option maxHeartbeats 4000000 in
theorem c_flModular_no {B : Nat} {W : World} (u : Later B W) (n f : Int) (l : List Int) (a : Option Addr) (cap : Nat) (e : Int) (h : IntsAt B W a l) (hlen : l.length ≤ 4611686018427387904) (he : MatIs n l e) (h0 : e ≠ 0) :
    Calls Try.prog 80 #[.agg #[.int .i64 n, .slice a l.length cap], .int .i64 f] u.val (Ret B W (.tuple #[.bool false, .int .i64 e])) := by
  have T0 : Two (u.val.alloc (.cells #[.int .i64 n, .slice a l.length cap] 24)) u.val.heap.size 24 (.int .i64 n) (.slice a l.length cap) := Two.new _ _ _ _
  have HV : Hid (∀ v : Later (u.val.alloc (.cells #[.int .i64 n, .slice a l.length cap] 24)).heap.size (u.val.alloc (.cells #[.int .i64 n, .slice a l.length cap] 24)), ∃ w : Later B W, w.val = v.val) := Lib.hid (fun v => ⟨(u.alloc _).up v, rfl⟩)
  have p0 : (u.val.alloc (.cells #[.int .i64 n, .slice a l.length cap] 24)).cell? ⟨u.val.heap.size, 0, none⟩ = some (.int .i64 n) := T0.c0
  have p1 : (u.val.alloc (.cells #[.int .i64 n, .slice a l.length cap] 24)).cell? ⟨u.val.heap.size, 1, none⟩ = some (.slice a l.length cap) := T0.c1
  have K0 := Lib.hid (show Calls Try.prog 178 #[.agg #[.int .i64 n, .slice a l.length cap]] (u.val.alloc (.cells #[.int .i64 n, .slice a l.length cap] 24)) _ from c_flatsOf_no (Later.self (u.val.alloc (.cells #[.int .i64 n, .slice a l.length cap] 24))) n l a cap e (h.to (u.alloc _)) hlen he h0)
  have d0 : (e != 0) = true := by rw [bne_iff_ne]; exact h0
  clear h hlen he T0 h0
  go_enter Try.func80, Try.ntmps80
  go_wp2_with (first | (go_at_call 178; (with_reducible refine (K0.out).mono ?_); rintro e _ ⟨rfl, v1, rfl⟩))
  go_ret2
  exact Ret.of (HV.out (v1.alloc _)) rfl
set_option maxRecDepth 100000 in
set_option maxHeartbeats 4000000 in
theorem c_flChains_no {B : Nat} {W : World} (u : Later B W) (n : Int) (l : List Int) (a : Option Addr) (cap : Nat) (e : Int) (h : IntsAt B W a l) (hlen : l.length ≤ 4611686018427387904) (he : MatIs n l e) (h0 : e ≠ 0) :
    Calls Try.prog 79 #[.agg #[.int .i64 n, .slice a l.length cap]] u.val (Ret B W (.tuple #[.int .i64 0, .int .i64 e])) := by
  have T0 : Two (u.val.alloc (.cells #[.int .i64 n, .slice a l.length cap] 24)) u.val.heap.size 24 (.int .i64 n) (.slice a l.length cap) := Two.new _ _ _ _
  have HV : Hid (∀ v : Later (u.val.alloc (.cells #[.int .i64 n, .slice a l.length cap] 24)).heap.size (u.val.alloc (.cells #[.int .i64 n, .slice a l.length cap] 24)), ∃ w : Later B W, w.val = v.val) := Lib.hid (fun v => ⟨(u.alloc _).up v, rfl⟩)
  have p0 : (u.val.alloc (.cells #[.int .i64 n, .slice a l.length cap] 24)).cell? ⟨u.val.heap.size, 0, none⟩ = some (.int .i64 n) := T0.c0
  have p1 : (u.val.alloc (.cells #[.int .i64 n, .slice a l.length cap] 24)).cell? ⟨u.val.heap.size, 1, none⟩ = some (.slice a l.length cap) := T0.c1
  have K0 := Lib.hid (show Calls Try.prog 178 #[.agg #[.int .i64 n, .slice a l.length cap]] (u.val.alloc (.cells #[.int .i64 n, .slice a l.length cap] 24)) _ from c_flatsOf_no (Later.self (u.val.alloc (.cells #[.int .i64 n, .slice a l.length cap] 24))) n l a cap e (h.to (u.alloc _)) hlen he h0)
  have d0 : (e != 0) = true := by rw [bne_iff_ne]; exact h0
  clear h hlen he T0 h0
  go_enter Try.func79, Try.ntmps79
  go_wp2_with (first | (go_at_call 178; (with_reducible refine (K0.out).mono ?_); rintro e _ ⟨rfl, v1, rfl⟩))
  go_ret2
  exact Ret.of (HV.out (v1.alloc _)) rfl

set_option maxRecDepth 100000 in
set_option maxHeartbeats 4000000 in
theorem c_flCovers_bad {B : Nat} {W : World} (u : Later B W) (m : Nat) (hm : m ≤ 8) (f : Int) (l : List Int) (a : Option Addr) (cap : Nat) (h : IntsAt B W a l) (hlen : l.length ≤ 4611686018427387904) (he : MatIs (m : Int) l 0) (hf : f ∉ ints (those m (flatP m (toN l)))) :
    Calls Try.prog 78 #[.agg #[.int .i64 m, .slice a l.length cap], .int .i64 f] u.val (RetP B W (ListE [] 1)) := by
  have hbm := bit_le m hm
  have T0 : Two (u.val.alloc (.cells #[.int .i64 m, .slice a l.length cap] 24)) u.val.heap.size 24 (.int .i64 m) (.slice a l.length cap) := Two.new _ _ _ _
  have HV : Hid (∀ v : Later (u.val.alloc (.cells #[.int .i64 m, .slice a l.length cap] 24)).heap.size (u.val.alloc (.cells #[.int .i64 m, .slice a l.length cap] 24)), ∃ w : Later B W, w.val = v.val) := Lib.hid (fun v => ⟨(u.alloc _).up v, rfl⟩)
  have HB0 : Hid (B ≤ (u.val.alloc (.cells #[.int .i64 m, .slice a l.length cap] 24)).heap.size) := Lib.hid (by have := u.size; simp; omega)
  have q0 : ∀ w : Later (u.val.alloc (.cells #[.int .i64 m, .slice a l.length cap] 24)).heap.size (u.val.alloc (.cells #[.int .i64 m, .slice a l.length cap] 24)), w.val.cell? ⟨u.val.heap.size, 0, none⟩ = some (.int .i64 m) := fun w => (T0.keep w.below).c0
  have p0 : (u.val.alloc (.cells #[.int .i64 m, .slice a l.length cap] 24)).cell? ⟨u.val.heap.size, 0, none⟩ = some (.int .i64 m) := T0.c0
  have p1 : (u.val.alloc (.cells #[.int .i64 m, .slice a l.length cap] 24)).cell? ⟨u.val.heap.size, 1, none⟩ = some (.slice a l.length cap) := T0.c1
  have K0 := Lib.hid (show Calls Try.prog 178 #[.agg #[.int .i64 m, .slice a l.length cap]] (u.val.alloc (.cells #[.int .i64 m, .slice a l.length cap] 24)) _ from c_flatsOf (Later.self (u.val.alloc (.cells #[.int .i64 m, .slice a l.length cap] 24))) m hm l a cap (h.to (u.alloc _)) hlen he)
  clear h hlen he T0
  go_enter Try.func78, Try.ntmps78
  go_upto_region 2 with (first | (go_at_call 178; ((with_reducible refine (K0.out).mono ?_); rintro e _ ⟨_, rfl, ⟨adF, cpF, g, c, rfl, hO, hT, hBg⟩, v1, rfl⟩)))
  have TY : RowL (v1.val.alloc (.cells #[.int .i64 m, .slice a l.length cap, .slice adF (ints (those m (flatP m (toN l)))).length cpF, .slice (some ⟨g, 0, none⟩) (bit m) c] 115)) v1.val.heap.size 115 [.int .i64 m, .slice a l.length cap, .slice adF (ints (those m (flatP m (toN l)))).length cpF, .slice (some ⟨g, 0, none⟩) (bit m) c] := RowL.new _ _ _
  have s0 : ∀ w : Later (v1.val.alloc (.cells #[.int .i64 m, .slice a l.length cap, .slice adF (ints (those m (flatP m (toN l)))).length cpF, .slice (some ⟨g, 0, none⟩) (bit m) c] 115)).heap.size (v1.val.alloc (.cells #[.int .i64 m, .slice a l.length cap, .slice adF (ints (those m (flatP m (toN l)))).length cpF, .slice (some ⟨g, 0, none⟩) (bit m) c] 115)), w.val.cell? ⟨v1.val.heap.size, 0, none⟩ = some (.int .i64 m) := fun w => (TY.keep w.below).cell rfl
  have s1 : ∀ w : Later (v1.val.alloc (.cells #[.int .i64 m, .slice a l.length cap, .slice adF (ints (those m (flatP m (toN l)))).length cpF, .slice (some ⟨g, 0, none⟩) (bit m) c] 115)).heap.size (v1.val.alloc (.cells #[.int .i64 m, .slice a l.length cap, .slice adF (ints (those m (flatP m (toN l)))).length cpF, .slice (some ⟨g, 0, none⟩) (bit m) c] 115)), w.val.cell? ⟨v1.val.heap.size, 1, none⟩ = some (.slice a l.length cap) := fun w => (TY.keep w.below).cell rfl
  have s2 : ∀ w : Later (v1.val.alloc (.cells #[.int .i64 m, .slice a l.length cap, .slice adF (ints (those m (flatP m (toN l)))).length cpF, .slice (some ⟨g, 0, none⟩) (bit m) c] 115)).heap.size (v1.val.alloc (.cells #[.int .i64 m, .slice a l.length cap, .slice adF (ints (those m (flatP m (toN l)))).length cpF, .slice (some ⟨g, 0, none⟩) (bit m) c] 115)), w.val.cell? ⟨v1.val.heap.size, 2, none⟩ = some (.slice adF (ints (those m (flatP m (toN l)))).length cpF) := fun w => (TY.keep w.below).cell rfl
  have s3 : ∀ w : Later (v1.val.alloc (.cells #[.int .i64 m, .slice a l.length cap, .slice adF (ints (those m (flatP m (toN l)))).length cpF, .slice (some ⟨g, 0, none⟩) (bit m) c] 115)).heap.size (v1.val.alloc (.cells #[.int .i64 m, .slice a l.length cap, .slice adF (ints (those m (flatP m (toN l)))).length cpF, .slice (some ⟨g, 0, none⟩) (bit m) c] 115)), w.val.cell? ⟨v1.val.heap.size, 3, none⟩ = some (.slice (some ⟨g, 0, none⟩) (bit m) c) := fun w => (TY.keep w.below).cell rfl
  have hcp := hO.le
  have HIF : Hid (IntsAt (v1.val.alloc (.cells #[.int .i64 m, .slice a l.length cap, .slice adF (ints (those m (flatP m (toN l)))).length cpF, .slice (some ⟨g, 0, none⟩) (bit m) c] 115)).heap.size (v1.val.alloc (.cells #[.int .i64 m, .slice a l.length cap, .slice adF (ints (those m (flatP m (toN l)))).length cpF, .slice (some ⟨g, 0, none⟩) (bit m) c] 115)) adF (ints (those m (flatP m (toN l))))) := Lib.hid (hO.reads.to ((Later.self v1.val).alloc _))
  have HT : Hid (ITab (v1.val.alloc (.cells #[.int .i64 m, .slice a l.length cap, .slice adF (ints (those m (flatP m (toN l)))).length cpF, .slice (some ⟨g, 0, none⟩) (bit m) c] 115)) g (bit m) (fun j => (rk (toN l) j : Int))) := Lib.hid (hT.keep ((Below.refl _ _).alloc (Nat.le_refl _) _))
  have hgY : g < (v1.val.alloc (.cells #[.int .i64 m, .slice a l.length cap, .slice adF (ints (those m (flatP m (toN l)))).length cpF, .slice (some ⟨g, 0, none⟩) (bit m) c] 115)).heap.size := HT.out.lt
  have HVY : Hid (∀ v : Later (v1.val.alloc (.cells #[.int .i64 m, .slice a l.length cap, .slice adF (ints (those m (flatP m (toN l)))).length cpF, .slice (some ⟨g, 0, none⟩) (bit m) c] 115)).heap.size (v1.val.alloc (.cells #[.int .i64 m, .slice a l.length cap, .slice adF (ints (those m (flatP m (toN l)))).length cpF, .slice (some ⟨g, 0, none⟩) (bit m) c] 115)), ∃ w : Later B W, w.val = v.val) := Lib.hid (fun v => HV.out ((v1.alloc _).up v))
  have HBY : Hid (B ≤ (v1.val.alloc (.cells #[.int .i64 m, .slice a l.length cap, .slice adF (ints (those m (flatP m (toN l)))).length cpF, .slice (some ⟨g, 0, none⟩) (bit m) c] 115)).heap.size) := Lib.hid (by obtain ⟨w, hw⟩ := HV.out (v1.alloc (.cells #[.int .i64 m, .slice a l.length cap, .slice adF (ints (those m (flatP m (toN l)))).length cpF, .slice (some ⟨g, 0, none⟩) (bit m) c] 115)); have := w.size; rw [hw] at this; exact this)
  have r0 : ∀ w : Later (v1.val.alloc (.cells #[.int .i64 m, .slice a l.length cap, .slice adF (ints (those m (flatP m (toN l)))).length cpF, .slice (some ⟨g, 0, none⟩) (bit m) c] 115)).heap.size (v1.val.alloc (.cells #[.int .i64 m, .slice a l.length cap, .slice adF (ints (those m (flatP m (toN l)))).length cpF, .slice (some ⟨g, 0, none⟩) (bit m) c] 115)), w.val.cell? ⟨u.val.heap.size, 0, none⟩ = some (.int .i64 m) := fun w => q0 ((v1.alloc _).up w)
  clear K0 HV HB0 q0 p0 p1 TY hO hT hBg
  generalize v1.val.heap.size = gl at *
  generalize (v1.val.alloc (.cells #[.int .i64 m, .slice a l.length cap, .slice adF (ints (those m (flatP m (toN l)))).length cpF, .slice (some ⟨g, 0, none⟩) (bit m) c] 115)) = Y at *
  obtain ⟨y, hy⟩ : ∃ y : Later Y.heap.size Y, y.val = Y := ⟨Later.self _, rfl⟩
  rw [← hy]
  clear hy
  have hFl : (ints (those m (flatP m (toN l)))).length ≤ 256 := by rw [ints_len]; have := thoseTo_len (flatP m (toN l)) (bit m); have e : those m (flatP m (toN l)) = thoseTo (flatP m (toN l)) (bit m) := rfl; rw [e]; omega
  have KH : Hid (∀ v : Later Y.heap.size Y, Calls Try.prog 171 #[.slice adF (ints (those m (flatP m (toN l)))).length cpF, .int .i64 f] v.val (Ret Y.heap.size Y (.bool false))) := Lib.hid (fun v => by
    have := c_contains v (ints (those m (flatP m (toN l)))) f adF cpF HIF.out (by omega)
    rwa [decide_eq_false hf] at this)
  clear hf HIF hFl hcp
  generalize (ints (those m (flatP m (toN l)))).length = nF at *
  go_wp2_with (first | (go_at_call 171; (with_reducible refine (KH.out _).mono ?_); rintro e _ ⟨rfl, y, rfl⟩))
  go_ret2
  exact RetP.of (HVY.out y) ListE.no
set_option maxRecDepth 100000 in
set_option maxHeartbeats 4000000 in
theorem c_flModular_bad {B : Nat} {W : World} (u : Later B W) (m : Nat) (hm : m ≤ 8) (f : Int) (l : List Int) (a : Option Addr) (cap : Nat) (h : IntsAt B W a l) (hlen : l.length ≤ 4611686018427387904) (he : MatIs (m : Int) l 0) (hf : f ∉ ints (those m (flatP m (toN l)))) :
    Calls Try.prog 80 #[.agg #[.int .i64 m, .slice a l.length cap], .int .i64 f] u.val (Ret B W (.tuple #[.bool false, .int .i64 1])) := by
  have hbm := bit_le m hm
  have T0 : Two (u.val.alloc (.cells #[.int .i64 m, .slice a l.length cap] 24)) u.val.heap.size 24 (.int .i64 m) (.slice a l.length cap) := Two.new _ _ _ _
  have HV : Hid (∀ v : Later (u.val.alloc (.cells #[.int .i64 m, .slice a l.length cap] 24)).heap.size (u.val.alloc (.cells #[.int .i64 m, .slice a l.length cap] 24)), ∃ w : Later B W, w.val = v.val) := Lib.hid (fun v => ⟨(u.alloc _).up v, rfl⟩)
  have HB0 : Hid (B ≤ (u.val.alloc (.cells #[.int .i64 m, .slice a l.length cap] 24)).heap.size) := Lib.hid (by have := u.size; simp; omega)
  have q0 : ∀ w : Later (u.val.alloc (.cells #[.int .i64 m, .slice a l.length cap] 24)).heap.size (u.val.alloc (.cells #[.int .i64 m, .slice a l.length cap] 24)), w.val.cell? ⟨u.val.heap.size, 0, none⟩ = some (.int .i64 m) := fun w => (T0.keep w.below).c0
  have p0 : (u.val.alloc (.cells #[.int .i64 m, .slice a l.length cap] 24)).cell? ⟨u.val.heap.size, 0, none⟩ = some (.int .i64 m) := T0.c0
  have p1 : (u.val.alloc (.cells #[.int .i64 m, .slice a l.length cap] 24)).cell? ⟨u.val.heap.size, 1, none⟩ = some (.slice a l.length cap) := T0.c1
  have K0 := Lib.hid (show Calls Try.prog 178 #[.agg #[.int .i64 m, .slice a l.length cap]] (u.val.alloc (.cells #[.int .i64 m, .slice a l.length cap] 24)) _ from c_flatsOf (Later.self (u.val.alloc (.cells #[.int .i64 m, .slice a l.length cap] 24))) m hm l a cap (h.to (u.alloc _)) hlen he)
  clear h hlen he T0
  go_enter Try.func80, Try.ntmps80
  go_upto_region 2 with (first | (go_at_call 178; ((with_reducible refine (K0.out).mono ?_); rintro e _ ⟨_, rfl, ⟨adF, cpF, g, c, rfl, hO, hT, hBg⟩, v1, rfl⟩)))
  have TY : RowL (v1.val.alloc (.cells #[.int .i64 m, .slice a l.length cap, .slice adF (ints (those m (flatP m (toN l)))).length cpF, .slice (some ⟨g, 0, none⟩) (bit m) c] 115)) v1.val.heap.size 115 [.int .i64 m, .slice a l.length cap, .slice adF (ints (those m (flatP m (toN l)))).length cpF, .slice (some ⟨g, 0, none⟩) (bit m) c] := RowL.new _ _ _
  have s0 : ∀ w : Later (v1.val.alloc (.cells #[.int .i64 m, .slice a l.length cap, .slice adF (ints (those m (flatP m (toN l)))).length cpF, .slice (some ⟨g, 0, none⟩) (bit m) c] 115)).heap.size (v1.val.alloc (.cells #[.int .i64 m, .slice a l.length cap, .slice adF (ints (those m (flatP m (toN l)))).length cpF, .slice (some ⟨g, 0, none⟩) (bit m) c] 115)), w.val.cell? ⟨v1.val.heap.size, 0, none⟩ = some (.int .i64 m) := fun w => (TY.keep w.below).cell rfl
  have s1 : ∀ w : Later (v1.val.alloc (.cells #[.int .i64 m, .slice a l.length cap, .slice adF (ints (those m (flatP m (toN l)))).length cpF, .slice (some ⟨g, 0, none⟩) (bit m) c] 115)).heap.size (v1.val.alloc (.cells #[.int .i64 m, .slice a l.length cap, .slice adF (ints (those m (flatP m (toN l)))).length cpF, .slice (some ⟨g, 0, none⟩) (bit m) c] 115)), w.val.cell? ⟨v1.val.heap.size, 1, none⟩ = some (.slice a l.length cap) := fun w => (TY.keep w.below).cell rfl
  have s2 : ∀ w : Later (v1.val.alloc (.cells #[.int .i64 m, .slice a l.length cap, .slice adF (ints (those m (flatP m (toN l)))).length cpF, .slice (some ⟨g, 0, none⟩) (bit m) c] 115)).heap.size (v1.val.alloc (.cells #[.int .i64 m, .slice a l.length cap, .slice adF (ints (those m (flatP m (toN l)))).length cpF, .slice (some ⟨g, 0, none⟩) (bit m) c] 115)), w.val.cell? ⟨v1.val.heap.size, 2, none⟩ = some (.slice adF (ints (those m (flatP m (toN l)))).length cpF) := fun w => (TY.keep w.below).cell rfl
  have s3 : ∀ w : Later (v1.val.alloc (.cells #[.int .i64 m, .slice a l.length cap, .slice adF (ints (those m (flatP m (toN l)))).length cpF, .slice (some ⟨g, 0, none⟩) (bit m) c] 115)).heap.size (v1.val.alloc (.cells #[.int .i64 m, .slice a l.length cap, .slice adF (ints (those m (flatP m (toN l)))).length cpF, .slice (some ⟨g, 0, none⟩) (bit m) c] 115)), w.val.cell? ⟨v1.val.heap.size, 3, none⟩ = some (.slice (some ⟨g, 0, none⟩) (bit m) c) := fun w => (TY.keep w.below).cell rfl
  have hcp := hO.le
  have HIF : Hid (IntsAt (v1.val.alloc (.cells #[.int .i64 m, .slice a l.length cap, .slice adF (ints (those m (flatP m (toN l)))).length cpF, .slice (some ⟨g, 0, none⟩) (bit m) c] 115)).heap.size (v1.val.alloc (.cells #[.int .i64 m, .slice a l.length cap, .slice adF (ints (those m (flatP m (toN l)))).length cpF, .slice (some ⟨g, 0, none⟩) (bit m) c] 115)) adF (ints (those m (flatP m (toN l))))) := Lib.hid (hO.reads.to ((Later.self v1.val).alloc _))
  have HT : Hid (ITab (v1.val.alloc (.cells #[.int .i64 m, .slice a l.length cap, .slice adF (ints (those m (flatP m (toN l)))).length cpF, .slice (some ⟨g, 0, none⟩) (bit m) c] 115)) g (bit m) (fun j => (rk (toN l) j : Int))) := Lib.hid (hT.keep ((Below.refl _ _).alloc (Nat.le_refl _) _))
  have hgY : g < (v1.val.alloc (.cells #[.int .i64 m, .slice a l.length cap, .slice adF (ints (those m (flatP m (toN l)))).length cpF, .slice (some ⟨g, 0, none⟩) (bit m) c] 115)).heap.size := HT.out.lt
  have HVY : Hid (∀ v : Later (v1.val.alloc (.cells #[.int .i64 m, .slice a l.length cap, .slice adF (ints (those m (flatP m (toN l)))).length cpF, .slice (some ⟨g, 0, none⟩) (bit m) c] 115)).heap.size (v1.val.alloc (.cells #[.int .i64 m, .slice a l.length cap, .slice adF (ints (those m (flatP m (toN l)))).length cpF, .slice (some ⟨g, 0, none⟩) (bit m) c] 115)), ∃ w : Later B W, w.val = v.val) := Lib.hid (fun v => HV.out ((v1.alloc _).up v))
  have HBY : Hid (B ≤ (v1.val.alloc (.cells #[.int .i64 m, .slice a l.length cap, .slice adF (ints (those m (flatP m (toN l)))).length cpF, .slice (some ⟨g, 0, none⟩) (bit m) c] 115)).heap.size) := Lib.hid (by obtain ⟨w, hw⟩ := HV.out (v1.alloc (.cells #[.int .i64 m, .slice a l.length cap, .slice adF (ints (those m (flatP m (toN l)))).length cpF, .slice (some ⟨g, 0, none⟩) (bit m) c] 115)); have := w.size; rw [hw] at this; exact this)
  have r0 : ∀ w : Later (v1.val.alloc (.cells #[.int .i64 m, .slice a l.length cap, .slice adF (ints (those m (flatP m (toN l)))).length cpF, .slice (some ⟨g, 0, none⟩) (bit m) c] 115)).heap.size (v1.val.alloc (.cells #[.int .i64 m, .slice a l.length cap, .slice adF (ints (those m (flatP m (toN l)))).length cpF, .slice (some ⟨g, 0, none⟩) (bit m) c] 115)), w.val.cell? ⟨u.val.heap.size, 0, none⟩ = some (.int .i64 m) := fun w => q0 ((v1.alloc _).up w)
  clear K0 HV HB0 q0 p0 p1 TY hO hT hBg
  generalize v1.val.heap.size = gl at *
  generalize (v1.val.alloc (.cells #[.int .i64 m, .slice a l.length cap, .slice adF (ints (those m (flatP m (toN l)))).length cpF, .slice (some ⟨g, 0, none⟩) (bit m) c] 115)) = Y at *
  obtain ⟨y, hy⟩ : ∃ y : Later Y.heap.size Y, y.val = Y := ⟨Later.self _, rfl⟩
  rw [← hy]
  clear hy
  have hFl : (ints (those m (flatP m (toN l)))).length ≤ 256 := by rw [ints_len]; have := thoseTo_len (flatP m (toN l)) (bit m); have e : those m (flatP m (toN l)) = thoseTo (flatP m (toN l)) (bit m) := rfl; rw [e]; omega
  have KH : Hid (∀ v : Later Y.heap.size Y, Calls Try.prog 171 #[.slice adF (ints (those m (flatP m (toN l)))).length cpF, .int .i64 f] v.val (Ret Y.heap.size Y (.bool false))) := Lib.hid (fun v => by
    have := c_contains v (ints (those m (flatP m (toN l)))) f adF cpF HIF.out (by omega)
    rwa [decide_eq_false hf] at this)
  clear hf HIF hFl hcp
  generalize (ints (those m (flatP m (toN l)))).length = nF at *
  go_wp2_with (first | (go_at_call 171; (with_reducible refine (KH.out _).mono ?_); rintro e _ ⟨rfl, y, rfl⟩))
  go_ret2
  exact Ret.of (HVY.out y) rfl

/-- of the first k flats those that cover f -/
def covTo (F L : List Nat) (f k : Nat) : List Nat := (F.take k).filter (fun g => decide (g &&& f = f ∧ rk L g = rk L f + 1))
theorem covTo_step {F L : List Nat} {f k : Nat} (hk : k < F.length) : covTo F L f (k + 1) = if F.getD k 0 &&& f = f ∧ rk L (F.getD k 0) = rk L f + 1 then covTo F L f k ++ [F.getD k 0] else covTo F L f k := by
  unfold covTo
  rw [List.take_add_one, List.getElem?_eq_getElem hk, List.filter_append]
  have : F.getD k 0 = F[k] := by simp [hk]
  rw [this]
  by_cases h : F[k] &&& f = f ∧ rk L F[k] = rk L f + 1
  · rw [if_pos h]; simp [h]
  · rw [if_neg h]; simp [h]
theorem covTo_len (F L : List Nat) (f k : Nat) : (covTo F L f k).length ≤ F.length := by
  unfold covTo
  have := List.length_filter_le (fun g => decide (g &&& f = f ∧ rk L g = rk L f + 1)) (F.take k)
  have := List.length_take_le' k F
  omega
theorem covTo_all (m : Nat) (L : List Nat) (f : Nat) : covTo (those m (flatP m L)) L f (those m (flatP m L)).length = those m (covP m L f) := by
  unfold covTo those covP
  rw [List.take_length, List.filter_filter]
  refine List.filter_congr (fun x _ => ?_)
  rw [Bool.and_comm]

set_option maxRecDepth 100000 in
set_option maxHeartbeats 8000000 in
theorem c_flCovers {B : Nat} {W : World} (u : Later B W) (m : Nat) (hm : m ≤ 8) (f : Nat) (l : List Int) (a : Option Addr) (cap : Nat) (h : IntsAt B W a l) (hlen : l.length ≤ 4611686018427387904) (he : MatIs (m : Int) l 0) (hf : f ∈ those m (flatP m (toN l))) :
    Calls Try.prog 78 #[.agg #[.int .i64 m, .slice a l.length cap], .int .i64 f] u.val (RetP B W (ListE (ints (those m (covP m (toN l) f))) 0)) := by
  have hfb := (mem_those.1 hf).1
  have hbm := bit_le m hm
  have T0 : Two (u.val.alloc (.cells #[.int .i64 m, .slice a l.length cap] 24)) u.val.heap.size 24 (.int .i64 m) (.slice a l.length cap) := Two.new _ _ _ _
  have HV : Hid (∀ v : Later (u.val.alloc (.cells #[.int .i64 m, .slice a l.length cap] 24)).heap.size (u.val.alloc (.cells #[.int .i64 m, .slice a l.length cap] 24)), ∃ w : Later B W, w.val = v.val) := Lib.hid (fun v => ⟨(u.alloc _).up v, rfl⟩)
  have HB0 : Hid (B ≤ (u.val.alloc (.cells #[.int .i64 m, .slice a l.length cap] 24)).heap.size) := Lib.hid (by have := u.size; simp; omega)
  have q0 : ∀ w : Later (u.val.alloc (.cells #[.int .i64 m, .slice a l.length cap] 24)).heap.size (u.val.alloc (.cells #[.int .i64 m, .slice a l.length cap] 24)), w.val.cell? ⟨u.val.heap.size, 0, none⟩ = some (.int .i64 m) := fun w => (T0.keep w.below).c0
  have p0 : (u.val.alloc (.cells #[.int .i64 m, .slice a l.length cap] 24)).cell? ⟨u.val.heap.size, 0, none⟩ = some (.int .i64 m) := T0.c0
  have p1 : (u.val.alloc (.cells #[.int .i64 m, .slice a l.length cap] 24)).cell? ⟨u.val.heap.size, 1, none⟩ = some (.slice a l.length cap) := T0.c1
  have K0 := Lib.hid (show Calls Try.prog 178 #[.agg #[.int .i64 m, .slice a l.length cap]] (u.val.alloc (.cells #[.int .i64 m, .slice a l.length cap] 24)) _ from c_flatsOf (Later.self (u.val.alloc (.cells #[.int .i64 m, .slice a l.length cap] 24))) m hm l a cap (h.to (u.alloc _)) hlen he)
  clear h hlen he T0
  go_enter Try.func78, Try.ntmps78
  go_upto_region 2 with (first | (go_at_call 178; ((with_reducible refine (K0.out).mono ?_); rintro e _ ⟨_, rfl, ⟨adF, cpF, g, c, rfl, hO, hT, hBg⟩, v1, rfl⟩)))
  have TY : RowL (v1.val.alloc (.cells #[.int .i64 m, .slice a l.length cap, .slice adF (ints (those m (flatP m (toN l)))).length cpF, .slice (some ⟨g, 0, none⟩) (bit m) c] 115)) v1.val.heap.size 115 [.int .i64 m, .slice a l.length cap, .slice adF (ints (those m (flatP m (toN l)))).length cpF, .slice (some ⟨g, 0, none⟩) (bit m) c] := RowL.new _ _ _
  have s0 : ∀ w : Later (v1.val.alloc (.cells #[.int .i64 m, .slice a l.length cap, .slice adF (ints (those m (flatP m (toN l)))).length cpF, .slice (some ⟨g, 0, none⟩) (bit m) c] 115)).heap.size (v1.val.alloc (.cells #[.int .i64 m, .slice a l.length cap, .slice adF (ints (those m (flatP m (toN l)))).length cpF, .slice (some ⟨g, 0, none⟩) (bit m) c] 115)), w.val.cell? ⟨v1.val.heap.size, 0, none⟩ = some (.int .i64 m) := fun w => (TY.keep w.below).cell rfl
  have s1 : ∀ w : Later (v1.val.alloc (.cells #[.int .i64 m, .slice a l.length cap, .slice adF (ints (those m (flatP m (toN l)))).length cpF, .slice (some ⟨g, 0, none⟩) (bit m) c] 115)).heap.size (v1.val.alloc (.cells #[.int .i64 m, .slice a l.length cap, .slice adF (ints (those m (flatP m (toN l)))).length cpF, .slice (some ⟨g, 0, none⟩) (bit m) c] 115)), w.val.cell? ⟨v1.val.heap.size, 1, none⟩ = some (.slice a l.length cap) := fun w => (TY.keep w.below).cell rfl
  have s2 : ∀ w : Later (v1.val.alloc (.cells #[.int .i64 m, .slice a l.length cap, .slice adF (ints (those m (flatP m (toN l)))).length cpF, .slice (some ⟨g, 0, none⟩) (bit m) c] 115)).heap.size (v1.val.alloc (.cells #[.int .i64 m, .slice a l.length cap, .slice adF (ints (those m (flatP m (toN l)))).length cpF, .slice (some ⟨g, 0, none⟩) (bit m) c] 115)), w.val.cell? ⟨v1.val.heap.size, 2, none⟩ = some (.slice adF (ints (those m (flatP m (toN l)))).length cpF) := fun w => (TY.keep w.below).cell rfl
  have s3 : ∀ w : Later (v1.val.alloc (.cells #[.int .i64 m, .slice a l.length cap, .slice adF (ints (those m (flatP m (toN l)))).length cpF, .slice (some ⟨g, 0, none⟩) (bit m) c] 115)).heap.size (v1.val.alloc (.cells #[.int .i64 m, .slice a l.length cap, .slice adF (ints (those m (flatP m (toN l)))).length cpF, .slice (some ⟨g, 0, none⟩) (bit m) c] 115)), w.val.cell? ⟨v1.val.heap.size, 3, none⟩ = some (.slice (some ⟨g, 0, none⟩) (bit m) c) := fun w => (TY.keep w.below).cell rfl
  have hcp := hO.le
  have HIF : Hid (IntsAt (v1.val.alloc (.cells #[.int .i64 m, .slice a l.length cap, .slice adF (ints (those m (flatP m (toN l)))).length cpF, .slice (some ⟨g, 0, none⟩) (bit m) c] 115)).heap.size (v1.val.alloc (.cells #[.int .i64 m, .slice a l.length cap, .slice adF (ints (those m (flatP m (toN l)))).length cpF, .slice (some ⟨g, 0, none⟩) (bit m) c] 115)) adF (ints (those m (flatP m (toN l))))) := Lib.hid (hO.reads.to ((Later.self v1.val).alloc _))
  have HT : Hid (ITab (v1.val.alloc (.cells #[.int .i64 m, .slice a l.length cap, .slice adF (ints (those m (flatP m (toN l)))).length cpF, .slice (some ⟨g, 0, none⟩) (bit m) c] 115)) g (bit m) (fun j => (rk (toN l) j : Int))) := Lib.hid (hT.keep ((Below.refl _ _).alloc (Nat.le_refl _) _))
  have hgY : g < (v1.val.alloc (.cells #[.int .i64 m, .slice a l.length cap, .slice adF (ints (those m (flatP m (toN l)))).length cpF, .slice (some ⟨g, 0, none⟩) (bit m) c] 115)).heap.size := HT.out.lt
  have HVY : Hid (∀ v : Later (v1.val.alloc (.cells #[.int .i64 m, .slice a l.length cap, .slice adF (ints (those m (flatP m (toN l)))).length cpF, .slice (some ⟨g, 0, none⟩) (bit m) c] 115)).heap.size (v1.val.alloc (.cells #[.int .i64 m, .slice a l.length cap, .slice adF (ints (those m (flatP m (toN l)))).length cpF, .slice (some ⟨g, 0, none⟩) (bit m) c] 115)), ∃ w : Later B W, w.val = v.val) := Lib.hid (fun v => HV.out ((v1.alloc _).up v))
  have HBY : Hid (B ≤ (v1.val.alloc (.cells #[.int .i64 m, .slice a l.length cap, .slice adF (ints (those m (flatP m (toN l)))).length cpF, .slice (some ⟨g, 0, none⟩) (bit m) c] 115)).heap.size) := Lib.hid (by obtain ⟨w, hw⟩ := HV.out (v1.alloc (.cells #[.int .i64 m, .slice a l.length cap, .slice adF (ints (those m (flatP m (toN l)))).length cpF, .slice (some ⟨g, 0, none⟩) (bit m) c] 115)); have := w.size; rw [hw] at this; exact this)
  have r0 : ∀ w : Later (v1.val.alloc (.cells #[.int .i64 m, .slice a l.length cap, .slice adF (ints (those m (flatP m (toN l)))).length cpF, .slice (some ⟨g, 0, none⟩) (bit m) c] 115)).heap.size (v1.val.alloc (.cells #[.int .i64 m, .slice a l.length cap, .slice adF (ints (those m (flatP m (toN l)))).length cpF, .slice (some ⟨g, 0, none⟩) (bit m) c] 115)), w.val.cell? ⟨u.val.heap.size, 0, none⟩ = some (.int .i64 m) := fun w => q0 ((v1.alloc _).up w)
  clear K0 HV HB0 q0 p0 p1 TY hO hT hBg
  generalize v1.val.heap.size = gl at *
  generalize (v1.val.alloc (.cells #[.int .i64 m, .slice a l.length cap, .slice adF (ints (those m (flatP m (toN l)))).length cpF, .slice (some ⟨g, 0, none⟩) (bit m) c] 115)) = Y at *
  obtain ⟨y, hy⟩ : ∃ y : Later Y.heap.size Y, y.val = Y := ⟨Later.self _, rfl⟩
  rw [← hy]
  clear hy
  have hFl : (those m (flatP m (toN l))).length ≤ 256 := by have := thoseTo_len (flatP m (toN l)) (bit m); have e : those m (flatP m (toN l)) = thoseTo (flatP m (toN l)) (bit m) := rfl; rw [e]; omega
  have HF8 : Hid (∀ i, i < (those m (flatP m (toN l))).length → (those m (flatP m (toN l))).getD i 0 < bit m) := Lib.hid (fun i hi => (those_at hi).1)
  have HCA := Lib.hid (covTo_all m (toN l) f)
  have KH : Hid (∀ v : Later Y.heap.size Y, Calls Try.prog 171 #[.slice adF (ints (those m (flatP m (toN l)))).length cpF, .int .i64 (f : Int)] v.val (Ret Y.heap.size Y (.bool true))) := Lib.hid (fun v => by
    have := c_contains v (ints (those m (flatP m (toN l)))) (f : Int) adF cpF HIF.out (by rw [ints_len]; omega)
    rwa [decide_eq_true (mem_ints.2 hf)] at this)
  clear hf hcp
  rw [ints_len] at *
  generalize those m (flatP m (toN l)) = F at *
  generalize toN l = L at *
  go_wp2_with (first | (go_at_call 171; (with_reducible refine (KH.out _).mono ?_); rintro e _ ⟨rfl, y, rfl⟩))
  clear KH
  go_loopw [8, 27] (fun o i wr => ∃ (k : Nat) (ad2 : Option Addr) (cp2 : Nat) (v : Later Y.heap.size Y), k ≤ F.length ∧ i = .int .i64 k ∧ o = .slice ad2 (ints (covTo F L f k)).length cp2 ∧ wr = v.val ∧ Hid (Own Y.heap.size v.val ad2 cp2 (ints (covTo F L f k)))) (fun _ i _ => F.length - (intOf i).toNat)
  case atStart => exact ⟨0, none, 0, y, by omega, rfl, rfl, rfl, Lib.hid (Own.nil _ _)⟩
  case round =>
    clear y
    obtain ⟨k, ad2, cp2, v, hk, rfl, rfl, rfl, HO⟩ := hrel
    by_cases hlt : k < F.length
    · obtain ⟨bb, off, rfl, hbB, hcell⟩ := HIF.out.at (k := k) (by rw [ints_len]; exact hlt)
      have hfk := HF8.out k hlt
      have HS := Lib.hid (covTo_step (L := L) (f := f) hlt)
      have HL : Hid ((ints (covTo F L f k)).length ≤ 256) := Lib.hid (by rw [ints_len]; have := covTo_len F L f k; omega)
      have HTv : Hid (ITab v.val g (bit m) (fun j => (rk L j : Int))) := Lib.hid (HT.out.keep_at v.below hgY)
      have c0 : ∀ w : Later v.val.heap.size v.val, w.val.cell? ⟨bb, off + k, none⟩ = some (.int .i64 ((F.getD k 0 : Nat) : Int)) := fun w => by rw [← ints_getD]; exact hcell (v.up w) k (by rw [ints_len]; exact hlt)
      have c1 : ∀ w : Later v.val.heap.size v.val, w.val.cell? ⟨g, F.getD k 0, none⟩ = some (.int .i64 (rk L (F.getD k 0) : Int)) := fun w => (HTv.out.keep w.below).cell hfk
      have c2 : ∀ w : Later v.val.heap.size v.val, w.val.cell? ⟨g, f, none⟩ = some (.int .i64 (rk L f : Int)) := fun w => (HTv.out.keep w.below).cell hfb
      have t3 : ∀ w : Later v.val.heap.size v.val, w.val.cell? ⟨gl, 3, none⟩ = some (.slice (some ⟨g, 0, none⟩) (bit m) c) := fun w => s3 (v.up w)
      have o1 := i64_and (F.getD k 0) f (by omega) (by omega)
      have r1 := rk_le8 L (F.getD k 0)
      have r2 := rk_le8 L f
      have HOw : Hid (∀ w : Later v.val.heap.size v.val, Own Y.heap.size w.val ad2 cp2 (ints (covTo F L f k))) := Lib.hid (fun w => HO.out.keep w.below)
      clear hcell HO HTv
      generalize covTo F L f k = T at *
      obtain ⟨y, hy⟩ : ∃ y : Later v.val.heap.size v.val, y.val = v.val := ⟨Later.self _, rfl⟩
      rw [← hy]
      clear hy
      have HVy : Hid (∀ y : Later v.val.heap.size v.val, Below Y.heap.size Y y.val ∧ Y.heap.size ≤ y.val.heap.size) := Lib.hid (fun y => ⟨(v.up y).below, (v.up y).size⟩)
      by_cases h1 : F.getD k 0 &&& f = f
      case neg =>
        have d1 : (((F.getD k 0 &&& f : Nat) : Int) == (f : Int)) = false := by rw [beq_eq_false_iff_ne]; omega
        have HN : Hid (covTo F L f (k + 1) = T) := Lib.hid (by rw [HS.out, if_neg (fun h => h1 h.1)])
        clear h1 HS
        generalize F.getD k 0 &&& f = fk at *
        generalize rk L (F.getD k 0) = p at *
        generalize rk L f = q at *
        generalize F.getD k 0 = x at *
        go_wp2
        refine wp_region_later y (by kernel_rfl) (by kernel_rfl) (fun _ => ?_)
        repeat (first | go_big_quiet_step ((fail)) | (refine wpQuiet_step (fun K hK => ?_); go_simp; refine ⟨_, fun _ => rfl, ?_⟩; refine hK _ ?_; clear hK K))
        refine wpQuiet_nil ?_
        intro y
        go_wp2
        go_roundw
        case rel => exact ⟨k+1, ad2, cp2, v.up y, by omega, by go_num, by rw [HN.out], rfl, Lib.hid (by rw [HN.out]; exact HOw.out y)⟩
        case measure => simp [intOf]; omega
      have d1 : (((F.getD k 0 &&& f : Nat) : Int) == (f : Int)) = true := by rw [beq_iff_eq]; omega
      by_cases h2 : rk L (F.getD k 0) = rk L f + 1
      · have d2 : ((rk L (F.getD k 0) : Int) == (rk L f : Int) + 1) = true := by rw [beq_iff_eq]; omega
        have HN : Hid (covTo F L f (k + 1) = T ++ [F.getD k 0]) := Lib.hid (by rw [HS.out, if_pos ⟨h1, h2⟩])
        clear h1 h2 HS
        generalize F.getD k 0 &&& f = fk at *
        generalize rk L (F.getD k 0) = p at *
        generalize rk L f = q at *
        generalize F.getD k 0 = x at *
        go_wp2
        refine wp_region_later y (by kernel_rfl) (by kernel_rfl) (fun _ => ?_)
        repeat (first | go_big_quiet_step ((fail)) | (refine wpQuiet_step (fun K hK => ?_); go_simp; refine ⟨_, fun _ => rfl, ?_⟩; refine hK _ ?_; clear hK K))
        refine wpQuiet_nil ?_
        intro y
        go_wp2_with (first | (at_builtin; refine wpList_push (B := Y.heap.size) (W := Y) (w := y.val) (HVy.out y).1 (HVy.out y).2 rfl _ _ rfl (ints T) ad2 cp2 (x : Int) rfl (HOw.out y) rfl (by have := HL.out; omega) ?_; intro u2 ad3 cp3 hown))
        go_roundw
        case rel =>
          refine ⟨k+1, ad3, cp3, u2, by omega, by go_num, ?_, rfl, ?_⟩
          · rw [HN.out, ints_snoc]; simp
          · rw [HN.out, ints_snoc]; exact Lib.hid hown
        case measure => simp [intOf]; omega
      · have d2 : ((rk L (F.getD k 0) : Int) == (rk L f : Int) + 1) = false := by rw [beq_eq_false_iff_ne]; omega
        have HN : Hid (covTo F L f (k + 1) = T) := Lib.hid (by rw [HS.out, if_neg (fun h => h2 h.2)])
        clear h1 h2 HS
        generalize F.getD k 0 &&& f = fk at *
        generalize rk L (F.getD k 0) = p at *
        generalize rk L f = q at *
        generalize F.getD k 0 = x at *
        go_wp2
        refine wp_region_later y (by kernel_rfl) (by kernel_rfl) (fun _ => ?_)
        repeat (first | go_big_quiet_step ((fail)) | (refine wpQuiet_step (fun K hK => ?_); go_simp; refine ⟨_, fun _ => rfl, ?_⟩; refine hK _ ?_; clear hK K))
        refine wpQuiet_nil ?_
        intro y
        go_wp2
        go_roundw
        case rel => exact ⟨k+1, ad2, cp2, v.up y, by omega, by go_num, by rw [HN.out], rfl, Lib.hid (by rw [HN.out]; exact HOw.out y)⟩
        case measure => simp [intOf]; omega
    · have hke : Hid (k = F.length) := Lib.hid (by omega)
      go_wp2
      go_ret2
      rw [hke.out] at HO ⊢
      have HO2 := HO.out
      rw [HCA.out] at HO2 ⊢
      exact RetP.of (HVY.out v) ⟨_, rfl, Reads.of_own HO2⟩

/-- does a flat make modular pairs with all of some? -/
def modTo (F L : List Nat) (f k : Nat) : Bool := (F.take k).all (fun g => decide (rk L f + rk L g = rk L (f ||| g) + rk L (f &&& g)))
theorem modTo_iff {F L : List Nat} {f k : Nat} (hk : k ≤ F.length) : modTo F L f k = true ↔ ∀ i, i < k → rk L f + rk L (F.getD i 0) = rk L (f ||| F.getD i 0) + rk L (f &&& F.getD i 0) := by
  unfold modTo
  rw [List.all_eq_true]
  constructor
  · intro h i hi
    have hl : i < F.length := by omega
    have := h (F.getD i 0) (by
      rw [List.mem_take_iff_getElem]
      exact ⟨i, by omega, by simp [hl]⟩)
    simpa using this
  · intro h x hx
    rw [List.mem_take_iff_getElem] at hx
    obtain ⟨i, hi, e⟩ := hx
    have hl : i < F.length := by omega
    have := h i (by omega)
    rw [show F.getD i 0 = x by simp [hl]; exact e] at this
    simpa using this

set_option maxRecDepth 100000 in
set_option maxHeartbeats 8000000 in
theorem c_flModular {B : Nat} {W : World} (u : Later B W) (m : Nat) (hm : m ≤ 8) (f : Nat) (l : List Int) (a : Option Addr) (cap : Nat) (h : IntsAt B W a l) (hlen : l.length ≤ 4611686018427387904) (he : MatIs (m : Int) l 0) (hf : f ∈ those m (flatP m (toN l))) :
    Calls Try.prog 80 #[.agg #[.int .i64 m, .slice a l.length cap], .int .i64 f] u.val (Ret B W (.tuple #[.bool (modTo (those m (flatP m (toN l))) (toN l) f (those m (flatP m (toN l))).length), .int .i64 0])) := by
  have hfb := (mem_those.1 hf).1
  have hbm := bit_le m hm
  have T0 : Two (u.val.alloc (.cells #[.int .i64 m, .slice a l.length cap] 24)) u.val.heap.size 24 (.int .i64 m) (.slice a l.length cap) := Two.new _ _ _ _
  have HV : Hid (∀ v : Later (u.val.alloc (.cells #[.int .i64 m, .slice a l.length cap] 24)).heap.size (u.val.alloc (.cells #[.int .i64 m, .slice a l.length cap] 24)), ∃ w : Later B W, w.val = v.val) := Lib.hid (fun v => ⟨(u.alloc _).up v, rfl⟩)
  have HB0 : Hid (B ≤ (u.val.alloc (.cells #[.int .i64 m, .slice a l.length cap] 24)).heap.size) := Lib.hid (by have := u.size; simp; omega)
  have q0 : ∀ w : Later (u.val.alloc (.cells #[.int .i64 m, .slice a l.length cap] 24)).heap.size (u.val.alloc (.cells #[.int .i64 m, .slice a l.length cap] 24)), w.val.cell? ⟨u.val.heap.size, 0, none⟩ = some (.int .i64 m) := fun w => (T0.keep w.below).c0
  have p0 : (u.val.alloc (.cells #[.int .i64 m, .slice a l.length cap] 24)).cell? ⟨u.val.heap.size, 0, none⟩ = some (.int .i64 m) := T0.c0
  have p1 : (u.val.alloc (.cells #[.int .i64 m, .slice a l.length cap] 24)).cell? ⟨u.val.heap.size, 1, none⟩ = some (.slice a l.length cap) := T0.c1
  have K0 := Lib.hid (show Calls Try.prog 178 #[.agg #[.int .i64 m, .slice a l.length cap]] (u.val.alloc (.cells #[.int .i64 m, .slice a l.length cap] 24)) _ from c_flatsOf (Later.self (u.val.alloc (.cells #[.int .i64 m, .slice a l.length cap] 24))) m hm l a cap (h.to (u.alloc _)) hlen he)
  clear h hlen he T0
  go_enter Try.func80, Try.ntmps80
  go_upto_region 2 with (first | (go_at_call 178; ((with_reducible refine (K0.out).mono ?_); rintro e _ ⟨_, rfl, ⟨adF, cpF, g, c, rfl, hO, hT, hBg⟩, v1, rfl⟩)))
  have TY : RowL (v1.val.alloc (.cells #[.int .i64 m, .slice a l.length cap, .slice adF (ints (those m (flatP m (toN l)))).length cpF, .slice (some ⟨g, 0, none⟩) (bit m) c] 115)) v1.val.heap.size 115 [.int .i64 m, .slice a l.length cap, .slice adF (ints (those m (flatP m (toN l)))).length cpF, .slice (some ⟨g, 0, none⟩) (bit m) c] := RowL.new _ _ _
  have s0 : ∀ w : Later (v1.val.alloc (.cells #[.int .i64 m, .slice a l.length cap, .slice adF (ints (those m (flatP m (toN l)))).length cpF, .slice (some ⟨g, 0, none⟩) (bit m) c] 115)).heap.size (v1.val.alloc (.cells #[.int .i64 m, .slice a l.length cap, .slice adF (ints (those m (flatP m (toN l)))).length cpF, .slice (some ⟨g, 0, none⟩) (bit m) c] 115)), w.val.cell? ⟨v1.val.heap.size, 0, none⟩ = some (.int .i64 m) := fun w => (TY.keep w.below).cell rfl
  have s1 : ∀ w : Later (v1.val.alloc (.cells #[.int .i64 m, .slice a l.length cap, .slice adF (ints (those m (flatP m (toN l)))).length cpF, .slice (some ⟨g, 0, none⟩) (bit m) c] 115)).heap.size (v1.val.alloc (.cells #[.int .i64 m, .slice a l.length cap, .slice adF (ints (those m (flatP m (toN l)))).length cpF, .slice (some ⟨g, 0, none⟩) (bit m) c] 115)), w.val.cell? ⟨v1.val.heap.size, 1, none⟩ = some (.slice a l.length cap) := fun w => (TY.keep w.below).cell rfl
  have s2 : ∀ w : Later (v1.val.alloc (.cells #[.int .i64 m, .slice a l.length cap, .slice adF (ints (those m (flatP m (toN l)))).length cpF, .slice (some ⟨g, 0, none⟩) (bit m) c] 115)).heap.size (v1.val.alloc (.cells #[.int .i64 m, .slice a l.length cap, .slice adF (ints (those m (flatP m (toN l)))).length cpF, .slice (some ⟨g, 0, none⟩) (bit m) c] 115)), w.val.cell? ⟨v1.val.heap.size, 2, none⟩ = some (.slice adF (ints (those m (flatP m (toN l)))).length cpF) := fun w => (TY.keep w.below).cell rfl
  have s3 : ∀ w : Later (v1.val.alloc (.cells #[.int .i64 m, .slice a l.length cap, .slice adF (ints (those m (flatP m (toN l)))).length cpF, .slice (some ⟨g, 0, none⟩) (bit m) c] 115)).heap.size (v1.val.alloc (.cells #[.int .i64 m, .slice a l.length cap, .slice adF (ints (those m (flatP m (toN l)))).length cpF, .slice (some ⟨g, 0, none⟩) (bit m) c] 115)), w.val.cell? ⟨v1.val.heap.size, 3, none⟩ = some (.slice (some ⟨g, 0, none⟩) (bit m) c) := fun w => (TY.keep w.below).cell rfl
  have hcp := hO.le
  have HIF : Hid (IntsAt (v1.val.alloc (.cells #[.int .i64 m, .slice a l.length cap, .slice adF (ints (those m (flatP m (toN l)))).length cpF, .slice (some ⟨g, 0, none⟩) (bit m) c] 115)).heap.size (v1.val.alloc (.cells #[.int .i64 m, .slice a l.length cap, .slice adF (ints (those m (flatP m (toN l)))).length cpF, .slice (some ⟨g, 0, none⟩) (bit m) c] 115)) adF (ints (those m (flatP m (toN l))))) := Lib.hid (hO.reads.to ((Later.self v1.val).alloc _))
  have HT : Hid (ITab (v1.val.alloc (.cells #[.int .i64 m, .slice a l.length cap, .slice adF (ints (those m (flatP m (toN l)))).length cpF, .slice (some ⟨g, 0, none⟩) (bit m) c] 115)) g (bit m) (fun j => (rk (toN l) j : Int))) := Lib.hid (hT.keep ((Below.refl _ _).alloc (Nat.le_refl _) _))
  have hgY : g < (v1.val.alloc (.cells #[.int .i64 m, .slice a l.length cap, .slice adF (ints (those m (flatP m (toN l)))).length cpF, .slice (some ⟨g, 0, none⟩) (bit m) c] 115)).heap.size := HT.out.lt
  have HVY : Hid (∀ v : Later (v1.val.alloc (.cells #[.int .i64 m, .slice a l.length cap, .slice adF (ints (those m (flatP m (toN l)))).length cpF, .slice (some ⟨g, 0, none⟩) (bit m) c] 115)).heap.size (v1.val.alloc (.cells #[.int .i64 m, .slice a l.length cap, .slice adF (ints (those m (flatP m (toN l)))).length cpF, .slice (some ⟨g, 0, none⟩) (bit m) c] 115)), ∃ w : Later B W, w.val = v.val) := Lib.hid (fun v => HV.out ((v1.alloc _).up v))
  have HBY : Hid (B ≤ (v1.val.alloc (.cells #[.int .i64 m, .slice a l.length cap, .slice adF (ints (those m (flatP m (toN l)))).length cpF, .slice (some ⟨g, 0, none⟩) (bit m) c] 115)).heap.size) := Lib.hid (by obtain ⟨w, hw⟩ := HV.out (v1.alloc (.cells #[.int .i64 m, .slice a l.length cap, .slice adF (ints (those m (flatP m (toN l)))).length cpF, .slice (some ⟨g, 0, none⟩) (bit m) c] 115)); have := w.size; rw [hw] at this; exact this)
  have r0 : ∀ w : Later (v1.val.alloc (.cells #[.int .i64 m, .slice a l.length cap, .slice adF (ints (those m (flatP m (toN l)))).length cpF, .slice (some ⟨g, 0, none⟩) (bit m) c] 115)).heap.size (v1.val.alloc (.cells #[.int .i64 m, .slice a l.length cap, .slice adF (ints (those m (flatP m (toN l)))).length cpF, .slice (some ⟨g, 0, none⟩) (bit m) c] 115)), w.val.cell? ⟨u.val.heap.size, 0, none⟩ = some (.int .i64 m) := fun w => q0 ((v1.alloc _).up w)
  clear K0 HV HB0 q0 p0 p1 TY hO hT hBg
  generalize v1.val.heap.size = gl at *
  generalize (v1.val.alloc (.cells #[.int .i64 m, .slice a l.length cap, .slice adF (ints (those m (flatP m (toN l)))).length cpF, .slice (some ⟨g, 0, none⟩) (bit m) c] 115)) = Y at *
  obtain ⟨y, hy⟩ : ∃ y : Later Y.heap.size Y, y.val = Y := ⟨Later.self _, rfl⟩
  rw [← hy]
  clear hy
  have hFl : (those m (flatP m (toN l))).length ≤ 256 := by have := thoseTo_len (flatP m (toN l)) (bit m); have e : those m (flatP m (toN l)) = thoseTo (flatP m (toN l)) (bit m) := rfl; rw [e]; omega
  have HF8 : Hid (∀ i, i < (those m (flatP m (toN l))).length → (those m (flatP m (toN l))).getD i 0 < bit m) := Lib.hid (fun i hi => (those_at hi).1)
  have KH : Hid (∀ v : Later Y.heap.size Y, Calls Try.prog 171 #[.slice adF (ints (those m (flatP m (toN l)))).length cpF, .int .i64 (f : Int)] v.val (Ret Y.heap.size Y (.bool true))) := Lib.hid (fun v => by
    have := c_contains v (ints (those m (flatP m (toN l)))) (f : Int) adF cpF HIF.out (by rw [ints_len]; omega)
    rwa [decide_eq_true (mem_ints.2 hf)] at this)
  clear hf hcp
  rw [ints_len] at *
  generalize those m (flatP m (toN l)) = F at *
  generalize toN l = L at *
  have HM := Lib.hid (modTo_iff (F := F) (L := L) (f := f) (Nat.le_refl F.length))
  generalize modTo F L f F.length = r at *
  go_wp2_with (first | (go_at_call 171; (with_reducible refine (KH.out _).mono ?_); rintro e _ ⟨rfl, y, rfl⟩))
  clear KH
  go_loopw [26] (fun i wr => ∃ (k : Nat) (v : Later Y.heap.size Y), k ≤ F.length ∧ i = .int .i64 k ∧ wr = v.val ∧ Hid (∀ i, i < k → rk L f + rk L (F.getD i 0) = rk L (f ||| F.getD i 0) + rk L (f &&& F.getD i 0))) (fun i _ => F.length - (intOf i).toNat)
  case atStart => exact ⟨0, y, by omega, rfl, rfl, Lib.hid (fun i hi => by omega)⟩
  case round =>
    clear y
    obtain ⟨k, v, hk, rfl, rfl, HN⟩ := hrel
    by_cases hlt : k < F.length
    · obtain ⟨bb, off, rfl, hbB, hcell⟩ := HIF.out.at (k := k) (by rw [ints_len]; exact hlt)
      have hfk := HF8.out k hlt
      have hor : f ||| F.getD k 0 < bit m := or_lt_bit hfb hfk
      have han : f &&& F.getD k 0 < bit m := and_lt_bit _ hfb
      have c0 : ∀ w : Later Y.heap.size Y, w.val.cell? ⟨bb, off + k, none⟩ = some (.int .i64 ((F.getD k 0 : Nat) : Int)) := fun w => by rw [← ints_getD]; exact hcell w k (by rw [ints_len]; exact hlt)
      have HTc : Hid (∀ (j : Nat), j < bit m → ∀ w : Later Y.heap.size Y, w.val.cell? ⟨g, j, none⟩ = some (.int .i64 (rk L j : Int))) := Lib.hid (fun j hj w => (HT.out.keep_at w.below hgY).cell hj)
      have c1 := HTc.out _ hfk
      have c2 := HTc.out _ hfb
      have c3 := HTc.out _ hor
      have c4 := HTc.out _ han
      have o1 := i64_and f (F.getD k 0) (by omega) (by omega)
      have o2 := i64_or f (F.getD k 0) (by omega) (by omega)
      have r1 := rk_le8 L (F.getD k 0)
      have r2 := rk_le8 L f
      have r3 := rk_le8 L (f ||| F.getD k 0)
      have r4 := rk_le8 L (f &&& F.getD k 0)
      have HX : Hid (¬ rk L f + rk L (F.getD k 0) = rk L (f ||| F.getD k 0) + rk L (f &&& F.getD k 0) → r = false) := Lib.hid (fun h => by
        cases c : r
        · rfl
        · exact absurd (HM.out.1 c k hlt) h)
      have HY : Hid (rk L f + rk L (F.getD k 0) = rk L (f ||| F.getD k 0) + rk L (f &&& F.getD k 0) → ∀ i, i < k + 1 → rk L f + rk L (F.getD i 0) = rk L (f ||| F.getD i 0) + rk L (f &&& F.getD i 0)) := Lib.hid (fun h i hi => by
        by_cases e : i = k
        · subst e; exact h
        · exact HN.out i (by omega))
      have c0' := c0 v
      clear hcell HN HTc
      generalize rk L (f ||| F.getD k 0) = p3 at *
      generalize rk L (f &&& F.getD k 0) = p4 at *
      generalize rk L (F.getD k 0) = p1 at *
      obtain ⟨p2, hp2⟩ : ∃ x, rk L f = x := ⟨_, rfl⟩
      rw [hp2] at c2 r2 HX
      generalize f ||| F.getD k 0 = z3 at *
      generalize f &&& F.getD k 0 = z4 at *
      by_cases hq : p2 + p1 = p3 + p4
      · have d1 : ((p2 : Int) + (p1 : Int) != (p3 : Int) + (p4 : Int)) = false := by rw [bne_eq_false_iff_eq]; omega
        have HN2 := Lib.hid (HY.out (by rw [hp2]; exact hq))
        clear hq HX HY hp2
        generalize F.getD k 0 = x at *
        go_wp2
        refine wp_region_later v (by kernel_rfl) (by kernel_rfl) (fun _ => ?_)
        repeat (first | go_big_quiet_step ((fail)) | (refine wpQuiet_step (fun K hK => ?_); go_simp; refine ⟨_, fun _ => rfl, ?_⟩; refine hK _ ?_; clear hK K))
        refine wpQuiet_nil ?_
        intro v
        go_wp2
        go_roundw
        case rel => exact ⟨k+1, v, by omega, by go_num, rfl, HN2⟩
        case measure => simp [intOf]; omega
      · have d1 : ((p2 : Int) + (p1 : Int) != (p3 : Int) + (p4 : Int)) = true := by rw [bne_iff_ne]; omega
        have hr := HX.out hq
        subst hr
        clear hq HX HY hp2
        generalize F.getD k 0 = x at *
        go_wp2
        refine wp_region_later v (by kernel_rfl) (by kernel_rfl) (fun _ => ?_)
        repeat (first | go_big_quiet_step ((fail)) | (refine wpQuiet_step (fun K hK => ?_); go_simp; refine ⟨_, fun _ => rfl, ?_⟩; refine hK _ ?_; clear hK K))
        refine wpQuiet_nil ?_
        intro v
        go_wp2
        go_ret2
        exact Ret.of (HVY.out v) rfl
    · have hr : r = true := HM.out.2 (fun i hi => HN.out i (by omega))
      subst hr
      go_wp2
      go_ret2
      exact Ret.of (HVY.out v) rfl

end Go.Proofs.Ytjpcelldbhdneaa
