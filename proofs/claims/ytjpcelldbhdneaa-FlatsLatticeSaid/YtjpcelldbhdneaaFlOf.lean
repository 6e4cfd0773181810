
/-
  flats.of; a lattice's rank.
-/
import Derived.Test.YtjpcelldbhdneaaAxAll
import Derived.Test.YtjpcelldbhdneaaRowL
namespace Go.Proofs.Ytjpcelldbhdneaa
open Go.RowKit
set_option linter.unusedVariables false

/-- a lattice as a value -/
def latV (m : Int) (a : Option Addr) (n cap : Nat) (adF : Option Addr) (nF cpF g : Nat) (k c : Nat) : Value := .agg #[.int .i64 m, .slice a n cap, .slice adF nF cpF, .slice (some ⟨g, 0, none⟩) k c]

set_option maxRecDepth 100000 in
set_option maxHeartbeats 4000000 in
theorem c_flatsOf {B : Nat} {W : World} (u : Later B W) (m : Nat) (hm : m ≤ 8) (l : List Int) (a : Option Addr) (cap : Nat) (h : IntsAt B W a l) (hlen : l.length ≤ 4611686018427387904) (he : MatIs (m : Int) l 0) :
    Calls Try.prog 178 #[.agg #[.int .i64 m, .slice a l.length cap]] u.val (RetP B W (fun v w => ∃ adF cpF g c, v = .tuple #[.agg #[.int .i64 m, .slice a l.length cap, .slice adF (ints (those m (flatP m (toN l)))).length cpF, .slice (some ⟨g, 0, none⟩) (bit m) c], .int .i64 0] ∧ Own B w adF cpF (ints (those m (flatP m (toN l)))) ∧ ITab w g (bit m) (fun j => (rk (toN l) j : Int)) ∧ B ≤ g)) := by
  have T0 : Two ((u.val.alloc (.cells #[.int .i64 m, .slice a l.length cap] 24)).alloc (.cells #[.int .i64 0, .slice none 0 0, .slice none 0 0, .slice none 0 0] 115)) u.val.heap.size 24 (.int .i64 m) (.slice a l.length cap) := two_under (Two.new _ _ _ _) _
  have TR : RowL ((u.val.alloc (.cells #[.int .i64 m, .slice a l.length cap] 24)).alloc (.cells #[.int .i64 0, .slice none 0 0, .slice none 0 0, .slice none 0 0] 115)) (u.val.heap.size + 1) 115 [.int .i64 0, .slice none 0 0, .slice none 0 0, .slice none 0 0] := by
    have := RowL.new (u.val.alloc (.cells #[.int .i64 m, .slice a l.length cap] 24)) 115 [.int .i64 0, .slice none 0 0, .slice none 0 0, .slice none 0 0]
    simpa using this
  have hI : IntsAt ((u.val.alloc (.cells #[.int .i64 m, .slice a l.length cap] 24)).alloc (.cells #[.int .i64 0, .slice none 0 0, .slice none 0 0, .slice none 0 0] 115)).heap.size ((u.val.alloc (.cells #[.int .i64 m, .slice a l.length cap] 24)).alloc (.cells #[.int .i64 0, .slice none 0 0, .slice none 0 0, .slice none 0 0] 115)) a l := h.to ((u.alloc _).alloc _)
  have HV : Hid (∀ v : Later ((u.val.alloc (.cells #[.int .i64 m, .slice a l.length cap] 24)).alloc (.cells #[.int .i64 0, .slice none 0 0, .slice none 0 0, .slice none 0 0] 115)).heap.size ((u.val.alloc (.cells #[.int .i64 m, .slice a l.length cap] 24)).alloc (.cells #[.int .i64 0, .slice none 0 0, .slice none 0 0, .slice none 0 0] 115)), ∃ w : Later B W, w.val = v.val) := Lib.hid (fun v => ⟨((u.alloc _).alloc _).up v, rfl⟩)
  have HB : Hid (B ≤ u.val.heap.size + 1) := Lib.hid (by have := u.size; omega)
  have q0 : ∀ w : Later ((u.val.alloc (.cells #[.int .i64 m, .slice a l.length cap] 24)).alloc (.cells #[.int .i64 0, .slice none 0 0, .slice none 0 0, .slice none 0 0] 115)).heap.size ((u.val.alloc (.cells #[.int .i64 m, .slice a l.length cap] 24)).alloc (.cells #[.int .i64 0, .slice none 0 0, .slice none 0 0, .slice none 0 0] 115)), w.val.cell? ⟨u.val.heap.size, 0, none⟩ = some (.int .i64 m) := fun w => (T0.keep w.below).c0
  have q1 : ∀ w : Later ((u.val.alloc (.cells #[.int .i64 m, .slice a l.length cap] 24)).alloc (.cells #[.int .i64 0, .slice none 0 0, .slice none 0 0, .slice none 0 0] 115)).heap.size ((u.val.alloc (.cells #[.int .i64 m, .slice a l.length cap] 24)).alloc (.cells #[.int .i64 0, .slice none 0 0, .slice none 0 0, .slice none 0 0] 115)), w.val.cell? ⟨u.val.heap.size, 1, none⟩ = some (.slice a l.length cap) := fun w => (T0.keep w.below).c1
  have hgl : u.val.heap.size + 1 < ((u.val.alloc (.cells #[.int .i64 m, .slice a l.length cap] 24)).alloc (.cells #[.int .i64 0, .slice none 0 0, .slice none 0 0, .slice none 0 0] 115)).heap.size := TR.lt
  have HTR := Lib.hid TR
  clear T0 TR h
  go_enter Try.func178, Try.ntmps178
  go_upto_region 1 with fail
  generalize u.val.heap.size + 1 = gr at *
  generalize u.val.heap.size = gu at *
  generalize ((u.val.alloc (.cells #[.int .i64 m, .slice a l.length cap] 24)).alloc (.cells #[.int .i64 0, .slice none 0 0, .slice none 0 0, .slice none 0 0] 115)) = X at *
  have f0 : ∀ (w : Later X.heap.size X), w.val.cell? ⟨gr, 0, none⟩ = some (.int .i64 0) := fun w => (HTR.out.keep_at w.below hgl).cell rfl
  have z0 : ∀ (w : Later X.heap.size X), w.val.frozen? ⟨gr, 0, none⟩ = false := fun w => (HTR.out.keep_at w.below hgl).fz 0
  have f1 : ∀ (w : Later X.heap.size X) (x0 : Value), (w.val.setCell ⟨gr, 0, none⟩ x0).cell? ⟨gr, 1, none⟩ = some (.slice none 0 0) := fun w x0 => ((HTR.out.keep_at w.below hgl).set 0 x0).cell rfl
  have z1 : ∀ (w : Later X.heap.size X) (x0 : Value), (w.val.setCell ⟨gr, 0, none⟩ x0).frozen? ⟨gr, 1, none⟩ = false := fun w x0 => ((HTR.out.keep_at w.below hgl).set 0 x0).fz 1
  have f2 : ∀ (w : Later X.heap.size X) (x0 : Value) (x1 : Value), ((w.val.setCell ⟨gr, 0, none⟩ x0).setCell ⟨gr, 1, none⟩ x1).cell? ⟨gr, 2, none⟩ = some (.slice none 0 0) := fun w x0 x1 => (((HTR.out.keep_at w.below hgl).set 0 x0).set 1 x1).cell rfl
  have z2 : ∀ (w : Later X.heap.size X) (x0 : Value) (x1 : Value), ((w.val.setCell ⟨gr, 0, none⟩ x0).setCell ⟨gr, 1, none⟩ x1).frozen? ⟨gr, 2, none⟩ = false := fun w x0 x1 => (((HTR.out.keep_at w.below hgl).set 0 x0).set 1 x1).fz 2
  have f3 : ∀ (w : Later X.heap.size X) (x0 : Value) (x1 : Value) (x2 : Value), (((w.val.setCell ⟨gr, 0, none⟩ x0).setCell ⟨gr, 1, none⟩ x1).setCell ⟨gr, 2, none⟩ x2).cell? ⟨gr, 3, none⟩ = some (.slice none 0 0) := fun w x0 x1 x2 => ((((HTR.out.keep_at w.below hgl).set 0 x0).set 1 x1).set 2 x2).cell rfl
  have z3 : ∀ (w : Later X.heap.size X) (x0 : Value) (x1 : Value) (x2 : Value), (((w.val.setCell ⟨gr, 0, none⟩ x0).setCell ⟨gr, 1, none⟩ x1).setCell ⟨gr, 2, none⟩ x2).frozen? ⟨gr, 3, none⟩ = false := fun w x0 x1 x2 => ((((HTR.out.keep_at w.below hgl).set 0 x0).set 1 x1).set 2 x2).fz 3
  have KF := Lib.hid (fun v : Later X.heap.size X => c_axFlatsO v m hm l a cap hI hlen he)
  have KR : Hid (∀ v : Later X.heap.size X, Calls Try.prog 24 #[.agg #[.int .i64 m, .slice a l.length cap]] v.val (RetP v.val.heap.size v.val (fun x w => ∃ g c, x = .tuple #[.slice (some ⟨g, 0, none⟩) (bit m) c, .int .i64 0] ∧ ITab w g (bit m) (fun j => (rk (toN l) j : Int)) ∧ v.val.heap.size ≤ g))) := Lib.hid (fun v => c_axRanksB (Later.self v.val) m hm l a cap (hI.to v) hlen he)
  clear hI he
  obtain ⟨v0, hv0⟩ : ∃ v0 : Later X.heap.size X, v0.val = X := ⟨Later.self _, rfl⟩
  rw [← hv0]
  clear hv0
  go_wp2_with (first | (go_at_call 25; (with_reducible refine (KF.out _).mono ?_); rintro e _ ⟨_, rfl, ⟨adF, cpF, rfl, hF⟩, v1, rfl⟩; have HF := Lib.hid hF; clear hF) | (go_at_call 24; (with_reducible refine (threadP v1 (KR.out v1)).mono ?_); rintro e _ ⟨v2, _, rfl, rfl, ⟨g, c, rfl, hT, hBg⟩, hb2⟩; have HT := Lib.hid hT; have HBg := Lib.hid hBg; clear hT hBg))
  have hx : ∃ w : Later B W, w.val = v2.val := HV.out v2
  have TF := ((((HTR.out.keep_at v2.below hgl).set 0 (.int .i64 m)).set 1 (.slice a l.length cap)).set 2 (.slice adF (ints (those m (flatP m (toN l)))).length cpF)).set 3 (.slice (some ⟨g, 0, none⟩) (bit m) c)
  refine bodyPost_ret (results_row (vs := [.int .i64 m, .slice a l.length cap, .slice adF (ints (those m (flatP m (toN l)))).length cpF, .slice (some ⟨g, 0, none⟩) (bit m) c]) rfl _ _ gr rfl TF Try.underlying115 (by kernel_rfl)) rfl ?_
  refine RetP.of (later_set (later_set (later_set (later_set hx HB.out _) HB.out _) HB.out _) HB.out _) ⟨adF, cpF, g, c, rfl, ?_, ?_, ?_⟩
  · exact (((((HF.out.keep hb2).set hgl _).set hgl _).set hgl _).set hgl _).mono (by have := HB.out; omega)
  · have hne : g ≠ gr := by have := HBg.out; have := v1.size; omega
    exact (((HT.out.other hne _).other hne _).other hne _).other hne _
  · have := HB.out; have := HBg.out; have := v1.size; omega

set_option maxRecDepth 100000 in
set_option maxHeartbeats 4000000 in
theorem c_flatsOf_no {B : Nat} {W : World} (u : Later B W) (n : Int) (l : List Int) (a : Option Addr) (cap : Nat) (e : Int) (h : IntsAt B W a l) (hlen : l.length ≤ 4611686018427387904) (he : MatIs n l e) (h0 : e ≠ 0) :
    Calls Try.prog 178 #[.agg #[.int .i64 n, .slice a l.length cap]] u.val (Ret B W (.tuple #[.agg #[.int .i64 0, .slice none 0 0, .slice none 0 0, .slice none 0 0], .int .i64 e])) := by
  have T0 : Two ((u.val.alloc (.cells #[.int .i64 n, .slice a l.length cap] 24)).alloc (.cells #[.int .i64 0, .slice none 0 0, .slice none 0 0, .slice none 0 0] 115)) u.val.heap.size 24 (.int .i64 n) (.slice a l.length cap) := two_under (Two.new _ _ _ _) _
  have TR : RowL ((u.val.alloc (.cells #[.int .i64 n, .slice a l.length cap] 24)).alloc (.cells #[.int .i64 0, .slice none 0 0, .slice none 0 0, .slice none 0 0] 115)) (u.val.heap.size + 1) 115 [.int .i64 0, .slice none 0 0, .slice none 0 0, .slice none 0 0] := by
    have := RowL.new (u.val.alloc (.cells #[.int .i64 n, .slice a l.length cap] 24)) 115 [.int .i64 0, .slice none 0 0, .slice none 0 0, .slice none 0 0]
    simpa using this
  have hI : IntsAt ((u.val.alloc (.cells #[.int .i64 n, .slice a l.length cap] 24)).alloc (.cells #[.int .i64 0, .slice none 0 0, .slice none 0 0, .slice none 0 0] 115)).heap.size ((u.val.alloc (.cells #[.int .i64 n, .slice a l.length cap] 24)).alloc (.cells #[.int .i64 0, .slice none 0 0, .slice none 0 0, .slice none 0 0] 115)) a l := h.to ((u.alloc _).alloc _)
  have HV : Hid (∀ v : Later ((u.val.alloc (.cells #[.int .i64 n, .slice a l.length cap] 24)).alloc (.cells #[.int .i64 0, .slice none 0 0, .slice none 0 0, .slice none 0 0] 115)).heap.size ((u.val.alloc (.cells #[.int .i64 n, .slice a l.length cap] 24)).alloc (.cells #[.int .i64 0, .slice none 0 0, .slice none 0 0, .slice none 0 0] 115)), ∃ w : Later B W, w.val = v.val) := Lib.hid (fun v => ⟨((u.alloc _).alloc _).up v, rfl⟩)
  have HB : Hid (B ≤ u.val.heap.size + 1) := Lib.hid (by have := u.size; omega)
  have q0 : ∀ w : Later ((u.val.alloc (.cells #[.int .i64 n, .slice a l.length cap] 24)).alloc (.cells #[.int .i64 0, .slice none 0 0, .slice none 0 0, .slice none 0 0] 115)).heap.size ((u.val.alloc (.cells #[.int .i64 n, .slice a l.length cap] 24)).alloc (.cells #[.int .i64 0, .slice none 0 0, .slice none 0 0, .slice none 0 0] 115)), w.val.cell? ⟨u.val.heap.size, 0, none⟩ = some (.int .i64 n) := fun w => (T0.keep w.below).c0
  have q1 : ∀ w : Later ((u.val.alloc (.cells #[.int .i64 n, .slice a l.length cap] 24)).alloc (.cells #[.int .i64 0, .slice none 0 0, .slice none 0 0, .slice none 0 0] 115)).heap.size ((u.val.alloc (.cells #[.int .i64 n, .slice a l.length cap] 24)).alloc (.cells #[.int .i64 0, .slice none 0 0, .slice none 0 0, .slice none 0 0] 115)), w.val.cell? ⟨u.val.heap.size, 1, none⟩ = some (.slice a l.length cap) := fun w => (T0.keep w.below).c1
  have hgl : u.val.heap.size + 1 < ((u.val.alloc (.cells #[.int .i64 n, .slice a l.length cap] 24)).alloc (.cells #[.int .i64 0, .slice none 0 0, .slice none 0 0, .slice none 0 0] 115)).heap.size := TR.lt
  have HTR := Lib.hid TR
  have d0 : (e != 0) = true := by rw [bne_iff_ne]; exact h0
  clear T0 TR h
  go_enter Try.func178, Try.ntmps178
  go_upto_region 1 with fail
  generalize u.val.heap.size + 1 = gr at *
  generalize u.val.heap.size = gu at *
  generalize ((u.val.alloc (.cells #[.int .i64 n, .slice a l.length cap] 24)).alloc (.cells #[.int .i64 0, .slice none 0 0, .slice none 0 0, .slice none 0 0] 115)) = X at *
  have f0 : ∀ (w : Later X.heap.size X), w.val.cell? ⟨gr, 0, none⟩ = some (.int .i64 0) := fun w => (HTR.out.keep_at w.below hgl).cell rfl
  have z0 : ∀ (w : Later X.heap.size X), w.val.frozen? ⟨gr, 0, none⟩ = false := fun w => (HTR.out.keep_at w.below hgl).fz 0
  have f1 : ∀ (w : Later X.heap.size X) (x0 : Value), (w.val.setCell ⟨gr, 0, none⟩ x0).cell? ⟨gr, 1, none⟩ = some (.slice none 0 0) := fun w x0 => ((HTR.out.keep_at w.below hgl).set 0 x0).cell rfl
  have z1 : ∀ (w : Later X.heap.size X) (x0 : Value), (w.val.setCell ⟨gr, 0, none⟩ x0).frozen? ⟨gr, 1, none⟩ = false := fun w x0 => ((HTR.out.keep_at w.below hgl).set 0 x0).fz 1
  have f2 : ∀ (w : Later X.heap.size X) (x0 : Value) (x1 : Value), ((w.val.setCell ⟨gr, 0, none⟩ x0).setCell ⟨gr, 1, none⟩ x1).cell? ⟨gr, 2, none⟩ = some (.slice none 0 0) := fun w x0 x1 => (((HTR.out.keep_at w.below hgl).set 0 x0).set 1 x1).cell rfl
  have z2 : ∀ (w : Later X.heap.size X) (x0 : Value) (x1 : Value), ((w.val.setCell ⟨gr, 0, none⟩ x0).setCell ⟨gr, 1, none⟩ x1).frozen? ⟨gr, 2, none⟩ = false := fun w x0 x1 => (((HTR.out.keep_at w.below hgl).set 0 x0).set 1 x1).fz 2
  have f3 : ∀ (w : Later X.heap.size X) (x0 : Value) (x1 : Value) (x2 : Value), (((w.val.setCell ⟨gr, 0, none⟩ x0).setCell ⟨gr, 1, none⟩ x1).setCell ⟨gr, 2, none⟩ x2).cell? ⟨gr, 3, none⟩ = some (.slice none 0 0) := fun w x0 x1 x2 => ((((HTR.out.keep_at w.below hgl).set 0 x0).set 1 x1).set 2 x2).cell rfl
  have z3 : ∀ (w : Later X.heap.size X) (x0 : Value) (x1 : Value) (x2 : Value), (((w.val.setCell ⟨gr, 0, none⟩ x0).setCell ⟨gr, 1, none⟩ x1).setCell ⟨gr, 2, none⟩ x2).frozen? ⟨gr, 3, none⟩ = false := fun w x0 x1 x2 => ((((HTR.out.keep_at w.below hgl).set 0 x0).set 1 x1).set 2 x2).fz 3
  have KF := Lib.hid (fun v : Later X.heap.size X => c_axFlats_no v n l a cap e hI hlen he h0)
  clear hI he h0
  obtain ⟨v0, hv0⟩ : ∃ v0 : Later X.heap.size X, v0.val = X := ⟨Later.self _, rfl⟩
  rw [← hv0]
  clear hv0
  go_wp2_with (first | (go_at_call 25; (with_reducible refine (KF.out _).mono ?_); rintro e _ ⟨_, rfl, ⟨_, rfl, ⟨ad, cp, rfl, hI, hcp⟩⟩, v2, rfl⟩))
  have hx : ∃ w : Later B W, w.val = v2.val := HV.out v2
  have TF := ((((HTR.out.keep_at v2.below hgl).set 0 (.int .i64 0)).set 1 (.slice none 0 0)).set 2 (.slice none 0 0)).set 3 (.slice none 0 0)
  refine bodyPost_ret (results_row (vs := [.int .i64 0, .slice none 0 0, .slice none 0 0, .slice none 0 0]) rfl _ _ gr rfl TF Try.underlying115 (by kernel_rfl)) rfl ?_
  exact Ret.of (later_set (later_set (later_set (later_set hx HB.out _) HB.out _) HB.out _) HB.out _) rfl

set_option maxRecDepth 100000 in
set_option maxHeartbeats 4000000 in
theorem c_latRank {B : Nat} {W : World} (u : Later B W) (m : Nat) (hm : m ≤ 8) (L : List Nat) (x y : Value) (n g c : Nat) (z : Value) (hg : g < B) (hT : ITab W g (bit m) (fun j => (rk L j : Int))) :
    Calls Try.prog 180 #[.agg #[x, y, z, .slice (some ⟨g, 0, none⟩) (bit m) c]] u.val (Ret B W (.int .i64 (rk L (bit m - 1)))) := by
  have hb := bit_le m hm
  have TR : RowL (u.val.alloc (.cells #[x, y, z, .slice (some ⟨g, 0, none⟩) (bit m) c] 115)) u.val.heap.size 115 [x, y, z, .slice (some ⟨g, 0, none⟩) (bit m) c] := RowL.new _ _ _
  have q3 : (u.val.alloc (.cells #[x, y, z, .slice (some ⟨g, 0, none⟩) (bit m) c] 115)).cell? ⟨u.val.heap.size, 3, none⟩ = some (.slice (some ⟨g, 0, none⟩) (bit m) c) := TR.cell rfl
  have c0 : (u.val.alloc (.cells #[x, y, z, .slice (some ⟨g, 0, none⟩) (bit m) c] 115)).cell? ⟨g, bit m - 1, none⟩ = some (.int .i64 (rk L (bit m - 1) : Int)) := (hT.keep_at (u.alloc _).below hg).cell (by omega)
  have HV : Hid (∃ w : Later B W, w.val = (u.val.alloc (.cells #[x, y, z, .slice (some ⟨g, 0, none⟩) (bit m) c] 115))) := Lib.hid ⟨u.alloc _, rfl⟩
  have r8 := rk_le8 L (bit m - 1)
  clear TR hT
  generalize rk L (bit m - 1) = p at *
  go_enter Try.func180, Try.ntmps180
  go_wp2
  go_ret
  exact Ret.of HV.out rfl

end Go.Proofs.Ytjpcelldbhdneaa
