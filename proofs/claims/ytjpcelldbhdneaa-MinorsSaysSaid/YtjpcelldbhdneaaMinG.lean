
/-
  minors.Dual.
-/
import Derived.Test.YtjpcelldbhdneaaMinF
import Derived.Test.YtjpcelldbhdneaaAxi2
namespace Go.Proofs.Ytjpcelldbhdneaa
open Go.RowKit
set_option linter.unusedVariables false

/-- a matroid whose bases lie in a row of the call's own, and an error -/
def MatTO (B : Nat) (n : Int) (xs : List Int) (er : Int) (v : Value) (w : World) : Prop := ∃ ad cp, v = .tuple #[.agg #[.int .i64 n, .slice ad xs.length cp], .int .i64 er] ∧ Own B w ad cp xs
theorem MatTO.no {B : Nat} {e : Int} {w : World} : MatTO B 0 [] e (.tuple #[.agg #[.int .i64 0, .slice none 0 0], .int .i64 e]) w := ⟨none, 0, rfl, Own.nil _ _⟩
theorem take_map_step (f : Nat → Nat) (L : List Nat) {k : Nat} (hk : k < L.length) : (L.take (k + 1)).map f = (L.take k).map f ++ [f (L.getD k 0)] := by
  rw [List.take_add_one, List.getElem?_eq_getElem hk, List.map_append]
  have : L.getD k 0 = L[k] := by simp [hk]
  rw [this]
  rfl

set_option maxRecDepth 100000 in
set_option maxHeartbeats 4000000 in
theorem c_minDual_no {B : Nat} {W : World} (u : Later B W) (n : Int) (l : List Int) (a : Option Addr) (cap : Nat) (e : Int) (h : IntsAt B W a l) (hlen : l.length ≤ 4611686018427387904) (he : MatIs n l e) (h0 : e ≠ 0) :
    Calls Try.prog 48 #[.agg #[.int .i64 n, .slice a l.length cap]] u.val (RetP B W (MatTO B 0 [] e)) := by
  have hB := u.size
  have T0 : Hid (Two (u.val.alloc (.cells #[.int .i64 n, .slice a l.length cap] 24)) u.val.heap.size 24 (.int .i64 n) (.slice a l.length cap)) := Lib.hid (Two.new _ _ _ _)
  have hrr : u.val.heap.size < (u.val.alloc (.cells #[.int .i64 n, .slice a l.length cap] 24)).heap.size := by simp
  have hI : IntsAt (u.val.alloc (.cells #[.int .i64 n, .slice a l.length cap] 24)).heap.size (u.val.alloc (.cells #[.int .i64 n, .slice a l.length cap] 24)) a l := h.to (u.alloc _)
  have HV : Hid (∀ v : Later (u.val.alloc (.cells #[.int .i64 n, .slice a l.length cap] 24)).heap.size (u.val.alloc (.cells #[.int .i64 n, .slice a l.length cap] 24)), ∃ w : Later B W, w.val = v.val) := Lib.hid (fun v => ⟨(u.alloc _).up v, rfl⟩)
  have q0 : ∀ w : Later (u.val.alloc (.cells #[.int .i64 n, .slice a l.length cap] 24)).heap.size (u.val.alloc (.cells #[.int .i64 n, .slice a l.length cap] 24)), w.val.cell? ⟨u.val.heap.size, 0, none⟩ = some (.int .i64 n) := fun w => (T0.out.keep w.below).c0
  have q1 : ∀ w : Later (u.val.alloc (.cells #[.int .i64 n, .slice a l.length cap] 24)).heap.size (u.val.alloc (.cells #[.int .i64 n, .slice a l.length cap] 24)), w.val.cell? ⟨u.val.heap.size, 1, none⟩ = some (.slice a l.length cap) := fun w => (T0.out.keep w.below).c1
  have p0 : (u.val.alloc (.cells #[.int .i64 n, .slice a l.length cap] 24)).cell? ⟨u.val.heap.size, 0, none⟩ = some (.int .i64 n) := T0.out.c0
  have p1 : (u.val.alloc (.cells #[.int .i64 n, .slice a l.length cap] 24)).cell? ⟨u.val.heap.size, 1, none⟩ = some (.slice a l.length cap) := T0.out.c1
  have hM1 : (u.val.alloc (.cells #[.int .i64 n, .slice a l.length cap] 24)).heap.size = u.val.heap.size + 1 := by simp
  have XM : RowL ((u.val.alloc (.cells #[.int .i64 n, .slice a l.length cap] 24)).alloc (.cells #[.int .i64 0, .slice none 0 0] 24)) (u.val.alloc (.cells #[.int .i64 n, .slice a l.length cap] 24)).heap.size 24 [.int .i64 0, .slice none 0 0] := RowL.new _ _ _
  rw [hM1] at XM
  have HX := Lib.hid XM
  have hgr : u.val.heap.size + 1 < ((u.val.alloc (.cells #[.int .i64 n, .slice a l.length cap] 24)).alloc (.cells #[.int .i64 0, .slice none 0 0] 24)).heap.size := XM.lt
  have KC : Hid (Calls Try.prog 28 #[.agg #[.int .i64 n, .slice a l.length cap]] ((u.val.alloc (.cells #[.int .i64 n, .slice a l.length cap] 24)).alloc (.cells #[.int .i64 0, .slice none 0 0] 24)) (Ret ((u.val.alloc (.cells #[.int .i64 n, .slice a l.length cap] 24)).alloc (.cells #[.int .i64 0, .slice none 0 0] 24)).heap.size ((u.val.alloc (.cells #[.int .i64 n, .slice a l.length cap] 24)).alloc (.cells #[.int .i64 0, .slice none 0 0] 24)) (.int .i64 e))) := Lib.hid (c_axCheck (Later.self _) n l a cap e (hI.to ((Later.self (u.val.alloc (.cells #[.int .i64 n, .slice a l.length cap] 24))).alloc _)) hlen he)
  have d0 : (e != 0) = true := by rw [bne_iff_ne]; exact h0
  have z0 : ((u.val.alloc (.cells #[.int .i64 n, .slice a l.length cap] 24)).alloc (.cells #[.int .i64 0, .slice none 0 0] 24)).cell? ⟨u.val.heap.size, 0, none⟩ = some (.int .i64 n) := q0 ((Later.self (u.val.alloc (.cells #[.int .i64 n, .slice a l.length cap] 24))).alloc _)
  have z1 : ((u.val.alloc (.cells #[.int .i64 n, .slice a l.length cap] 24)).alloc (.cells #[.int .i64 0, .slice none 0 0] 24)).cell? ⟨u.val.heap.size, 1, none⟩ = some (.slice a l.length cap) := q1 ((Later.self (u.val.alloc (.cells #[.int .i64 n, .slice a l.length cap] 24))).alloc _)
  have HVY : Hid (∀ v : Later ((u.val.alloc (.cells #[.int .i64 n, .slice a l.length cap] 24)).alloc (.cells #[.int .i64 0, .slice none 0 0] 24)).heap.size ((u.val.alloc (.cells #[.int .i64 n, .slice a l.length cap] 24)).alloc (.cells #[.int .i64 0, .slice none 0 0] 24)), ∃ w : Later B W, w.val = v.val) := Lib.hid (fun v => ⟨((u.alloc _).alloc _).up v, rfl⟩)
  clear h hI he h0 XM q0 q1 p0 p1 T0 HV hM1
  go_enter Try.func48, Try.ntmps48
  go_upto_region 1 with fail
  generalize ((u.val.alloc (.cells #[.int .i64 n, .slice a l.length cap] 24)).alloc (.cells #[.int .i64 0, .slice none 0 0] 24)) = Y at *
  generalize u.val.heap.size = gu at *
  have hBg : B ≤ gu + 1 := by omega
  have f0 : ∀ (w : Later Y.heap.size Y), w.val.cell? ⟨gu + 1, 0, none⟩ = some (.int .i64 0) := fun w => (HX.out.keep_at w.below hgr).cell rfl
  have z0 : ∀ (w : Later Y.heap.size Y), w.val.frozen? ⟨gu + 1, 0, none⟩ = false := fun w => (HX.out.keep_at w.below hgr).fz 0
  have f1 : ∀ (w : Later Y.heap.size Y) (x0 : Value), (w.val.setCell ⟨gu + 1, 0, none⟩ x0).cell? ⟨gu + 1, 1, none⟩ = some (.slice none 0 0) := fun w x0 => ((HX.out.keep_at w.below hgr).set 0 x0).cell rfl
  have z1 : ∀ (w : Later Y.heap.size Y) (x0 : Value), (w.val.setCell ⟨gu + 1, 0, none⟩ x0).frozen? ⟨gu + 1, 1, none⟩ = false := fun w x0 => ((HX.out.keep_at w.below hgr).set 0 x0).fz 1
  go_wp2_with (first | (go_at_call 28; (with_reducible refine (KC.out).mono ?_); rintro e _ ⟨rfl, v1, rfl⟩))
  refine bodyPost_ret (results_row (vs := [.int .i64 0, .slice none 0 0]) rfl _ _ (gu + 1) rfl (((HX.out.keep v1.below).set 0 _).set 1 _) Try.underlying24 (by kernel_rfl)) rfl ?_
  obtain ⟨y1, hy1⟩ := later_set (HVY.out v1) (g := gu + 1) (i := 0) hBg (.int .i64 0)
  obtain ⟨y2, hy2⟩ := later_set ⟨y1, hy1⟩ (g := gu + 1) (i := 1) hBg (.slice none 0 0)
  exact RetP.of ⟨y2, hy2⟩ MatTO.no

set_option maxRecDepth 100000 in
set_option maxHeartbeats 8000000 in
theorem c_minDual {B : Nat} {W : World} (u : Later B W) (m : Nat) (hm : m ≤ 8) (L : List Nat) (hL : ∀ b, b ∈ L → b < 256) (hL2 : L.length ≤ 1048576) (a : Option Addr) (cap : Nat) (h : IntsAt B W a (ints L)) (he : MatIs (m : Int) (ints L) 0) :
    Calls Try.prog 48 #[.agg #[.int .i64 m, .slice a (ints L).length cap]] u.val (RetP B W (MatTO B (m : Nat) (ints (those m (memB (L.map (fun b => nand (bit m - 1) b))))) 0)) := by
  have hB := u.size
  have hb := bit_le m hm
  have hlen : (ints L).length ≤ 4611686018427387904 := by rw [ints_len]; omega
  have T0 : Hid (Two (u.val.alloc (.cells #[.int .i64 m, .slice a (ints L).length cap] 24)) u.val.heap.size 24 (.int .i64 m) (.slice a (ints L).length cap)) := Lib.hid (Two.new _ _ _ _)
  have hrr : u.val.heap.size < (u.val.alloc (.cells #[.int .i64 m, .slice a (ints L).length cap] 24)).heap.size := by simp
  have hI : IntsAt (u.val.alloc (.cells #[.int .i64 m, .slice a (ints L).length cap] 24)).heap.size (u.val.alloc (.cells #[.int .i64 m, .slice a (ints L).length cap] 24)) a (ints L) := h.to (u.alloc _)
  have HV : Hid (∀ v : Later (u.val.alloc (.cells #[.int .i64 m, .slice a (ints L).length cap] 24)).heap.size (u.val.alloc (.cells #[.int .i64 m, .slice a (ints L).length cap] 24)), ∃ w : Later B W, w.val = v.val) := Lib.hid (fun v => ⟨(u.alloc _).up v, rfl⟩)
  have q0 : ∀ w : Later (u.val.alloc (.cells #[.int .i64 m, .slice a (ints L).length cap] 24)).heap.size (u.val.alloc (.cells #[.int .i64 m, .slice a (ints L).length cap] 24)), w.val.cell? ⟨u.val.heap.size, 0, none⟩ = some (.int .i64 m) := fun w => (T0.out.keep w.below).c0
  have q1 : ∀ w : Later (u.val.alloc (.cells #[.int .i64 m, .slice a (ints L).length cap] 24)).heap.size (u.val.alloc (.cells #[.int .i64 m, .slice a (ints L).length cap] 24)), w.val.cell? ⟨u.val.heap.size, 1, none⟩ = some (.slice a (ints L).length cap) := fun w => (T0.out.keep w.below).c1
  have p0 : (u.val.alloc (.cells #[.int .i64 m, .slice a (ints L).length cap] 24)).cell? ⟨u.val.heap.size, 0, none⟩ = some (.int .i64 m) := T0.out.c0
  have p1 : (u.val.alloc (.cells #[.int .i64 m, .slice a (ints L).length cap] 24)).cell? ⟨u.val.heap.size, 1, none⟩ = some (.slice a (ints L).length cap) := T0.out.c1
  have hM1 : (u.val.alloc (.cells #[.int .i64 m, .slice a (ints L).length cap] 24)).heap.size = u.val.heap.size + 1 := by simp
  have XM : RowL ((u.val.alloc (.cells #[.int .i64 m, .slice a (ints L).length cap] 24)).alloc (.cells #[.int .i64 0, .slice none 0 0] 24)) (u.val.alloc (.cells #[.int .i64 m, .slice a (ints L).length cap] 24)).heap.size 24 [.int .i64 0, .slice none 0 0] := RowL.new _ _ _
  rw [hM1] at XM
  have HX := Lib.hid XM
  have hgr : u.val.heap.size + 1 < ((u.val.alloc (.cells #[.int .i64 m, .slice a (ints L).length cap] 24)).alloc (.cells #[.int .i64 0, .slice none 0 0] 24)).heap.size := XM.lt
  have hIY : IntsAt ((u.val.alloc (.cells #[.int .i64 m, .slice a (ints L).length cap] 24)).alloc (.cells #[.int .i64 0, .slice none 0 0] 24)).heap.size ((u.val.alloc (.cells #[.int .i64 m, .slice a (ints L).length cap] 24)).alloc (.cells #[.int .i64 0, .slice none 0 0] 24)) a (ints L) := hI.to ((Later.self (u.val.alloc (.cells #[.int .i64 m, .slice a (ints L).length cap] 24))).alloc _)
  have KC : Hid (Calls Try.prog 28 #[.agg #[.int .i64 m, .slice a (ints L).length cap]] ((u.val.alloc (.cells #[.int .i64 m, .slice a (ints L).length cap] 24)).alloc (.cells #[.int .i64 0, .slice none 0 0] 24)) (Ret ((u.val.alloc (.cells #[.int .i64 m, .slice a (ints L).length cap] 24)).alloc (.cells #[.int .i64 0, .slice none 0 0] 24)).heap.size ((u.val.alloc (.cells #[.int .i64 m, .slice a (ints L).length cap] 24)).alloc (.cells #[.int .i64 0, .slice none 0 0] 24)) (.int .i64 0))) := Lib.hid (c_axCheck (Later.self _) m (ints L) a cap 0 hIY hlen he)
  have z0 : ∀ w : Later ((u.val.alloc (.cells #[.int .i64 m, .slice a (ints L).length cap] 24)).alloc (.cells #[.int .i64 0, .slice none 0 0] 24)).heap.size ((u.val.alloc (.cells #[.int .i64 m, .slice a (ints L).length cap] 24)).alloc (.cells #[.int .i64 0, .slice none 0 0] 24)), w.val.cell? ⟨u.val.heap.size, 0, none⟩ = some (.int .i64 m) := fun w => q0 (((Later.self (u.val.alloc (.cells #[.int .i64 m, .slice a (ints L).length cap] 24))).alloc _).up w)
  have z1 : ∀ w : Later ((u.val.alloc (.cells #[.int .i64 m, .slice a (ints L).length cap] 24)).alloc (.cells #[.int .i64 0, .slice none 0 0] 24)).heap.size ((u.val.alloc (.cells #[.int .i64 m, .slice a (ints L).length cap] 24)).alloc (.cells #[.int .i64 0, .slice none 0 0] 24)), w.val.cell? ⟨u.val.heap.size, 1, none⟩ = some (.slice a (ints L).length cap) := fun w => q1 (((Later.self (u.val.alloc (.cells #[.int .i64 m, .slice a (ints L).length cap] 24))).alloc _).up w)
  have x0 : ((u.val.alloc (.cells #[.int .i64 m, .slice a (ints L).length cap] 24)).alloc (.cells #[.int .i64 0, .slice none 0 0] 24)).cell? ⟨u.val.heap.size, 0, none⟩ = some (.int .i64 m) := z0 (Later.self _)
  have x1 : ((u.val.alloc (.cells #[.int .i64 m, .slice a (ints L).length cap] 24)).alloc (.cells #[.int .i64 0, .slice none 0 0] 24)).cell? ⟨u.val.heap.size, 1, none⟩ = some (.slice a (ints L).length cap) := z1 (Later.self _)
  have HVY : Hid (∀ v : Later ((u.val.alloc (.cells #[.int .i64 m, .slice a (ints L).length cap] 24)).alloc (.cells #[.int .i64 0, .slice none 0 0] 24)).heap.size ((u.val.alloc (.cells #[.int .i64 m, .slice a (ints L).length cap] 24)).alloc (.cells #[.int .i64 0, .slice none 0 0] 24)), ∃ w : Later B W, w.val = v.val) := Lib.hid (fun v => ⟨((u.alloc _).alloc _).up v, rfl⟩)
  have HI := Lib.hid hIY
  have H8 : Hid (∀ k, k < L.length → L.getD k 0 < 256) := Lib.hid (fun k hk => hL _ (by simp [hk]))
  have HN : Hid (∀ s, s ∈ L.map (fun b => nand (bit m - 1) b) → s < bit m) := Lib.hid (fun s hs => by
    obtain ⟨b, _, rfl⟩ := List.mem_map.1 hs
    exact nand_all_lt m b)
  clear h hI he XM q0 q1 p0 p1 T0 HV hM1 hIY hL hlen
  go_enter Try.func48, Try.ntmps48
  go_upto_region 1 with fail
  generalize ((u.val.alloc (.cells #[.int .i64 m, .slice a (ints L).length cap] 24)).alloc (.cells #[.int .i64 0, .slice none 0 0] 24)) = Y at *
  generalize u.val.heap.size = gu at *
  have hBg : B ≤ gu + 1 := by omega
  go_upto_region 5 with (first | (go_at_call 28; ((with_reducible refine (KC.out).mono ?_); rintro e _ ⟨rfl, y, rfl⟩)))
  have hil : (ints L).length = L.length := ints_len L
  rw [hil] at z1 ⊢
  clear x0 x1 KC
  go_wp2
  go_loopw [5, 17] (fun t i wr => ∃ (k : Nat) (ad : Option Addr) (cp : Nat) (u : Later Y.heap.size Y), k ≤ L.length ∧ t = .slice ad (ints ((L.take k).map (fun b => nand (bit m - 1) b))).length cp ∧ i = .int .i64 k ∧ wr = u.val ∧ Hid (Own Y.heap.size u.val ad cp (ints ((L.take k).map (fun b => nand (bit m - 1) b))))) (fun _ i _ => L.length - (intOf i).toNat)
  case atStart => exact ⟨0, none, 0, y, by omega, rfl, rfl, rfl, Own.nil _ _⟩
  case round =>
    clear y
    obtain ⟨k, ad, cp, u, hk, rfl, rfl, rfl, HO⟩ := hrel
    by_cases hlt : k < L.length
    · obtain ⟨b, off, rfl, hbB, hcell⟩ := (HI.out.to u).at (k := k) (by rw [ints_len]; exact hlt)
      have c0 : ∀ v : Later u.val.heap.size u.val, v.val.cell? ⟨b, off + k, none⟩ = some (.int .i64 ((L.getD k 0 : Nat) : Int)) := fun v => by rw [← ints_getD]; exact hcell v k (by rw [ints_len]; exact hlt)
      have h8 := H8.out k hlt
      have t0 : ∀ v : Later u.val.heap.size u.val, v.val.cell? ⟨gu, 0, none⟩ = some (.int .i64 m) := fun v => z0 (u.up v)
      have bc := bit_cast m
      have w1 := IntWalk.i64_in (bit m : Int) (by omega)
      have w2 := IntWalk.i64_in ((bit m : Int) - 1) (by omega)
      have o1 : bits .andNot .i64 ((bit m : Int) - 1) ((L.getD k 0 : Nat) : Int) = ((nand (bit m - 1) (L.getD k 0) : Nat) : Int) := by
        rw [show (bit m : Int) - 1 = ((bit m - 1 : Nat) : Int) by omega]
        exact i64_andNot _ _ (by omega) (by omega)
      have HS := Lib.hid (take_map_step (fun b => nand (bit m - 1) b) L hlt)
      have HLn : Hid ((ints ((L.take k).map (fun b => nand (bit m - 1) b))).length ≤ 1048576) := Lib.hid (by
        rw [ints_len, List.length_map]
        have := List.length_take_le k L
        omega)
      clear hcell
      obtain ⟨v0, hv0⟩ : ∃ v0 : Later u.val.heap.size u.val, v0.val = u.val := ⟨Later.self _, rfl⟩
      rw [← hv0]
      clear hv0
      generalize (L.take k).map (fun b => nand (bit m - 1) b) = T at *
      generalize nand (bit m - 1) (L.getD k 0) = z at *
      generalize L.getD k 0 = x at *
      go_wp2_with (first | (at_builtin; refine wpList_push (B := Y.heap.size) (W := Y) (w := v0.val) (u.up v0).below (u.up v0).size rfl _ _ rfl (ints T) ad cp (z : Int) rfl (HO.out.keep v0.below) rfl (by have := HLn.out; omega) ?_; intro u2 ad2 cp2 hown))
      go_roundw
      case rel => exact ⟨k+1, ad2, cp2, u2, by omega, by rw [HS.out, ints_snoc]; simp, by go_num, rfl, by rw [HS.out, ints_snoc]; exact hown⟩
      case measure => simp [intOf]; omega
    · have hke : k = L.length := by omega
      subst hke
      rw [List.take_length] at HO ⊢
      have KM := Lib.hid (c_made u m (m : Int) (L.map (fun b => nand (bit m - 1) b)) HN.out hm (by rw [List.length_map]; exact hL2) ad cp HO.out)
      obtain ⟨A, hA⟩ : ∃ A, those m (memB (L.map (fun b => nand (bit m - 1) b))) = A := ⟨_, rfl⟩
      rw [hA] at KM
      have HA := Lib.hid hA
      clear hA
      generalize (ints (L.map (fun b => nand (bit m - 1) b))).length = len at *
      have f0 : ∀ (w : Later Y.heap.size Y), w.val.cell? ⟨gu + 1, 0, none⟩ = some (.int .i64 0) := fun w => (HX.out.keep_at w.below hgr).cell rfl
      have z0 : ∀ (w : Later Y.heap.size Y), w.val.frozen? ⟨gu + 1, 0, none⟩ = false := fun w => (HX.out.keep_at w.below hgr).fz 0
      have f1 : ∀ (w : Later Y.heap.size Y) (x0 : Value), (w.val.setCell ⟨gu + 1, 0, none⟩ x0).cell? ⟨gu + 1, 1, none⟩ = some (.slice none 0 0) := fun w x0 => ((HX.out.keep_at w.below hgr).set 0 x0).cell rfl
      have z1 : ∀ (w : Later Y.heap.size Y) (x0 : Value), (w.val.setCell ⟨gu + 1, 0, none⟩ x0).frozen? ⟨gu + 1, 1, none⟩ = false := fun w x0 => ((HX.out.keep_at w.below hgr).set 0 x0).fz 1
      go_wp2_with (first | (go_at_call 164; ((with_reducible refine (KM.out).mono ?_); rintro e _ ⟨_, rfl, ⟨ad3, cp3, rfl, hO3⟩, v3, rfl⟩)))
      refine bodyPost_ret (results_row (vs := [.int .i64 m, .slice ad3 (ints A).length cp3]) rfl _ _ (gu + 1) rfl (((HX.out.keep v3.below).set 0 _).set 1 _) Try.underlying24 (by kernel_rfl)) rfl ?_
      obtain ⟨y1, hy1⟩ := later_set (HVY.out v3) (g := gu + 1) (i := 0) hBg (.int .i64 m)
      obtain ⟨y2, hy2⟩ := later_set ⟨y1, hy1⟩ (g := gu + 1) (i := 1) hBg (.slice ad3 (ints A).length cp3)
      have hus := u.size
      have hgu2 : gu + 1 < u.val.heap.size := by omega
      have hA := HA.out
      subst hA
      exact RetP.of ⟨y2, hy2⟩ ⟨_, _, rfl, ((hO3.set hgu2 _).set hgu2 _).mono (Nat.le_trans hB (Nat.le_trans (by omega) hus))⟩

end Go.Proofs.Ytjpcelldbhdneaa
