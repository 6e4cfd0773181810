
/-
  minors.Dual.
  minors.right, kept, made.
-/
import Derived.Test.YtefkhnibempibaaPk33
import Derived.Test.YtefkhnibempibaaPk09
import Derived.Test.YtefkhnibempibaaPk15
import Derived.Test.YtefkhnibempibaaPk05
namespace Go.Proofs.Ytefkhnibempibaa
open Go.RowKit
set_option linter.unusedVariables false

/-- a matroid whose bases lie in a row of the call's own, and an error -/
def MatTO (B : Nat) (n : Int) (xs : List Int) (er : Int) (v : Value) (w : World) : Prop := ∃ ad cp, v = .tuple #[.agg #[.int .i64 n, .slice ad xs.length cp], .int .i64 er] ∧ Own B w ad cp xs
theorem MatTO.no {B : Nat} {e : Int} {w : World} : MatTO B 0 [] e (.tuple #[.agg #[.int .i64 0, .slice none 0 0], .int .i64 e]) w := ⟨none, 0, rfl, Own.nil _ _⟩
theorem take_map_step (f : Nat → Nat) (L : List Nat) {k : Nat} (hk : k < L.length) : (L.take (k + 1)).map f = (L.take k).map f ++ [f (L.getD k 0)] := by
  rw [List.take_add_one, List.getElem?_eq_getElem hk, List.map_append]
  have : L.getD k 0 = L[k] := by simp [hk]
  rw [this]
  rfl

end Go.Proofs.Ytefkhnibempibaa

namespace Go.Proofs.Ytefkhnibempibaa
open Go.RowKit
set_option linter.unusedVariables false

set_option maxRecDepth 100000 in
set_option maxHeartbeats 4000000 in
theorem c_right_no {B : Nat} {W : World} (u : Later B W) (n s : Int) (l : List Int) (a : Option Addr) (cap : Nat) (e : Int) (h : IntsAt B W a l) (hlen : l.length ≤ 4611686018427387904) (he : MatIs n l e) (h0 : e ≠ 0) :
    Calls Try.prog 47 #[.agg #[.int .i64 n, .slice a l.length cap], .int .i64 s] u.val (Ret B W (.int .i64 e)) := by
  have T0 : Hid (Two (u.val.alloc (.cells #[.int .i64 n, .slice a l.length cap] 24)) u.val.heap.size 24 (.int .i64 n) (.slice a l.length cap)) := Lib.hid (Two.new _ _ _ _)
  have hrr : u.val.heap.size < (u.val.alloc (.cells #[.int .i64 n, .slice a l.length cap] 24)).heap.size := by simp
  have hI : IntsAt (u.val.alloc (.cells #[.int .i64 n, .slice a l.length cap] 24)).heap.size (u.val.alloc (.cells #[.int .i64 n, .slice a l.length cap] 24)) a l := h.to (u.alloc _)
  have HV : Hid (∀ v : Later (u.val.alloc (.cells #[.int .i64 n, .slice a l.length cap] 24)).heap.size (u.val.alloc (.cells #[.int .i64 n, .slice a l.length cap] 24)), ∃ w : Later B W, w.val = v.val) := Lib.hid (fun v => ⟨(u.alloc _).up v, rfl⟩)
  have q0 : ∀ w : Later (u.val.alloc (.cells #[.int .i64 n, .slice a l.length cap] 24)).heap.size (u.val.alloc (.cells #[.int .i64 n, .slice a l.length cap] 24)), w.val.cell? ⟨u.val.heap.size, 0, none⟩ = some (.int .i64 n) := fun w => (T0.out.keep w.below).c0
  have q1 : ∀ w : Later (u.val.alloc (.cells #[.int .i64 n, .slice a l.length cap] 24)).heap.size (u.val.alloc (.cells #[.int .i64 n, .slice a l.length cap] 24)), w.val.cell? ⟨u.val.heap.size, 1, none⟩ = some (.slice a l.length cap) := fun w => (T0.out.keep w.below).c1
  have p0 : (u.val.alloc (.cells #[.int .i64 n, .slice a l.length cap] 24)).cell? ⟨u.val.heap.size, 0, none⟩ = some (.int .i64 n) := T0.out.c0
  have p1 : (u.val.alloc (.cells #[.int .i64 n, .slice a l.length cap] 24)).cell? ⟨u.val.heap.size, 1, none⟩ = some (.slice a l.length cap) := T0.out.c1
  have KC : Hid (Calls Try.prog 44 #[.agg #[.int .i64 n, .slice a l.length cap]] (u.val.alloc (.cells #[.int .i64 n, .slice a l.length cap] 24)) (Ret (u.val.alloc (.cells #[.int .i64 n, .slice a l.length cap] 24)).heap.size (u.val.alloc (.cells #[.int .i64 n, .slice a l.length cap] 24)) (.int .i64 e))) := Lib.hid (c_axCheck (Later.self _) n l a cap e hI hlen he)
  have d0 : (e != 0) = true := by rw [bne_iff_ne]; exact h0
  clear h hI he h0
  go_enter Try.func47, Try.ntmps47
  go_wp2_with (first | (go_at_call 44; (with_reducible refine (KC.out).mono ?_); rintro e _ ⟨rfl, v1, rfl⟩))
  go_ret
  exact Ret.of (HV.out v1) rfl

set_option maxRecDepth 100000 in
set_option maxHeartbeats 4000000 in
theorem c_right {B : Nat} {W : World} (u : Later B W) (n s : Int) (l : List Int) (a : Option Addr) (cap : Nat) (h : IntsAt B W a l) (hlen : l.length ≤ 4611686018427387904) (he : MatIs n l 0) :
    Calls Try.prog 47 #[.agg #[.int .i64 n, .slice a l.length cap], .int .i64 s] u.val (Ret B W (.int .i64 (errno (decide (isSet n s)) 1))) := by
  have T0 : Hid (Two (u.val.alloc (.cells #[.int .i64 n, .slice a l.length cap] 24)) u.val.heap.size 24 (.int .i64 n) (.slice a l.length cap)) := Lib.hid (Two.new _ _ _ _)
  have hrr : u.val.heap.size < (u.val.alloc (.cells #[.int .i64 n, .slice a l.length cap] 24)).heap.size := by simp
  have hI : IntsAt (u.val.alloc (.cells #[.int .i64 n, .slice a l.length cap] 24)).heap.size (u.val.alloc (.cells #[.int .i64 n, .slice a l.length cap] 24)) a l := h.to (u.alloc _)
  have HV : Hid (∀ v : Later (u.val.alloc (.cells #[.int .i64 n, .slice a l.length cap] 24)).heap.size (u.val.alloc (.cells #[.int .i64 n, .slice a l.length cap] 24)), ∃ w : Later B W, w.val = v.val) := Lib.hid (fun v => ⟨(u.alloc _).up v, rfl⟩)
  have q0 : ∀ w : Later (u.val.alloc (.cells #[.int .i64 n, .slice a l.length cap] 24)).heap.size (u.val.alloc (.cells #[.int .i64 n, .slice a l.length cap] 24)), w.val.cell? ⟨u.val.heap.size, 0, none⟩ = some (.int .i64 n) := fun w => (T0.out.keep w.below).c0
  have q1 : ∀ w : Later (u.val.alloc (.cells #[.int .i64 n, .slice a l.length cap] 24)).heap.size (u.val.alloc (.cells #[.int .i64 n, .slice a l.length cap] 24)), w.val.cell? ⟨u.val.heap.size, 1, none⟩ = some (.slice a l.length cap) := fun w => (T0.out.keep w.below).c1
  have p0 : (u.val.alloc (.cells #[.int .i64 n, .slice a l.length cap] 24)).cell? ⟨u.val.heap.size, 0, none⟩ = some (.int .i64 n) := T0.out.c0
  have p1 : (u.val.alloc (.cells #[.int .i64 n, .slice a l.length cap] 24)).cell? ⟨u.val.heap.size, 1, none⟩ = some (.slice a l.length cap) := T0.out.c1
  have KC : Hid (Calls Try.prog 44 #[.agg #[.int .i64 n, .slice a l.length cap]] (u.val.alloc (.cells #[.int .i64 n, .slice a l.length cap] 24)) (Ret (u.val.alloc (.cells #[.int .i64 n, .slice a l.length cap] 24)).heap.size (u.val.alloc (.cells #[.int .i64 n, .slice a l.length cap] 24)) (.int .i64 0))) := Lib.hid (c_axCheck (Later.self _) n l a cap 0 hI hlen he)
  have KS := Lib.hid (fun v : Later (u.val.alloc (.cells #[.int .i64 n, .slice a l.length cap] 24)).heap.size (u.val.alloc (.cells #[.int .i64 n, .slice a l.length cap] 24)) => c_setsCheck v n s)
  clear h hI he
  generalize errno (decide (isSet n s)) 1 = er at *
  go_enter Try.func47, Try.ntmps47
  go_wp2_with (first | (go_at_call 44; (with_reducible refine (KC.out).mono ?_); rintro e _ ⟨rfl, v1, rfl⟩) | (go_at_call 66; (with_reducible refine (KS.out _).mono ?_); rintro e _ ⟨rfl, v1, rfl⟩))
  go_ret
  exact Ret.of (HV.out v1) rfl

theorem growL_step (key : Nat → Int) (L : List Nat) (k : Nat) : growL key L (k + 1) = if (growL key L k).2 < key (L.getD k 0) then ([L.getD k 0], key (L.getD k 0)) else if key (L.getD k 0) = (growL key L k).2 then ((growL key L k).1 ++ [L.getD k 0], (growL key L k).2) else growL key L k := rfl

set_option maxRecDepth 100000 in
set_option maxHeartbeats 8000000 in
theorem c_kept {B : Nat} {W : World} (u : Later B W) (m : Nat) (hm : m ≤ 8) (s : Nat) (hs : s < bit m) (L : List Nat) (hL : ∀ b, b ∈ L → b < 256) (hlen : L.length ≤ 1048576) (a : Option Addr) (cap : Nat) (h : IntsAt B W a (ints L)) (wh : Bool) (key : Nat → Int) (hkey : ∀ b, key b = if wh = true then conKey s b else delKey m s b) :
    Calls Try.prog 74 #[.agg #[.int .i64 m, .slice a (ints L).length cap], .int .i64 s, .bool wh] u.val (RetOwn B W (ints (growL key L L.length).1)) := by
  have hb := bit_le m hm
  have T0 : Hid (Two (u.val.alloc (.cells #[.int .i64 m, .slice a (ints L).length cap] 24)) u.val.heap.size 24 (.int .i64 m) (.slice a (ints L).length cap)) := Lib.hid (Two.new _ _ _ _)
  have hrr : u.val.heap.size < (u.val.alloc (.cells #[.int .i64 m, .slice a (ints L).length cap] 24)).heap.size := by simp
  have hI : IntsAt (u.val.alloc (.cells #[.int .i64 m, .slice a (ints L).length cap] 24)).heap.size (u.val.alloc (.cells #[.int .i64 m, .slice a (ints L).length cap] 24)) a (ints L) := h.to (u.alloc _)
  have HV : Hid (∀ v : Later (u.val.alloc (.cells #[.int .i64 m, .slice a (ints L).length cap] 24)).heap.size (u.val.alloc (.cells #[.int .i64 m, .slice a (ints L).length cap] 24)), ∃ w : Later B W, w.val = v.val) := Lib.hid (fun v => ⟨(u.alloc _).up v, rfl⟩)
  have q0 : ∀ w : Later (u.val.alloc (.cells #[.int .i64 m, .slice a (ints L).length cap] 24)).heap.size (u.val.alloc (.cells #[.int .i64 m, .slice a (ints L).length cap] 24)), w.val.cell? ⟨u.val.heap.size, 0, none⟩ = some (.int .i64 m) := fun w => (T0.out.keep w.below).c0
  have q1 : ∀ w : Later (u.val.alloc (.cells #[.int .i64 m, .slice a (ints L).length cap] 24)).heap.size (u.val.alloc (.cells #[.int .i64 m, .slice a (ints L).length cap] 24)), w.val.cell? ⟨u.val.heap.size, 1, none⟩ = some (.slice a (ints L).length cap) := fun w => (T0.out.keep w.below).c1
  have p0 : (u.val.alloc (.cells #[.int .i64 m, .slice a (ints L).length cap] 24)).cell? ⟨u.val.heap.size, 0, none⟩ = some (.int .i64 m) := T0.out.c0
  have p1 : (u.val.alloc (.cells #[.int .i64 m, .slice a (ints L).length cap] 24)).cell? ⟨u.val.heap.size, 1, none⟩ = some (.slice a (ints L).length cap) := T0.out.c1
  have HI := Lib.hid hI
  have HB : Hid (B ≤ (u.val.alloc (.cells #[.int .i64 m, .slice a (ints L).length cap] 24)).heap.size) := Lib.hid (by have := u.size; simp; omega)
  have H8 : Hid (∀ k, k < L.length → L.getD k 0 < 256) := Lib.hid (fun k hk => hL _ (by simp [hk]))
  have hss := sz_le_m hm hs
  clear hI h hL T0
  go_enter Try.func74, Try.ntmps74
  go_upto_region 3 with fail
  generalize (u.val.alloc (.cells #[.int .i64 m, .slice a (ints L).length cap] 24)) = V at *
  generalize u.val.heap.size = gu at *
  obtain ⟨y, hy⟩ : ∃ y : Later V.heap.size V, y.val = V := ⟨Later.self _, rfl⟩
  rw [← hy]
  clear hy p0 p1
  have hil : (ints L).length = L.length := ints_len L
  rw [hil] at q1 ⊢
  go_wp2
  go_loopw [7, 8, 15] (fun o t i wr => ∃ (k : Nat) (ad : Option Addr) (cp : Nat) (u : Later V.heap.size V), k ≤ L.length ∧ o = .int .i64 (growL key L k).2 ∧ t = .slice ad (ints (growL key L k).1).length cp ∧ i = .int .i64 k ∧ wr = u.val ∧ Hid (Own V.heap.size u.val ad cp (ints (growL key L k).1))) (fun _ _ i _ => L.length - (intOf i).toNat)
  case atStart => exact ⟨0, none, 0, y, by omega, rfl, rfl, rfl, rfl, Own.nil _ _⟩
  case round =>
    clear y
    obtain ⟨k, ad, cp, u, hk, rfl, rfl, rfl, rfl, HO⟩ := hrel
    by_cases hlt : k < L.length
    · obtain ⟨b, off, rfl, hbB, hcell⟩ := (HI.out.to u).at (k := k) (by rw [ints_len]; exact hlt)
      have c0 : ∀ v : Later u.val.heap.size u.val, v.val.cell? ⟨b, off + k, none⟩ = some (.int .i64 ((L.getD k 0 : Nat) : Int)) := fun v => by rw [← ints_getD]; exact hcell v k (by rw [ints_len]; exact hlt)
      have h8 := H8.out k hlt
      have t0 : ∀ v : Later u.val.heap.size u.val, v.val.cell? ⟨gu, 0, none⟩ = some (.int .i64 m) := fun v => q0 (u.up v)
      have hand : L.getD k 0 &&& s < 256 := Nat.lt_of_le_of_lt Nat.and_le_left h8
      have hsa : sz (L.getD k 0 &&& s) ≤ 8 := sz_le _
      have KS := Lib.hid (fun v : Later u.val.heap.size u.val => c_size_minors v (L.getD k 0 &&& s) hand)
      have o1 := i64_and (L.getD k 0) s (by omega) (by omega)
      have HK := Lib.hid (hkey (L.getD k 0))
      have HS := Lib.hid (growL_step key L k)
      have HLn : Hid ((ints (growL key L k).1).length ≤ 1048576) := Lib.hid (by rw [ints_len]; have := growL_len key L k; omega)
      have hw : IntKind.i64.wrap ((m : Int) - ((sz (L.getD k 0 &&& s) : Nat) : Int)) = (m : Int) - ((sz (L.getD k 0 &&& s) : Nat) : Int) := IntWalk.i64_in _ (by omega)
      unfold conKey delKey at HK
      clear hcell
      obtain ⟨v0, hv0⟩ : ∃ v0 : Later u.val.heap.size u.val, v0.val = u.val := ⟨Later.self _, rfl⟩
      rw [← hv0]
      clear hv0
      cases wh
      all_goals
        have HK2 := Lib.hid HK.out
        simp only [Bool.false_eq_true, if_true, if_false] at HK2
        rcases ilt (growL key L k).2 (key (L.getD k 0)) with ⟨g1, d1⟩ | ⟨g1, d1⟩
        · rw [HK2.out] at d1
          have HN : Hid (growL key L (k + 1) = ([L.getD k 0], key (L.getD k 0))) := Lib.hid (by rw [HS.out, if_pos g1])
          rw [HK2.out] at HN
          clear HS g1 HK HK2 HO
          generalize (growL key L k).1 = T at *
          generalize (growL key L k).2 = q at *
          generalize sz (L.getD k 0 &&& s) = z at *
          generalize L.getD k 0 &&& s = xs at *
          generalize L.getD k 0 = x at *
          go_wp2_with (first | (go_at_call 76; refine (KS.out _).mono ?_; rintro e _ ⟨rfl, v1, rfl⟩) | (at_builtin; refine wpList_push (B := V.heap.size) (W := V) (w := v1.val) (u.up v1).below (u.up v1).size rfl _ _ rfl ([] : List Int) none 0 (x : Int) rfl (Own.nil _ _) rfl (by simp) ?_; intro u2 ad2 cp2 hown))
          go_roundw
          case rel => exact ⟨k+1, ad2, cp2, u2, by omega, by rw [HN.out], by rw [HN.out]; rfl, by go_num, rfl, by rw [HN.out]; exact hown⟩
          case measure => simp [intOf]; omega
        · rcases ieq (key (L.getD k 0)) (growL key L k).2 with ⟨g2, d2, _⟩ | ⟨g2, d2, _⟩
          · rw [HK2.out] at d1 d2
            have HN : Hid (growL key L (k + 1) = ((growL key L k).1 ++ [L.getD k 0], (growL key L k).2)) := Lib.hid (by rw [HS.out, if_neg (by omega), if_pos g2])
            clear HS g1 g2 HK HK2
            generalize (growL key L k).1 = T at *
            generalize (growL key L k).2 = q at *
            generalize sz (L.getD k 0 &&& s) = z at *
            generalize L.getD k 0 &&& s = xs at *
            generalize L.getD k 0 = x at *
            go_wp2_with (first | (go_at_call 76; refine (KS.out _).mono ?_; rintro e _ ⟨rfl, v1, rfl⟩) | (at_builtin; refine wpList_push (B := V.heap.size) (W := V) (w := v1.val) (u.up v1).below (u.up v1).size rfl _ _ rfl (ints T) ad cp (x : Int) rfl (HO.out.keep v1.below) rfl (by have := HLn.out; omega) ?_; intro u2 ad2 cp2 hown))
            go_roundw
            case rel => exact ⟨k+1, ad2, cp2, u2, by omega, by rw [HN.out], by rw [HN.out, ints_snoc]; simp, by go_num, rfl, by rw [HN.out, ints_snoc]; exact hown⟩
            case measure => simp [intOf]; omega
          · rw [HK2.out] at d1 d2
            have HN : Hid (growL key L (k + 1) = growL key L k) := Lib.hid (by rw [HS.out, if_neg (by omega), if_neg g2])
            clear HS g1 g2 HK HK2
            have HN1 : Hid ((growL key L (k + 1)).1 = (growL key L k).1 ∧ (growL key L (k + 1)).2 = (growL key L k).2) := Lib.hid ⟨by rw [HN.out], by rw [HN.out]⟩
            clear HN
            generalize (growL key L k).1 = T at *
            generalize (growL key L k).2 = q at *
            generalize sz (L.getD k 0 &&& s) = z at *
            generalize L.getD k 0 &&& s = xs at *
            generalize L.getD k 0 = x at *
            go_wp2_with (first | (go_at_call 76; refine (KS.out _).mono ?_; rintro e _ ⟨rfl, v1, rfl⟩))
            go_roundw
            case rel => exact ⟨k+1, ad, cp, u.up v1, by omega, by rw [HN1.out.2], by rw [HN1.out.1], by go_num, rfl, by rw [HN1.out.1]; exact HO.out.keep v1.below⟩
            case measure => simp [intOf]; omega
    · have hke : k = L.length := by omega
      subst hke
      go_wp2
      go_ret
      exact RetP.of (HV.out u) ⟨ad, cp, rfl, HO.out.mono HB.out⟩

end Go.Proofs.Ytefkhnibempibaa
