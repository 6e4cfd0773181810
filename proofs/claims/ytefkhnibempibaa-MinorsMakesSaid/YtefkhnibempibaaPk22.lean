
/-
  rotaref.Simple; the function value of a relaxed circuit.
  rotaref.Components, Classes: whole.
-/
import Derived.Test.YtefkhnibempibaaPk21
namespace Go.Proofs.Ytefkhnibempibaa
open Go.RowKit
set_option linter.unusedVariables false

/-- what goes away behind the first k elements ahead of i -/
def gI (L : List Nat) (i k : Nat) : Nat := if rgI L i k = true then rgT L i ||| bit i else rgT L i
theorem gI_zero (L : List Nat) (i : Nat) : gI L i 0 = rgT L i := rfl
theorem gI_yes {L : List Nat} {i k : Nat} (h1 : rk L (bit k ||| bit i) = 1) (h2 : rk L (bit k) = 1) : gI L i (k + 1) = gI L i k ||| bit i := by
  have e : rgI L i (k + 1) = true := by rw [rgI, h1, h2]; simp
  unfold gI
  rw [if_pos e]
  split
  · rw [Nat.or_assoc, Nat.or_self]
  · rfl
theorem gI_no {L : List Nat} {i k : Nat} (h : ¬ (rk L (bit k ||| bit i) = 1 ∧ rk L (bit k) = 1)) : gI L i (k + 1) = gI L i k := by
  have e : rgI L i (k + 1) = rgI L i k := by
    rw [rgI]
    have : (decide (rk L (bit k ||| bit i) = 1) && decide (rk L (bit k) = 1)) = false := by
      rw [Bool.eq_false_iff]; intro c
      rw [Bool.and_eq_true, decide_eq_true_eq, decide_eq_true_eq] at c
      exact h c
    rw [this, Bool.or_false]
  unfold gI
  rw [e]
theorem gI_loop {L : List Nat} {i : Nat} (h : rk L (bit i) = 0) : rgT L (i + 1) = gI L i i ||| bit i := by
  rw [rgT, if_pos (.inr h)]
  unfold gI
  split
  · rw [Nat.or_assoc, Nat.or_self]
  · rfl
theorem gI_done {L : List Nat} {i : Nat} (h : rk L (bit i) ≠ 0) : rgT L (i + 1) = gI L i i := by
  rw [rgT]
  unfold gI
  by_cases c : rgI L i i = true
  · rw [if_pos (.inl c), if_pos c]
  · rw [if_neg (fun e => e.elim c h), if_neg c]
theorem rgT_lt (L : List Nat) {m : Nat} : ∀ i, i ≤ m → rgT L i < bit m
  | 0, _ => bit_pos m
  | i + 1, hi => by
    have ih := rgT_lt L (m := m) i (by omega)
    rw [rgT]
    split
    · exact or_lt_bit ih (bit_lt_bit (by omega))
    · exact ih
theorem gI_lt (L : List Nat) {m i : Nat} (hi : i < m) (k : Nat) : gI L i k < bit m := by
  have ih := rgT_lt L (m := m) i (by omega)
  unfold gI
  split
  · exact or_lt_bit ih (bit_lt_bit hi)
  · exact ih

set_option maxRecDepth 100000 in
set_option maxHeartbeats 16000000 in
theorem c_refSimple {B : Nat} {W : World} (u : Later B W) (m : Nat) (hm : m ≤ 8) (L : List Nat) (a : Option Addr) (cap : Nat) (h : IntsAt B W a (ints L)) (hlen : (ints L).length ≤ 4611686018427387904) (hf : isFam (m : Int) (ints L)) (hTN : toN (ints L) = L) :
    Calls Try.prog 12 #[.agg #[.int .i64 m, .slice a (ints L).length cap]] u.val (RetP B W (MatO B (cnt (rgT L m) m : Nat) (ints (those (cnt (rgT L m) m) (ofRank (cnt (rgT L m) m) (delR m L (rgT L m))))))) := by
  have hB := u.size
  have hb := bit_le m hm
  have T0 : Hid (Two (u.val.alloc (.cells #[.int .i64 m, .slice a (ints L).length cap] 24)) u.val.heap.size 24 (.int .i64 m) (.slice a (ints L).length cap)) := Lib.hid (Two.new _ _ _ _)
  have hrr : u.val.heap.size < (u.val.alloc (.cells #[.int .i64 m, .slice a (ints L).length cap] 24)).heap.size := by simp
  have hI : IntsAt (u.val.alloc (.cells #[.int .i64 m, .slice a (ints L).length cap] 24)).heap.size (u.val.alloc (.cells #[.int .i64 m, .slice a (ints L).length cap] 24)) a (ints L) := h.to (u.alloc _)
  have HV : Hid (∀ v : Later (u.val.alloc (.cells #[.int .i64 m, .slice a (ints L).length cap] 24)).heap.size (u.val.alloc (.cells #[.int .i64 m, .slice a (ints L).length cap] 24)), ∃ w : Later B W, w.val = v.val) := Lib.hid (fun v => ⟨(u.alloc _).up v, rfl⟩)
  have q0 : ∀ w : Later (u.val.alloc (.cells #[.int .i64 m, .slice a (ints L).length cap] 24)).heap.size (u.val.alloc (.cells #[.int .i64 m, .slice a (ints L).length cap] 24)), w.val.cell? ⟨u.val.heap.size, 0, none⟩ = some (.int .i64 m) := fun w => (T0.out.keep w.below).c0
  have q1 : ∀ w : Later (u.val.alloc (.cells #[.int .i64 m, .slice a (ints L).length cap] 24)).heap.size (u.val.alloc (.cells #[.int .i64 m, .slice a (ints L).length cap] 24)), w.val.cell? ⟨u.val.heap.size, 1, none⟩ = some (.slice a (ints L).length cap) := fun w => (T0.out.keep w.below).c1
  have p0 : (u.val.alloc (.cells #[.int .i64 m, .slice a (ints L).length cap] 24)).cell? ⟨u.val.heap.size, 0, none⟩ = some (.int .i64 m) := T0.out.c0
  have p1 : (u.val.alloc (.cells #[.int .i64 m, .slice a (ints L).length cap] 24)).cell? ⟨u.val.heap.size, 1, none⟩ = some (.slice a (ints L).length cap) := T0.out.c1
  have hM1 : (u.val.alloc (.cells #[.int .i64 m, .slice a (ints L).length cap] 24)).heap.size = u.val.heap.size + 1 := by simp
  have XM : RowL ((u.val.alloc (.cells #[.int .i64 m, .slice a (ints L).length cap] 24)).alloc (.cells #[.int .i64 0, .slice none 0 0] 24)) (u.val.alloc (.cells #[.int .i64 m, .slice a (ints L).length cap] 24)).heap.size 24 [.int .i64 0, .slice none 0 0] := RowL.new _ _ _
  rw [hM1] at XM
  have HX := Lib.hid XM
  have hgr : u.val.heap.size + 1 < ((u.val.alloc (.cells #[.int .i64 m, .slice a (ints L).length cap] 24)).alloc (.cells #[.int .i64 0, .slice none 0 0] 24)).heap.size := XM.lt
  have hIY : IntsAt ((u.val.alloc (.cells #[.int .i64 m, .slice a (ints L).length cap] 24)).alloc (.cells #[.int .i64 0, .slice none 0 0] 24)).heap.size ((u.val.alloc (.cells #[.int .i64 m, .slice a (ints L).length cap] 24)).alloc (.cells #[.int .i64 0, .slice none 0 0] 24)) a (ints L) := hI.to ((Later.self (u.val.alloc (.cells #[.int .i64 m, .slice a (ints L).length cap] 24))).alloc _)
  have KR : Hid (∀ v : Later ((u.val.alloc (.cells #[.int .i64 m, .slice a (ints L).length cap] 24)).alloc (.cells #[.int .i64 0, .slice none 0 0] 24)).heap.size ((u.val.alloc (.cells #[.int .i64 m, .slice a (ints L).length cap] 24)).alloc (.cells #[.int .i64 0, .slice none 0 0] 24)), Calls Try.prog 27 #[.agg #[.int .i64 m, .slice a (ints L).length cap]] v.val (RetP v.val.heap.size v.val (fun x w => ∃ g c, x = .slice (some ⟨g, 0, none⟩) (bit m) c ∧ ITab w g (bit m) (fun j => (rk L j : Int))))) := Lib.hid (fun v => c_ranksL (Later.self v.val) m hm L a cap (hIY.to v) hlen hf hTN)
  have KD : Hid (∀ (v : Later ((u.val.alloc (.cells #[.int .i64 m, .slice a (ints L).length cap] 24)).alloc (.cells #[.int .i64 0, .slice none 0 0] 24)).heap.size ((u.val.alloc (.cells #[.int .i64 m, .slice a (ints L).length cap] 24)).alloc (.cells #[.int .i64 0, .slice none 0 0] 24))) (s : Nat), s < bit m → Calls Try.prog 40 #[.agg #[.int .i64 m, .slice a (ints L).length cap], .int .i64 s] v.val (RetP v.val.heap.size v.val (MatO v.val.heap.size (cnt s m : Nat) (ints (those (cnt s m) (ofRank (cnt s m) (delR m L s))))))) := Lib.hid (fun v s hs => c_refDeleted (Later.self v.val) m hm L a cap (hIY.to v) hlen hf hTN s hs)
  have HVY : Hid (∀ v : Later ((u.val.alloc (.cells #[.int .i64 m, .slice a (ints L).length cap] 24)).alloc (.cells #[.int .i64 0, .slice none 0 0] 24)).heap.size ((u.val.alloc (.cells #[.int .i64 m, .slice a (ints L).length cap] 24)).alloc (.cells #[.int .i64 0, .slice none 0 0] 24)), ∃ w : Later B W, w.val = v.val) := Lib.hid (fun v => ⟨((u.alloc _).alloc _).up v, rfl⟩)
  have y0 : ∀ w : Later ((u.val.alloc (.cells #[.int .i64 m, .slice a (ints L).length cap] 24)).alloc (.cells #[.int .i64 0, .slice none 0 0] 24)).heap.size ((u.val.alloc (.cells #[.int .i64 m, .slice a (ints L).length cap] 24)).alloc (.cells #[.int .i64 0, .slice none 0 0] 24)), w.val.cell? ⟨u.val.heap.size, 0, none⟩ = some (.int .i64 m) := fun w => q0 (((Later.self (u.val.alloc (.cells #[.int .i64 m, .slice a (ints L).length cap] 24))).alloc _).up w)
  have y1 : ∀ w : Later ((u.val.alloc (.cells #[.int .i64 m, .slice a (ints L).length cap] 24)).alloc (.cells #[.int .i64 0, .slice none 0 0] 24)).heap.size ((u.val.alloc (.cells #[.int .i64 m, .slice a (ints L).length cap] 24)).alloc (.cells #[.int .i64 0, .slice none 0 0] 24)), w.val.cell? ⟨u.val.heap.size, 1, none⟩ = some (.slice a (ints L).length cap) := fun w => q1 (((Later.self (u.val.alloc (.cells #[.int .i64 m, .slice a (ints L).length cap] 24))).alloc _).up w)
  have x0 : ((u.val.alloc (.cells #[.int .i64 m, .slice a (ints L).length cap] 24)).alloc (.cells #[.int .i64 0, .slice none 0 0] 24)).cell? ⟨u.val.heap.size, 0, none⟩ = some (.int .i64 m) := y0 (Later.self _)
  have x1 : ((u.val.alloc (.cells #[.int .i64 m, .slice a (ints L).length cap] 24)).alloc (.cells #[.int .i64 0, .slice none 0 0] 24)).cell? ⟨u.val.heap.size, 1, none⟩ = some (.slice a (ints L).length cap) := y1 (Later.self _)
  clear h hI XM q0 q1 p0 p1 T0 HV hM1 hIY hlen hf hTN
  go_enter Try.func12, Try.ntmps12
  go_upto_region 1 with fail
  generalize ((u.val.alloc (.cells #[.int .i64 m, .slice a (ints L).length cap] 24)).alloc (.cells #[.int .i64 0, .slice none 0 0] 24)) = Y at *
  generalize u.val.heap.size = gu at *
  have hBg : B ≤ gu + 1 := by omega
  obtain ⟨y, hy⟩ : ∃ y : Later Y.heap.size Y, y.val = Y := ⟨Later.self _, rfl⟩
  rw [← hy]
  have r0 := y0 y
  have r1 := y1 y
  clear hy
  go_upto_region 2 with (first | (go_at_call 27; ((with_reducible refine (KR.out y).mono ?_); rintro e _ ⟨_, rfl, ⟨g, c, rfl, hT⟩, v1, rfl⟩)) | fail)
  have HT := Lib.hid hT
  have HVV : Hid (∀ w : Later v1.val.heap.size v1.val, ∃ w2 : Later Y.heap.size Y, w2.val = w.val) := Lib.hid (fun w => ⟨(y.up v1).up w, rfl⟩)
  have z0 : ∀ w : Later v1.val.heap.size v1.val, w.val.cell? ⟨gu, 0, none⟩ = some (.int .i64 m) := fun w => y0 ((y.up v1).up w)
  clear hT r0 r1 x0 x1 KR
  obtain ⟨z, hz⟩ : ∃ z : Later v1.val.heap.size v1.val, z.val = v1.val := ⟨Later.self _, rfl⟩
  rw [← hz]
  clear hz
  generalize v1.val = V at *
  go_wp2
  go_loopw [4, 5] (fun gn i wr => ∃ (q : Nat) (v : Later V.heap.size V), q ≤ m ∧ gn = .int .i64 (rgT L q) ∧ i = .int .i64 q ∧ wr = v.val) (fun _ i _ => m - (intOf i).toNat)
  case atStart => exact ⟨0, z, by omega, rfl, rfl, rfl⟩
  case round =>
    clear z
    obtain ⟨i, v, hi, rfl, rfl, rfl⟩ := hrel
    have zv := z0 v
    by_cases hlt : i < m
    · have hi1 : Hid (i + 1 ≤ m) := Lib.hid hlt
      have HiL := Lib.hid hlt
      have bi := bit_lt_bit hlt
      have bci := bit_cast i
      have wi := IntWalk.i64_in (bit i : Int) (by omega)
      go_upto_region 6 with fail
      go_loopw [4, 6] (fun gn j wr => ∃ (k : Nat) (v : Later V.heap.size V), k ≤ i ∧ gn = .int .i64 (gI L i k) ∧ j = .int .i64 k ∧ wr = v.val) (fun _ j _ => i - (intOf j).toNat)
      case atStart => exact ⟨0, v, by omega, by rw [gI_zero], rfl, rfl⟩
      case round =>
        clear v zv
        obtain ⟨k, v, hk, rfl, rfl, rfl⟩ := hrel
        have zv := z0 v
        have hgl := gI_lt L HiL.out k
        have og := i64_or (gI L i k) (bit i) (by omega) (by omega)
        by_cases hki : k < i
        · have bk : bit k < bit m := bit_lt_bit (by have := HiL.out; omega)
          have bck := bit_cast k
          have wk := IntWalk.i64_in (bit k : Int) (by omega)
          have hor : bit k ||| bit i < bit m := or_lt_bit bk bi
          have o1 := i64_or (bit k) (bit i) (by omega) (by omega)
          have c1 : ∀ v : Later V.heap.size V, v.val.cell? ⟨g, bit k ||| bit i, none⟩ = some (.int .i64 (rk L (bit k ||| bit i) : Int)) := fun v => (HT.out.keep v.below).cell hor
          have c2 : ∀ v : Later V.heap.size V, v.val.cell? ⟨g, bit k, none⟩ = some (.int .i64 (rk L (bit k) : Int)) := fun v => (HT.out.keep v.below).cell bk
          have HYes : Hid (rk L (bit k ||| bit i) = 1 → rk L (bit k) = 1 → gI L i (k + 1) = gI L i k ||| bit i) := Lib.hid (fun h1 h2 => gI_yes h1 h2)
          have HNo : Hid (¬ (rk L (bit k ||| bit i) = 1 ∧ rk L (bit k) = 1) → gI L i (k + 1) = gI L i k) := Lib.hid gI_no
          have hk1 : Hid (k + 1 ≤ i) := Lib.hid hki
          go_upto_region 8 with fail
          rcases ieq (rk L (bit k ||| bit i) : Int) 1 with ⟨h1, d1, _⟩ | ⟨h1, d1, _⟩
          · rcases ieq (rk L (bit k) : Int) 1 with ⟨h2, d2, _⟩ | ⟨h2, d2, _⟩
            · have HS := Lib.hid (HYes.out (by omega) (by omega))
              have H12 := Lib.hid (And.intro h1 h2)
              clear HYes HNo h1 h2
              generalize rk L (bit k ||| bit i) = ra at *
              generalize rk L (bit k) = rb at *
              generalize bit k ||| bit i = so at *
              generalize gI L i k = gg at *
              refine wp_region_later v (by kernel_rfl) (by kernel_rfl) (fun _ => ?_)
              repeat (first | go_big_quiet_step ((fail)) | (refine wpQuiet_step (fun K hK => ?_); go_simp; refine ⟨_, fun _ => rfl, ?_⟩; refine hK _ ?_; clear hK K))
              refine wpQuiet_nil ?_
              intro v
              have zv := z0 v
              go_wp2
              go_roundw
              case rel => exact ⟨k+1, v, hk1.out, by rw [HS.out], by go_num, rfl⟩
              case measure => have := hk1.out; simp [intOf]; omega
            · have HS := Lib.hid (HNo.out (fun h => h2 (by omega)))
              have H12 := Lib.hid (And.intro h1 h2)
              clear HYes HNo h1 h2
              generalize rk L (bit k ||| bit i) = ra at *
              generalize rk L (bit k) = rb at *
              generalize bit k ||| bit i = so at *
              generalize gI L i k = gg at *
              refine wp_region_later v (by kernel_rfl) (by kernel_rfl) (fun _ => ?_)
              repeat (first | go_big_quiet_step ((fail)) | (refine wpQuiet_step (fun K hK => ?_); go_simp; refine ⟨_, fun _ => rfl, ?_⟩; refine hK _ ?_; clear hK K))
              refine wpQuiet_nil ?_
              intro v
              have zv := z0 v
              go_wp2
              go_roundw
              case rel => exact ⟨k+1, v, hk1.out, by rw [HS.out], by go_num, rfl⟩
              case measure => have := hk1.out; simp [intOf]; omega
          · have HS := Lib.hid (HNo.out (fun h => h1 (by omega)))
            have H12 := Lib.hid h1
            clear HYes HNo h1
            generalize rk L (bit k ||| bit i) = ra at *
            generalize rk L (bit k) = rb at *
            generalize bit k ||| bit i = so at *
            generalize gI L i k = gg at *
            refine wp_region_later v (by kernel_rfl) (by kernel_rfl) (fun _ => ?_)
            repeat (first | go_big_quiet_step ((fail)) | (refine wpQuiet_step (fun K hK => ?_); go_simp; refine ⟨_, fun _ => rfl, ?_⟩; refine hK _ ?_; clear hK K))
            refine wpQuiet_nil ?_
            intro v
            have zv := z0 v
            go_wp2
            go_roundw
            case rel => exact ⟨k+1, v, hk1.out, by rw [HS.out], by go_num, rfl⟩
            case measure => have := hk1.out; simp [intOf]; omega
        · have hke : k = i := by omega
          subst hke
          have c2 : v.val.cell? ⟨g, bit k, none⟩ = some (.int .i64 (rk L (bit k) : Int)) := (HT.out.keep v.below).cell bi
          rcases ieq (rk L (bit k) : Int) 0 with ⟨h2, d2, _⟩ | ⟨h2, d2, _⟩
          · have HS := Lib.hid (gI_loop (L := L) (i := k) (by omega))
            have H12 := Lib.hid h2
            clear h2
            generalize rk L (bit k) = rb at *
            generalize gI L k k = gg at *
            go_wp2
            go_roundw
            case rel => exact ⟨k+1, v, hi1.out, by rw [HS.out], by go_num, rfl⟩
            case measure => have := hi1.out; simp [intOf]; omega
          · have HS := Lib.hid (gI_done (L := L) (i := k) (by omega))
            have H12 := Lib.hid h2
            clear h2
            generalize rk L (bit k) = rb at *
            generalize gI L k k = gg at *
            go_wp2
            go_roundw
            case rel => exact ⟨k+1, v, hi1.out, by rw [HS.out], by go_num, rfl⟩
            case measure => have := hi1.out; simp [intOf]; omega
    · have hqe : i = m := by omega
      subst hqe
      have hgl := rgT_lt L (m := i) i (Nat.le_refl _)
      obtain ⟨w2, hw2⟩ := HVV.out v
      rw [← hw2]
      have KD1 := Lib.hid (KD.out w2 (rgT L i) hgl)
      have r0 := y0 w2
      have r1 := y1 w2
      clear KD hgl HVV HT hw2 zv z0
      generalize ints (those (cnt (rgT L i) i) (ofRank (cnt (rgT L i) i) (delR i L (rgT L i)))) = A at *
      generalize cnt (rgT L i) i = cn at *
      generalize rgT L i = rg at *
      have f0 : ∀ (w : Later Y.heap.size Y), w.val.cell? ⟨gu + 1, 0, none⟩ = some (.int .i64 0) := fun w => (HX.out.keep_at w.below hgr).cell rfl
      have z0 : ∀ (w : Later Y.heap.size Y), w.val.frozen? ⟨gu + 1, 0, none⟩ = false := fun w => (HX.out.keep_at w.below hgr).fz 0
      have f1 : ∀ (w : Later Y.heap.size Y) (x0 : Value), (w.val.setCell ⟨gu + 1, 0, none⟩ x0).cell? ⟨gu + 1, 1, none⟩ = some (.slice none 0 0) := fun w x0 => ((HX.out.keep_at w.below hgr).set 0 x0).cell rfl
      have z1 : ∀ (w : Later Y.heap.size Y) (x0 : Value), (w.val.setCell ⟨gu + 1, 0, none⟩ x0).frozen? ⟨gu + 1, 1, none⟩ = false := fun w x0 => ((HX.out.keep_at w.below hgr).set 0 x0).fz 1
      go_wp2_with (first | (go_at_call 40; (with_reducible refine (KD1.out).mono ?_); rintro e _ ⟨_, rfl, ⟨ad3, cp3, rfl, hO3⟩, v3, rfl⟩; obtain ⟨w3, hw3⟩ : ∃ w3 : Later Y.heap.size Y, w3.val = v3.val := ⟨w2.up v3, rfl⟩; rw [← hw3] at hO3 ⊢; clear hw3) | fail)
      have hws := w2.size
      have hgu2 : gu + 1 < w2.val.heap.size := by omega
      refine bodyPost_ret (results_cell_row rfl _ _ (gu + 1) 24 #[.int .i64 cn, .slice ad3 A.length cp3] (0, 0) _ rfl (((HX.out.keep w3.below).set 0 _).set 1 _) Try.underlying24 rfl (by kernel_rfl)) rfl ?_
      obtain ⟨x1, hx1⟩ := later_set (HVY.out w3) (g := gu + 1) (i := 0) hBg (.int .i64 cn)
      obtain ⟨x2, hx2⟩ := later_set ⟨x1, hx1⟩ (g := gu + 1) (i := 1) hBg (.slice ad3 A.length cp3)
      exact RetP.of ⟨x2, hx2⟩ ⟨_, _, rfl, ((hO3.set hgu2 _).set hgu2 _).mono (Nat.le_trans hB (Nat.le_trans (by omega) hws))⟩

end Go.Proofs.Ytefkhnibempibaa

namespace Go.Proofs.Ytefkhnibempibaa
open Go.RowKit
set_option linter.unusedVariables false

set_option maxRecDepth 100000 in
set_option maxHeartbeats 4000000 in
theorem c_leastO {B : Nat} {W : World} (u : Later B W) (m : Nat) (hm : m ≤ 8) (L : List Nat) (h256 : ∀ b, b ∈ L → b < 256) (hlen : L.length ≤ 4611686018427387904) (a : Option Addr) (cap : Nat) (h : IntsAt B W a (ints L)) :
    Calls Try.prog 31 #[.int .i64 m, .slice a (ints L).length cap] u.val (RetOwn B W (ints (those m (leastB L)))) := by
  have hb := bit_le m hm
  have T0 : Hid (RowAt1 (u.val.alloc (.cells #[.slice a (ints L).length cap] 22)) u.val.heap.size 22 (.slice a (ints L).length cap)) := Lib.hid (heap_alloc_new _ _)
  have hI : IntsAt (u.val.alloc (.cells #[.slice a (ints L).length cap] 22)).heap.size (u.val.alloc (.cells #[.slice a (ints L).length cap] 22)) a (ints L) := h.to (u.alloc _)
  have hr : u.val.heap.size < (u.val.alloc (.cells #[.slice a (ints L).length cap] 22)).heap.size := by simp
  have K : Hid (Calls Try.prog 15 #[.int .i64 m, .func (.func 58) #[] #[.pointer (some ⟨u.val.heap.size, 0, none⟩)]] (u.val.alloc (.cells #[.slice a (ints L).length cap] 22)) (RetOwn (u.val.alloc (.cells #[.slice a (ints L).length cap] 22)).heap.size (u.val.alloc (.cells #[.slice a (ints L).length cap] 22)) (ints (those m (leastB L))))) := Lib.hid (by
    refine c_those_own (Later.self _) m hm 58 _ (leastB L) (fun args w => by kernel_rfl) (fun x v s hs => ?_)
    exact c_leastTell v L h256 hlen cap u.val.heap.size a s (by omega) (hI.to x) (Nat.lt_of_lt_of_le hr x.size) ((T0.out.keep x.below).c0))
  clear h hI T0 hr h256
  go_enter Try.func31, Try.ntmps31
  go_wp2_with (first | (go_at_call 15; refine (K.out).mono ?_; rintro e _ ⟨_, rfl, ⟨ad1, cp1, rfl, hO1⟩, v1, rfl⟩))
  go_ret
  exact RetP.mk ((u.alloc _).up v1) ⟨_, _, rfl, hO1.mono (by have := u.size; simp; omega)⟩

set_option maxRecDepth 100000 in
set_option maxHeartbeats 8000000 in
theorem c_refComps {B : Nat} {W : World} (u : Later B W) (m : Nat) (hm : m ≤ 8) (L : List Nat) (a : Option Addr) (cap : Nat) (h : IntsAt B W a (ints L)) (hlen : (ints L).length ≤ 4611686018427387904) (hf : isFam (m : Int) (ints L)) (hTN : toN (ints L) = L) :
    Calls Try.prog 11 #[.agg #[.int .i64 m, .slice a (ints L).length cap]] u.val (RetOwn B W (ints (those m (leastB (those m (sepB m L)))))) := by
  have hb := bit_le m hm
  have T0 : Hid (Two (u.val.alloc (.cells #[.int .i64 m, .slice a (ints L).length cap] 24)) u.val.heap.size 24 (.int .i64 m) (.slice a (ints L).length cap)) := Lib.hid (Two.new _ _ _ _)
  have hrr : u.val.heap.size < (u.val.alloc (.cells #[.int .i64 m, .slice a (ints L).length cap] 24)).heap.size := by simp
  have hI : IntsAt (u.val.alloc (.cells #[.int .i64 m, .slice a (ints L).length cap] 24)).heap.size (u.val.alloc (.cells #[.int .i64 m, .slice a (ints L).length cap] 24)) a (ints L) := h.to (u.alloc _)
  have HV : Hid (∀ v : Later (u.val.alloc (.cells #[.int .i64 m, .slice a (ints L).length cap] 24)).heap.size (u.val.alloc (.cells #[.int .i64 m, .slice a (ints L).length cap] 24)), ∃ w : Later B W, w.val = v.val) := Lib.hid (fun v => ⟨(u.alloc _).up v, rfl⟩)
  have q0 : ∀ w : Later (u.val.alloc (.cells #[.int .i64 m, .slice a (ints L).length cap] 24)).heap.size (u.val.alloc (.cells #[.int .i64 m, .slice a (ints L).length cap] 24)), w.val.cell? ⟨u.val.heap.size, 0, none⟩ = some (.int .i64 m) := fun w => (T0.out.keep w.below).c0
  have q1 : ∀ w : Later (u.val.alloc (.cells #[.int .i64 m, .slice a (ints L).length cap] 24)).heap.size (u.val.alloc (.cells #[.int .i64 m, .slice a (ints L).length cap] 24)), w.val.cell? ⟨u.val.heap.size, 1, none⟩ = some (.slice a (ints L).length cap) := fun w => (T0.out.keep w.below).c1
  have p0 : (u.val.alloc (.cells #[.int .i64 m, .slice a (ints L).length cap] 24)).cell? ⟨u.val.heap.size, 0, none⟩ = some (.int .i64 m) := T0.out.c0
  have p1 : (u.val.alloc (.cells #[.int .i64 m, .slice a (ints L).length cap] 24)).cell? ⟨u.val.heap.size, 1, none⟩ = some (.slice a (ints L).length cap) := T0.out.c1
  have KR : Hid (Calls Try.prog 27 #[.agg #[.int .i64 m, .slice a (ints L).length cap]] (u.val.alloc (.cells #[.int .i64 m, .slice a (ints L).length cap] 24)) (RetP (u.val.alloc (.cells #[.int .i64 m, .slice a (ints L).length cap] 24)).heap.size (u.val.alloc (.cells #[.int .i64 m, .slice a (ints L).length cap] 24)) (fun v w => ∃ g c, v = .slice (some ⟨g, 0, none⟩) (bit m) c ∧ ITab w g (bit m) (fun j => (rk L j : Int))))) := Lib.hid (c_ranksL (Later.self (u.val.alloc (.cells #[.int .i64 m, .slice a (ints L).length cap] 24))) m hm L a cap hI hlen hf hTN)
  have HN8 : Hid (∀ b, b ∈ those m (sepB m L) → b < 256) := Lib.hid (fun b hb' => by have := (mem_those.1 hb').1; omega)
  have HNl : Hid ((those m (sepB m L)).length ≤ 256) := Lib.hid (by have := thoseTo_len (sepB m L) (bit m); have e : those m (sepB m L) = thoseTo (sepB m L) (bit m) := rfl; rw [e]; omega)
  clear h hI q0 q1
  go_enter Try.func11, Try.ntmps11
  go_upto_region 2 with (first | (go_at_call 27; ((with_reducible refine (KR.out).mono ?_); rintro e _ ⟨_, rfl, ⟨gt, c, rfl, hT⟩, v1, rfl⟩)) | fail)
  have XB : Hid (RowAt1 (v1.val.alloc (.cells #[.slice (some ⟨gt, 0, none⟩) (bit m) c] 22)) v1.val.heap.size 22 (.slice (some ⟨gt, 0, none⟩) (bit m) c)) := Lib.hid (RowAt1.new _ _ _)
  have HT : Hid (ITab (v1.val.alloc (.cells #[.slice (some ⟨gt, 0, none⟩) (bit m) c] 22)) gt (bit m) (fun j => (rk L j : Int))) := Lib.hid (hT.keep ((Below.refl _ _).alloc (Nat.le_refl _) _))
  have hgt : gt < v1.val.heap.size := hT.lt
  have hxs : (v1.val.alloc (.cells #[.slice (some ⟨gt, 0, none⟩) (bit m) c] 22)).heap.size = v1.val.heap.size + 1 := by simp
  have hvs := v1.size
  have x0 : ∀ y : Later (v1.val.alloc (.cells #[.slice (some ⟨gt, 0, none⟩) (bit m) c] 22)).heap.size (v1.val.alloc (.cells #[.slice (some ⟨gt, 0, none⟩) (bit m) c] 22)), y.val.cell? ⟨u.val.heap.size, 0, none⟩ = some (.int .i64 m) := fun y => (((T0.out.keep v1.below).keep ((Below.refl _ _).alloc (Nat.le_refl _) _)).keep y.below).c0
  have HVX : Hid (∀ y : Later (v1.val.alloc (.cells #[.slice (some ⟨gt, 0, none⟩) (bit m) c] 22)).heap.size (v1.val.alloc (.cells #[.slice (some ⟨gt, 0, none⟩) (bit m) c] 22)), ∃ w : Later B W, w.val = y.val) := Lib.hid (fun y => HV.out ((v1.alloc _).up y))
  have K1 : Hid (Calls Try.prog 15 #[.int .i64 m, .func (.func 39) #[] #[.pointer (some ⟨v1.val.heap.size, 0, none⟩), .pointer (some ⟨u.val.heap.size, 0, none⟩)]] (v1.val.alloc (.cells #[.slice (some ⟨gt, 0, none⟩) (bit m) c] 22)).drew (RetInts (v1.val.alloc (.cells #[.slice (some ⟨gt, 0, none⟩) (bit m) c] 22)).heap.size (v1.val.alloc (.cells #[.slice (some ⟨gt, 0, none⟩) (bit m) c] 22)) (ints (those m (sepB m L))))) := Lib.hid (by
    refine c_those (Later.self (v1.val.alloc (.cells #[.slice (some ⟨gt, 0, none⟩) (bit m) c] 22))).drew m hm 39 _ (sepB m L) (fun args w => by kernel_rfl) (fun x v s hs => ?_)
    have hxz := x.size
    exact c_compTell v m hm L s u.val.heap.size v1.val.heap.size gt c hs (by omega) (by omega) (by omega) (x0 x) ((XB.out.keep x.below).c0) (HT.out.keep x.below))
  have t0 := x0 (Later.self (v1.val.alloc (.cells #[.slice (some ⟨gt, 0, none⟩) (bit m) c] 22)))
  clear hT XB HT KR p0 p1 T0 HV
  go_region_held3 (fun w' => w'.cell? ⟨u.val.heap.size, 0, none⟩ = some (.int .i64 m)) (first | exact t0 | exact x0 y1 | exact x0 (y1.up y2) | fail) (first | (go_at_call 15; (with_reducible refine (K1.out).mono ?_); rintro e _ ⟨_, rfl, ⟨ad2, cp2, rfl, hI2, hcp2⟩, y1, rfl⟩) | (go_at_call 31; refine (c_leastO (Later.self y1.val) m hm (those m (sepB m L)) HN8.out (by have := HNl.out; omega) ad2 cp2 hI2).mono ?_; rintro e _ ⟨_, rfl, ⟨ad3, cp3, rfl, hO3⟩, y2, rfl⟩) | fail)
  go_wp2
  go_ret
  refine RetP.of (HVX.out (y1.up y2)) ?_
  have h1 := y1.size
  have hB := u.size
  have h2 : (v1.val.alloc (.cells #[.slice (some ⟨gt, 0, none⟩) (bit m) c] 22)).heap.size = v1.val.heap.size + 1 := by simp
  exact ⟨_, _, rfl, hO3.mono (by omega)⟩

set_option maxRecDepth 100000 in
set_option maxHeartbeats 8000000 in
theorem c_refClasses {B : Nat} {W : World} (u : Later B W) (m : Nat) (hm : m ≤ 8) (L : List Nat) (a : Option Addr) (cap : Nat) (h : IntsAt B W a (ints L)) (hlen : (ints L).length ≤ 4611686018427387904) (hf : isFam (m : Int) (ints L)) (hTN : toN (ints L) = L) :
    Calls Try.prog 10 #[.agg #[.int .i64 m, .slice a (ints L).length cap]] u.val (RetOwn B W (ints (those m (clsP m L)))) := by
  have hb := bit_le m hm
  have T0 : Hid (Two (u.val.alloc (.cells #[.int .i64 m, .slice a (ints L).length cap] 24)) u.val.heap.size 24 (.int .i64 m) (.slice a (ints L).length cap)) := Lib.hid (Two.new _ _ _ _)
  have hrr : u.val.heap.size < (u.val.alloc (.cells #[.int .i64 m, .slice a (ints L).length cap] 24)).heap.size := by simp
  have hI : IntsAt (u.val.alloc (.cells #[.int .i64 m, .slice a (ints L).length cap] 24)).heap.size (u.val.alloc (.cells #[.int .i64 m, .slice a (ints L).length cap] 24)) a (ints L) := h.to (u.alloc _)
  have HV : Hid (∀ v : Later (u.val.alloc (.cells #[.int .i64 m, .slice a (ints L).length cap] 24)).heap.size (u.val.alloc (.cells #[.int .i64 m, .slice a (ints L).length cap] 24)), ∃ w : Later B W, w.val = v.val) := Lib.hid (fun v => ⟨(u.alloc _).up v, rfl⟩)
  have q0 : ∀ w : Later (u.val.alloc (.cells #[.int .i64 m, .slice a (ints L).length cap] 24)).heap.size (u.val.alloc (.cells #[.int .i64 m, .slice a (ints L).length cap] 24)), w.val.cell? ⟨u.val.heap.size, 0, none⟩ = some (.int .i64 m) := fun w => (T0.out.keep w.below).c0
  have q1 : ∀ w : Later (u.val.alloc (.cells #[.int .i64 m, .slice a (ints L).length cap] 24)).heap.size (u.val.alloc (.cells #[.int .i64 m, .slice a (ints L).length cap] 24)), w.val.cell? ⟨u.val.heap.size, 1, none⟩ = some (.slice a (ints L).length cap) := fun w => (T0.out.keep w.below).c1
  have p0 : (u.val.alloc (.cells #[.int .i64 m, .slice a (ints L).length cap] 24)).cell? ⟨u.val.heap.size, 0, none⟩ = some (.int .i64 m) := T0.out.c0
  have p1 : (u.val.alloc (.cells #[.int .i64 m, .slice a (ints L).length cap] 24)).cell? ⟨u.val.heap.size, 1, none⟩ = some (.slice a (ints L).length cap) := T0.out.c1
  have KR : Hid (Calls Try.prog 27 #[.agg #[.int .i64 m, .slice a (ints L).length cap]] (u.val.alloc (.cells #[.int .i64 m, .slice a (ints L).length cap] 24)) (RetP (u.val.alloc (.cells #[.int .i64 m, .slice a (ints L).length cap] 24)).heap.size (u.val.alloc (.cells #[.int .i64 m, .slice a (ints L).length cap] 24)) (fun v w => ∃ g c, v = .slice (some ⟨g, 0, none⟩) (bit m) c ∧ ITab w g (bit m) (fun j => (rk L j : Int))))) := Lib.hid (c_ranksL (Later.self (u.val.alloc (.cells #[.int .i64 m, .slice a (ints L).length cap] 24))) m hm L a cap hI hlen hf hTN)
  clear h hI q0 q1
  go_enter Try.func10, Try.ntmps10
  go_upto_region 2 with (first | (go_at_call 27; ((with_reducible refine (KR.out).mono ?_); rintro e _ ⟨_, rfl, ⟨gt, c, rfl, hT⟩, v1, rfl⟩)) | fail)
  have XB : Hid (RowAt1 (v1.val.alloc (.cells #[.slice (some ⟨gt, 0, none⟩) (bit m) c] 22)) v1.val.heap.size 22 (.slice (some ⟨gt, 0, none⟩) (bit m) c)) := Lib.hid (RowAt1.new _ _ _)
  have HT : Hid (ITab (v1.val.alloc (.cells #[.slice (some ⟨gt, 0, none⟩) (bit m) c] 22)) gt (bit m) (fun j => (rk L j : Int))) := Lib.hid (hT.keep ((Below.refl _ _).alloc (Nat.le_refl _) _))
  have hgt : gt < v1.val.heap.size := hT.lt
  have hxs : (v1.val.alloc (.cells #[.slice (some ⟨gt, 0, none⟩) (bit m) c] 22)).heap.size = v1.val.heap.size + 1 := by simp
  have hvs := v1.size
  have x0 : ∀ y : Later (v1.val.alloc (.cells #[.slice (some ⟨gt, 0, none⟩) (bit m) c] 22)).heap.size (v1.val.alloc (.cells #[.slice (some ⟨gt, 0, none⟩) (bit m) c] 22)), y.val.cell? ⟨u.val.heap.size, 0, none⟩ = some (.int .i64 m) := fun y => (((T0.out.keep v1.below).keep ((Below.refl _ _).alloc (Nat.le_refl _) _)).keep y.below).c0
  have HVX : Hid (∀ y : Later (v1.val.alloc (.cells #[.slice (some ⟨gt, 0, none⟩) (bit m) c] 22)).heap.size (v1.val.alloc (.cells #[.slice (some ⟨gt, 0, none⟩) (bit m) c] 22)), ∃ w : Later B W, w.val = y.val) := Lib.hid (fun y => HV.out ((v1.alloc _).up y))
  have K1 : Hid (∀ y : Later (v1.val.alloc (.cells #[.slice (some ⟨gt, 0, none⟩) (bit m) c] 22)).heap.size (v1.val.alloc (.cells #[.slice (some ⟨gt, 0, none⟩) (bit m) c] 22)), Calls Try.prog 15 #[.int .i64 m, .func (.func 36) #[] #[.pointer (some ⟨v1.val.heap.size, 0, none⟩), .pointer (some ⟨u.val.heap.size, 0, none⟩)]] y.val (RetOwn (v1.val.alloc (.cells #[.slice (some ⟨gt, 0, none⟩) (bit m) c] 22)).heap.size (v1.val.alloc (.cells #[.slice (some ⟨gt, 0, none⟩) (bit m) c] 22)) (ints (those m (clsP m L))))) := Lib.hid (fun y => by
    refine c_those_own y m hm 36 _ (clsP m L) (fun args w => by kernel_rfl) (fun x v s hs => ?_)
    have hxz := x.size
    exact c_clsTell v m hm L s u.val.heap.size v1.val.heap.size gt c hs (by omega) (by omega) (by omega) (x0 x) ((XB.out.keep x.below).c0) (HT.out.keep x.below))
  have HBX : Hid (B ≤ (v1.val.alloc (.cells #[.slice (some ⟨gt, 0, none⟩) (bit m) c] 22)).heap.size) := Lib.hid (by have := u.size; omega)
  clear hT XB HT KR p0 p1 T0 HV hgt hxs hvs hrr
  generalize (v1.val.alloc (.cells #[.slice (some ⟨gt, 0, none⟩) (bit m) c] 22)) = X at *
  generalize v1.val.heap.size = gb at *
  obtain ⟨x, hx⟩ : ∃ x : Later X.heap.size X, x.val = X := ⟨Later.self _, rfl⟩
  rw [← hx]
  clear hx
  go_wp2_with (first | (go_at_call 15; (with_reducible refine (K1.out x).mono ?_); rintro e _ ⟨_, rfl, ⟨ad2, cp2, rfl, hO2⟩, y1, rfl⟩) | fail)
  go_ret
  refine RetP.of (HVX.out y1) ?_
  exact ⟨_, _, rfl, hO2.mono HBX.out⟩

end Go.Proofs.Ytefkhnibempibaa
