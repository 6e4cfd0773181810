
/-
  rotaref.Barrier, rotaref.Gammoid; links.right.
  slices.Clone of a list that is not nil; slices.Contains of edges; a list cut by its last.
-/
import Derived.Test.YtnhpefcjgaimeaaPk25
import Derived.Test.YtnhpefcjgaimeaaPk32
import Derived.Test.YtnhpefcjgaimeaaPk21
namespace Go.Proofs.Ytnhpefcjgaimeaa
open Go.RowKit
set_option linter.unusedVariables false

set_option maxRecDepth 100000 in
set_option maxHeartbeats 8000000 in
theorem c_barrier {B : Nat} {W : World} (u : Later B W) (n fr tw : Nat) (es : List (Int × Int)) (a : Option Addr) (cap : Nat) (h : EdgesAt B W a es) (hG : isGraph (n : Int) es) (hfr : fr < bit n) (htw : tw < bit n) :
    Calls Try.prog 7 #[.agg #[.int .i64 n, .slice a es.length cap], .int .i64 fr, .int .i64 tw] u.val (Ret B W (.int .i64 (barr n es fr tw))) := by
  have hn7 : n ≤ 7 := by have := hG.2.1; omega
  have hbn := bit_le n (by omega)
  have T0 : Hid (Two (u.val.alloc (.cells #[.int .i64 n, .slice a es.length cap] 24)) u.val.heap.size 24 (.int .i64 n) (.slice a es.length cap)) := Lib.hid (Two.new _ _ _ _)
  have hrr : u.val.heap.size < (u.val.alloc (.cells #[.int .i64 n, .slice a es.length cap] 24)).heap.size := by simp
  have HV : Hid (∀ v : Later (u.val.alloc (.cells #[.int .i64 n, .slice a es.length cap] 24)).heap.size (u.val.alloc (.cells #[.int .i64 n, .slice a es.length cap] 24)), ∃ w : Later B W, w.val = v.val) := Lib.hid (fun v => ⟨(u.alloc _).up v, rfl⟩)
  have HE : Hid (EdgesAt (u.val.alloc (.cells #[.int .i64 n, .slice a es.length cap] 24)).heap.size (u.val.alloc (.cells #[.int .i64 n, .slice a es.length cap] 24)) a es) := Lib.hid (h.to (u.alloc _))
  have HI := Lib.hid hG
  have HBe := Lib.hid (barr_spec (tw := tw) (Grf.of hG) hfr).1
  clear h hG
  go_enter Try.func7, Try.ntmps7
  go_upto_region 1 with fail
  generalize hr2 : u.val.heap.size = g0 at *
  generalize u.val.alloc (.cells #[.int .i64 n, .slice a es.length cap] 24) = W1 at *
  clear hr2 u
  obtain ⟨v0, hv0⟩ : ∃ v0 : Later W1.heap.size W1, v0.val = W1 := ⟨Later.self _, rfl⟩
  have q0 : ∀ v : Later W1.heap.size W1, v.val.cell? ⟨g0, 0, none⟩ = some (.int .i64 n) := fun v => (T0.out.keep_at v.below hrr).c0
  have q1 : ∀ v : Later W1.heap.size W1, v.val.cell? ⟨g0, 1, none⟩ = some (.slice a es.length cap) := fun v => (T0.out.keep_at v.below hrr).c1
  have KA : Hid (∀ v : Later W1.heap.size W1, Calls Try.prog 15 #[.int .i64 n] v.val (Ret W1.heap.size W1 (.int .i64 ((bit n : Int) - 1)))) := Lib.hid (fun v => by
    have := c_all v (n : Int) (by omega) (by omega)
    rwa [all_nat, show ((bit n - 1 : Nat) : Int) = (bit n : Int) - 1 by omega] at this)
  rw [← hv0]
  clear hv0
  go_wp2
  go_loopw [7, 8] (fun b i wr => ∃ (s : Nat) (v : Later W1.heap.size W1), s ≤ bit n ∧ i = .int .i64 s ∧ b = .int .i64 (bst (barO es fr tw) s) ∧ wr = v.val) (fun _ i _ => bit n - (intOf i).toNat)
  case atStart => exact ⟨0, v0, by omega, rfl, rfl, rfl⟩
  case round =>
    clear v0
    obtain ⟨s, v, hs, rfl, rfl, rfl⟩ := hrel
    have KA1 := Lib.hid (KA.out v)
    have q0v := q0 v
    rcases ile (s : Int) ((bit n : Int) - 1) with ⟨hlt, d0⟩ | ⟨hlt, d0⟩
    · have hsb : s < bit n := by omega
      have KP := Lib.hid (fun w : Later W1.heap.size W1 => c_paths w n fr s es a cap HE.out HI.out hfr hsb)
      have HSt : Hid (bst (barO es fr tw) (s + 1) = if barO es fr tw s = true ∧ (bst (barO es fr tw) s < 0 ∨ sz s < sz (bst (barO es fr tw) s).toNat) then (s : Int) else bst (barO es fr tw) s) := Lib.hid rfl
      have hlo := bst_lo (barO es fr tw) s
      have HO : Hid (barO es fr tw s = decide (rchS es fr s &&& tw = 0)) := Lib.hid rfl
      have hrl := rchS_lt es fr s
      have o1 := i64_and (rchS es fr s) tw (by omega) (by omega)
      have KZ := Lib.hid (fun (x : Nat) (hx : x < 256) (w : Later W1.heap.size W1) => c_size w x hx)
      have KZs := Lib.hid (KZ.out s (by omega))
      generalize barO es fr tw s = ok at *
      generalize rchS es fr s = X at *
      by_cases h0 : X &&& tw = 0
      · have hok : ok = true := by rw [HO.out]; simpa using h0
        subst hok
        rw [h0] at o1
        clear HO h0
        rcases ilt (bst (barO es fr tw) s) 0 with ⟨g1, d1⟩ | ⟨g1, d1⟩
        · have HN : Hid (bst (barO es fr tw) (s + 1) = s) := Lib.hid (by rw [HSt.out, if_pos ⟨rfl, .inl g1⟩])
          generalize bst (barO es fr tw) s = b at *
          clear HSt g1
          go_wp2_with (first | (go_at_call 15; refine (KA1.out).mono ?_; rintro e _ ⟨rfl, v1, rfl⟩) | (go_at_call 16; refine ((KP.out v1)).mono ?_; rintro e _ ⟨rfl, v2, rfl⟩))
          go_roundw
          case rel => exact ⟨s+1, v2, by omega, by go_num, by rw [HN.out], rfl⟩
          case measure => simp [intOf]; omega
        · obtain ⟨b, hb⟩ := Int.eq_ofNat_of_zero_le g1
          rw [hb] at HSt hlo d1 ⊢
          have KZb := Lib.hid (KZ.out b (by omega))
          have hb2 : ((b : Nat) : Int).toNat = b := by omega
          rw [hb2] at HSt
          have z1 := sz_le s
          have z2 := sz_le b
          rcases nlt (sz s) (sz b) with ⟨g2, d2⟩ | ⟨g2, d2⟩
          · have HN : Hid (bst (barO es fr tw) (s + 1) = s) := Lib.hid (by rw [HSt.out, if_pos ⟨rfl, .inr g2⟩])
            clear HSt hb
            generalize sz s = zs at *
            generalize sz b = zb at *
            go_wp2_with (first | (go_at_call 15; refine (KA1.out).mono ?_; rintro e _ ⟨rfl, v1, rfl⟩) | (go_at_call 16; refine ((KP.out v1)).mono ?_; rintro e _ ⟨rfl, v2, rfl⟩) | (go_at_call 8; refine ((KZs.out v2)).mono ?_; rintro e _ ⟨rfl, v3, rfl⟩) | (go_at_call 8; refine ((KZb.out v3)).mono ?_; rintro e _ ⟨rfl, v4, rfl⟩))
            go_roundw
            case rel => exact ⟨s+1, v4, by omega, by go_num, by rw [HN.out], rfl⟩
            case measure => simp [intOf]; omega
          · have HN : Hid (bst (barO es fr tw) (s + 1) = b) := Lib.hid (by rw [HSt.out, if_neg (by rintro ⟨_, c | c⟩ <;> omega)])
            clear HSt hb
            generalize sz s = zs at *
            generalize sz b = zb at *
            go_wp2_with (first | (go_at_call 15; refine (KA1.out).mono ?_; rintro e _ ⟨rfl, v1, rfl⟩) | (go_at_call 16; refine ((KP.out v1)).mono ?_; rintro e _ ⟨rfl, v2, rfl⟩) | (go_at_call 8; refine ((KZs.out v2)).mono ?_; rintro e _ ⟨rfl, v3, rfl⟩) | (go_at_call 8; refine ((KZb.out v3)).mono ?_; rintro e _ ⟨rfl, v4, rfl⟩))
            go_roundw
            case rel => exact ⟨s+1, v4, by omega, by go_num, by rw [HN.out], rfl⟩
            case measure => simp [intOf]; omega
      · have hok : ok = false := by rw [HO.out]; simpa using h0
        subst hok
        have HN : Hid (bst (barO es fr tw) (s + 1) = bst (barO es fr tw) s) := Lib.hid (by rw [HSt.out, if_neg (by rintro ⟨c, _⟩; cases c)])
        generalize bst (barO es fr tw) s = b at *
        have hx2 : X &&& tw ≤ X := Nat.and_le_left
        generalize X &&& tw = y at *
        have d1 : ((y : Int) == 0) = false := by rw [beq_eq_false_iff_ne]; omega
        clear HSt HO h0
        go_wp2_with (first | (go_at_call 15; refine (KA1.out).mono ?_; rintro e _ ⟨rfl, v1, rfl⟩) | (go_at_call 16; refine ((KP.out v1)).mono ?_; rintro e _ ⟨rfl, v2, rfl⟩))
        go_roundw
        case rel => exact ⟨s+1, v2, by omega, by go_num, by rw [HN.out], rfl⟩
        case measure => simp [intOf]; omega
    · have hse : s = bit n := by omega
      subst hse
      rw [HBe.out]
      go_wp2_with (first | (go_at_call 15; refine (KA1.out).mono ?_; rintro e _ ⟨rfl, v1, rfl⟩))
      go_ret
      obtain ⟨w, hw⟩ := HV.out v1
      rw [← hw]; exact Ret.mk w rfl

/-- a graph, and sets of its vertices -/
def lkOk (n : Int) (es : List (Int × Int)) (xs : List Int) : Prop := isGraph n es ∧ ∀ i, i < xs.length → 0 ≤ xs.getD i 0 ∧ xs.getD i 0 < bit n.toNat
noncomputable instance (n : Int) (es : List (Int × Int)) (xs : List Int) : Decidable (lkOk n es xs) := Classical.propDecidable _

set_option maxRecDepth 100000 in
set_option maxHeartbeats 8000000 in
theorem c_linksRight {B : Nat} {W : World} (u : Later B W) (n : Int) (es : List (Int × Int)) (xs : List Int) (a b : Option Addr) (cap cb : Nat) (h : EdgesAt B W a es) (hlen : es.length ≤ 4611686018427387904) (hx : IntsAt B W b xs) (hxl : xs.length ≤ 100) :
    Calls Try.prog 23 #[.agg #[.int .i64 n, .slice a es.length cap], .slice b xs.length cb] u.val (Ret B W (.int .i64 (errno (decide (lkOk n es xs)) 1))) := by
  have T0 : Hid (Two (u.val.alloc (.cells #[.int .i64 n, .slice a es.length cap] 24)) u.val.heap.size 24 (.int .i64 n) (.slice a es.length cap)) := Lib.hid (Two.new _ _ _ _)
  have hrr : u.val.heap.size < (u.val.alloc (.cells #[.int .i64 n, .slice a es.length cap] 24)).heap.size := by simp
  have HV : Hid (∀ v : Later (u.val.alloc (.cells #[.int .i64 n, .slice a es.length cap] 24)).heap.size (u.val.alloc (.cells #[.int .i64 n, .slice a es.length cap] 24)), ∃ w : Later B W, w.val = v.val) := Lib.hid (fun v => ⟨(u.alloc _).up v, rfl⟩)
  have HE : Hid (EdgesAt (u.val.alloc (.cells #[.int .i64 n, .slice a es.length cap] 24)).heap.size (u.val.alloc (.cells #[.int .i64 n, .slice a es.length cap] 24)) a es) := Lib.hid (h.to (u.alloc _))
  have HX : Hid (IntsAt (u.val.alloc (.cells #[.int .i64 n, .slice a es.length cap] 24)).heap.size (u.val.alloc (.cells #[.int .i64 n, .slice a es.length cap] 24)) b xs) := Lib.hid (hx.to (u.alloc _))
  clear h hx
  go_enter Try.func23, Try.ntmps23
  go_upto_region 1 with fail
  generalize hr2 : u.val.heap.size = g0 at *
  generalize u.val.alloc (.cells #[.int .i64 n, .slice a es.length cap] 24) = W1 at *
  clear hr2 u
  have p0 : W1.cell? ⟨g0, 0, none⟩ = some (.int .i64 n) := T0.out.c0
  have p1 : W1.cell? ⟨g0, 1, none⟩ = some (.slice a es.length cap) := T0.out.c1
  have q0 : ∀ v : Later W1.heap.size W1, v.val.cell? ⟨g0, 0, none⟩ = some (.int .i64 n) := fun v => (T0.out.keep_at v.below hrr).c0
  have K0 := Lib.hid (show Calls Try.prog 33 #[.agg #[.int .i64 n, .slice a es.length cap]] W1 _ from c_checkGraph (Later.self W1) n es a cap HE.out hlen)
  by_cases hG : isGraph n es
  · have e0 : errno (decide (isGraph n es)) 1 = 0 := by rw [decide_eq_true hG]; rfl
    rw [e0] at K0
    obtain ⟨m, rfl⟩ := Int.eq_ofNat_of_zero_le (show 0 ≤ n by have := hG.1; omega)
    have hm7 : m ≤ 7 := by have := hG.2.1; omega
    have bm := bit_cast m
    have hbm := bit_le m (by omega)
    have HP : Hid (∀ k, k = xs.length → (∀ i, i < k → 0 ≤ xs.getD i 0 ∧ xs.getD i 0 < bit m) → errno (decide (lkOk m es xs)) 1 = 0) := Lib.hid (fun k hk hf => by rw [decide_eq_true (p := lkOk m es xs) ⟨hG, by rw [← hk]; exact hf⟩]; rfl)
    have HN : Hid (∀ k, k < xs.length → ¬ (0 ≤ xs.getD k 0 ∧ xs.getD k 0 < bit m) → errno (decide (lkOk m es xs)) 1 = 1) := Lib.hid (fun k hk hf => by rw [decide_eq_false (p := lkOk m es xs) (fun c => hf (c.2 k hk))]; rfl)
    clear e0 hG
    generalize errno (decide (lkOk m es xs)) 1 = res at *
    go_wp2_with (first | (go_at_call 33; refine (K0.out).mono ?_; rintro e _ ⟨rfl, v0, rfl⟩))
    clear K0 p0 p1
    go_loopw [15] (fun i wr => ∃ (k : Nat) (v : Later W1.heap.size W1), k ≤ xs.length ∧ i = .int .i64 k ∧ wr = v.val ∧ Hid (∀ i, i < k → 0 ≤ xs.getD i 0 ∧ xs.getD i 0 < bit m)) (fun i _ => xs.length - (intOf i).toNat)
    case atStart => exact ⟨0, v0, by omega, rfl, rfl, Lib.hid (fun i hi => by omega)⟩
    case round =>
      clear v0
      obtain ⟨k, v, hk, rfl, rfl, hf⟩ := hrel
      have q0v := q0 v
      by_cases hlt : k < xs.length
      · obtain ⟨bb, off, rfl, hbB, hcell⟩ := HX.out.at hlt
        have c0 := hcell v k hlt
        have HY : Hid (0 ≤ xs.getD k 0 ∧ xs.getD k 0 < bit m → ∀ i, i < k + 1 → 0 ≤ xs.getD i 0 ∧ xs.getD i 0 < bit m) := Lib.hid (fun h i hi => by
          by_cases c : i = k
          · subst c; exact h
          · exact hf.out i (by omega))
        have HB := Lib.hid (HN.out k hlt)
        clear hcell hf
        generalize xs.getD k 0 = z at *
        rcases ilt z 0 with ⟨g1, p1⟩ | ⟨g1, p1⟩
        · have HR := Lib.hid (HB.out (by omega))
          clear HB HY g1
          go_wp2
          go_ret
          obtain ⟨w, hw⟩ := HV.out v
          rw [← hw]; exact Ret.mk w (vint HR.out.symm)
        · rcases ile (bit m : Int) z with ⟨g2, p2⟩ | ⟨g2, p2⟩
          · have HR := Lib.hid (HB.out (by omega))
            clear HB HY
            go_wp2
            go_ret
            obtain ⟨w, hw⟩ := HV.out v
            rw [← hw]; exact Ret.mk w (vint HR.out.symm)
          · have HF2 := Lib.hid (HY.out ⟨g1, g2⟩)
            clear HB HY
            go_wp2
            go_roundw
            case rel => exact ⟨k+1, v, by omega, by go_num, rfl, HF2⟩
            case measure => simp [intOf]; omega
      · have hke : k = xs.length := by omega
        have HR := Lib.hid (HP.out k hke hf.out)
        clear HP HN hf
        subst hke
        go_wp2
        go_ret
        obtain ⟨w, hw⟩ := HV.out v
        rw [← hw]; exact Ret.mk w (vint HR.out.symm)
  · have e0 : errno (decide (isGraph n es)) 1 = 1 := by rw [decide_eq_false hG]; rfl
    rw [e0] at K0
    have HR : Hid (errno (decide (lkOk n es xs)) 1 = 1) := Lib.hid (by rw [decide_eq_false (p := lkOk n es xs) (fun c => hG c.1)]; rfl)
    clear e0 hG
    go_wp2_with (first | (go_at_call 33; refine (K0.out).mono ?_; rintro e _ ⟨rfl, v0, rfl⟩))
    go_ret
    obtain ⟨w, hw⟩ := HV.out v0
    rw [← hw]; exact Ret.mk w (vint HR.out.symm)

end Go.Proofs.Ytnhpefcjgaimeaa

namespace Go.Proofs.Ytnhpefcjgaimeaa
open Go.RowKit
set_option linter.unusedVariables false

set_option maxHeartbeats 1000000 in
theorem c_cloneI {B : Nat} {W : World} (u : Later B W) (xs : List Int) (b off : Nat) (cap : Nat) (h : IntsAt B W (some ⟨b, off, none⟩) xs) (hlen : xs.length ≤ 1048576) :
    Calls Try.prog 28 #[.slice (some ⟨b, off, none⟩) xs.length cap] u.val (RetOwn B W xs) := by
  have HI : Hid (IntsAt (u.val.alloc (.cells #[] 3)).heap.size (u.val.alloc (.cells #[] 3)) (some ⟨b, off, none⟩) xs) := Lib.hid (h.to (u.alloc _))
  have hB := u.size
  have HO : Hid (Own B (u.val.alloc (.cells #[] 3)) (some ⟨u.val.heap.size, 0, none⟩) 0 []) := Lib.hid ⟨rfl, .inr ⟨u.val.heap.size, 0, #[], rfl, hB, heap_alloc_new _ _, by simp, by simp [maxLen], by simp, by simp⟩⟩
  have heq : ∀ w : World, (binOp .eql 43 (.slice (some ⟨b, off, none⟩) xs.length cap) (.slice none 0 0)).run Try.prog w = .ok (.bool false) w := fun w => by simp only [binOp]; simp [run_equal_slice_nil w 43 3 (some ⟨b, off, none⟩) xs.length cap Try.underlying43]
  clear h
  go_enter Try.func28, Try.ntmps28
  go_wp2_with (first | (at_builtin; refine wpList_appends_g (B := B) (by simp; omega) rfl _ _ rfl [] (some ⟨u.val.heap.size, 0, none⟩) 0 rfl HO.out xs (some ⟨b, off, none⟩) cap rfl HI.out (by simp) (by simp; omega) ?_; intro w' ad' cap' hown hgrow) | fail)
  go_ret
  refine RetP.mk ((u.alloc (.cells #[] 3)).to w' (own_below (Below.refl _ _) (u.alloc (.cells #[] 3)).size HO.out hgrow)) ⟨ad', cap', rfl, hown⟩

theorem edB_to (es : List (Int × Int)) (u v : Nat) : ∀ k, (List.range (k + 1)).any (fun k => decide (vA es k = u ∧ vB es k = v)) = ((List.range k).any (fun k => decide (vA es k = u ∧ vB es k = v)) || decide (vA es k = u ∧ vB es k = v)) := by
  intro k
  rw [List.range_succ, List.any_append]
  simp
theorem edB_no {es : List (Int × Int)} {u v : Nat} (h : ∀ i, i < es.length → ¬ (vA es i = u ∧ vB es i = v)) : edB es u v = false := by
  unfold edB
  rw [List.any_eq_false]
  intro i hi
  simp at hi
  simpa using h i hi
theorem edB_yes {es : List (Int × Int)} {u v i : Nat} (hi : i < es.length) (h : vA es i = u ∧ vB es i = v) : edB es u v = true := by
  unfold edB
  rw [List.any_eq_true]
  exact ⟨i, by simpa using hi, by simpa using h⟩

set_option maxRecDepth 100000 in
set_option maxHeartbeats 4000000 in
theorem c_indexE {B : Nat} {W : World} (u : Later B W) (n x y : Nat) (es : List (Int × Int)) (a : Option Addr) (cap : Nat) (h : EdgesAt B W a es) (hG : isGraph (n : Int) es) :
    Calls Try.prog 37 #[.slice a es.length cap, .agg #[.int .i64 x, .int .i64 y]] u.val (RetP B W (fun v w => ∃ i : Int, v = .int .i64 i ∧ decide (0 ≤ i) = edB es x y)) := by
  have he8 : es.length ≤ 8 := hG.2.2.1
  have T0 : Hid (Two (u.val.alloc (.cells #[.int .i64 x, .int .i64 y] 42)) u.val.heap.size 42 (.int .i64 x) (.int .i64 y)) := Lib.hid (Two.new _ _ _ _)
  have hrr : u.val.heap.size < (u.val.alloc (.cells #[.int .i64 x, .int .i64 y] 42)).heap.size := by simp
  have HV : Hid (∀ v : Later (u.val.alloc (.cells #[.int .i64 x, .int .i64 y] 42)).heap.size (u.val.alloc (.cells #[.int .i64 x, .int .i64 y] 42)), ∃ w : Later B W, w.val = v.val) := Lib.hid (fun v => ⟨(u.alloc _).up v, rfl⟩)
  have HE : Hid (EdgesAt (u.val.alloc (.cells #[.int .i64 x, .int .i64 y] 42)).heap.size (u.val.alloc (.cells #[.int .i64 x, .int .i64 y] 42)) a es) := Lib.hid (h.to (u.alloc _))
  have HI := Lib.hid hG
  have HY : Hid (∀ i, i < es.length → vA es i = x ∧ vB es i = y → edB es x y = true) := Lib.hid (fun i hi h => edB_yes hi h)
  have HN : Hid ((∀ i, i < es.length → ¬ (vA es i = x ∧ vB es i = y)) → edB es x y = false) := Lib.hid edB_no
  clear h hG
  generalize edB es x y = res at *
  go_enter Try.func37, Try.ntmps37
  go_upto_region 1 with fail
  generalize hr2 : u.val.heap.size = g0 at *
  generalize u.val.alloc (.cells #[.int .i64 x, .int .i64 y] 42) = W1 at *
  clear hr2 u
  obtain ⟨v0, hv0⟩ : ∃ v0 : Later W1.heap.size W1, v0.val = W1 := ⟨Later.self _, rfl⟩
  have q0 : ∀ v : Later W1.heap.size W1, v.val.cell? ⟨g0, 0, none⟩ = some (.int .i64 x) := fun v => (T0.out.keep_at v.below hrr).c0
  have q1 : ∀ v : Later W1.heap.size W1, v.val.cell? ⟨g0, 1, none⟩ = some (.int .i64 y) := fun v => (T0.out.keep_at v.below hrr).c1
  rw [← hv0]
  clear hv0
  go_wp2
  go_loopw [8] (fun i wr => ∃ (k : Nat) (v : Later W1.heap.size W1), k ≤ es.length ∧ i = .int .i64 k ∧ wr = v.val ∧ Hid (∀ i, i < k → ¬ (vA es i = x ∧ vB es i = y))) (fun i _ => es.length - (intOf i).toNat)
  case atStart => exact ⟨0, v0, by omega, rfl, rfl, Lib.hid (fun i hi => by omega)⟩
  case round =>
    clear v0
    obtain ⟨k, v, hk, rfl, rfl, HF⟩ := hrel
    by_cases hlt : k < es.length
    · obtain ⟨be, offe, rfl, hbe, hce⟩ := HE.out.at hlt
      have HX := HI.out.2.2.2 k hlt
      obtain ⟨a1, ha⟩ := Int.eq_ofNat_of_zero_le HX.1
      obtain ⟨b1, hb⟩ := Int.eq_ofNat_of_zero_le HX.2.1
      have hva : vA es k = a1 := by unfold vA; rw [ha]; rfl
      have hvb : vB es k = b1 := by unfold vB; rw [hb]; rfl
      have e0 : ∀ w : Later W1.heap.size W1, w.val.cell? ⟨be, offe + k * 2, none⟩ = some (.int .i64 (a1 : Int)) := fun w => by rw [← ha]; exact (hce w k hlt).1
      have e1 : ∀ w : Later W1.heap.size W1, w.val.cell? ⟨be, offe + k * 2 + 1, none⟩ = some (.int .i64 (b1 : Int)) := fun w => by rw [← hb]; exact (hce w k hlt).2
      have HY2 := Lib.hid (HY.out k hlt)
      have HF2 : Hid (¬ (vA es k = x ∧ vB es k = y) → ∀ i, i < k + 1 → ¬ (vA es i = x ∧ vB es i = y)) := Lib.hid (fun h i hi => by
        by_cases c : i = k
        · subst c; exact h
        · exact HF.out i (by omega))
      rw [hva, hvb] at HY2 HF2
      clear HX ha hb hce hva hvb HF
      rcases ieq (x : Int) (a1 : Int) with ⟨g1, d1, _⟩ | ⟨g1, d1, _⟩ <;> rcases ieq (y : Int) (b1 : Int) with ⟨g2, d2, _⟩ | ⟨g2, d2, _⟩
      case inl.inl =>
        have hr : res = true := HY2.out ⟨by omega, by omega⟩
        subst hr
        have f1 : (x == a1) = true := by rw [beq_iff_eq]; omega
        have f2 : (y == b1) = true := by rw [beq_iff_eq]; omega
        clear HY2 HF2 HY HN g1 g2
        go_wp2
        refine wp_region_later v (by kernel_rfl) (by kernel_rfl) (fun _ => ?_)
        repeat (first | go_big_quiet_step ((fail)) | (refine wpQuiet_step (fun K hK => ?_); go_simp; refine ⟨_, fun _ => rfl, ?_⟩; refine hK _ ?_; clear hK K))
        refine wpQuiet_nil ?_
        intro v
        go_wp2
        go_ret
        obtain ⟨w, hw⟩ := HV.out v
        exact RetP.of ⟨w, hw⟩ ⟨k, rfl, decide_eq_true (by omega)⟩
      all_goals
        have HF3 := Lib.hid (HF2.out (by omega))
        clear HY2 HF2
        go_wp2
        refine wp_region_later v (by kernel_rfl) (by kernel_rfl) (fun _ => ?_)
        repeat (first | go_big_quiet_step ((fail)) | (refine wpQuiet_step (fun K hK => ?_); go_simp; refine ⟨_, fun _ => rfl, ?_⟩; refine hK _ ?_; clear hK K))
        refine wpQuiet_nil ?_
        intro v
        go_wp2
        go_roundw
        case rel => exact ⟨k+1, v, by omega, by go_num, rfl, HF3⟩
        case measure => simp [intOf]; omega
    · have hke : k = es.length := by omega
      subst hke
      have hr := HN.out HF.out
      subst hr
      go_wp2
      go_ret
      obtain ⟨w, hw⟩ := HV.out v
      exact RetP.of ⟨w, hw⟩ ⟨-1, rfl, by decide⟩

set_option maxHeartbeats 1000000 in
theorem c_containsE {B : Nat} {W : World} (u : Later B W) (n x y : Nat) (es : List (Int × Int)) (a : Option Addr) (cap : Nat) (h : EdgesAt B W a es) (hG : isGraph (n : Int) es) :
    Calls Try.prog 29 #[.slice a es.length cap, .agg #[.int .i64 x, .int .i64 y]] u.val (Ret B W (.bool (edB es x y))) := by
  have T0 : Hid (Two (u.val.alloc (.cells #[.int .i64 x, .int .i64 y] 42)) u.val.heap.size 42 (.int .i64 x) (.int .i64 y)) := Lib.hid (Two.new _ _ _ _)
  have q0 : (u.val.alloc (.cells #[.int .i64 x, .int .i64 y] 42)).cell? ⟨u.val.heap.size, 0, none⟩ = some (.int .i64 x) := T0.out.c0
  have q1 : (u.val.alloc (.cells #[.int .i64 x, .int .i64 y] 42)).cell? ⟨u.val.heap.size, 1, none⟩ = some (.int .i64 y) := T0.out.c1
  have K := Lib.hid (c_indexE (Later.self (u.val.alloc (.cells #[.int .i64 x, .int .i64 y] 42))) n x y es a cap (h.to (u.alloc _)) hG)
  dsimp only [Later.self] at K
  have HV : Hid (∀ v : Later (u.val.alloc (.cells #[.int .i64 x, .int .i64 y] 42)).heap.size (u.val.alloc (.cells #[.int .i64 x, .int .i64 y] 42)), ∃ w : Later B W, w.val = v.val) := Lib.hid (fun v => ⟨(u.alloc _).up v, rfl⟩)
  clear h hG T0
  generalize edB es x y = res at *
  go_enter Try.func29, Try.ntmps29
  go_wp2_with (first | (go_at_call 37; (with_reducible refine (K.out).mono ?_); rintro e _ ⟨_, rfl, ⟨i, rfl, hi⟩, v1, rfl⟩))
  go_ret
  obtain ⟨w, hw⟩ := HV.out v1
  rw [← hw]
  first | exact Ret.mk w (vbool hi) | exact Ret.mk w rfl

/-- the list cut by its last -/
theorem OutW.pop {B b : Nat} {w : World} {ad : Option Addr} {cp : Nat} {rows : Rws} {r : List Nat} (h : OutW B b w ad cp (rows ++ [r])) : OutW B b (w.setCell ⟨b, 0, none⟩ (.slice ad rows.length cp)) ad cp rows := by
  have hOw := h
  obtain ⟨h1, h2, h3, vs, h4, h5⟩ := h
  have hk : Kept b (ownBlk ad) w (w.setCell ⟨b, 0, none⟩ (.slice ad rows.length cp)) := ⟨rfl, rfl, rfl, by simp, fun k _ hb _ => Below.heap_setCell _ _ _ _ hb⟩
  refine ⟨h1, by simpa using h2, h3.store, vs.take rows.length, ?_, fun i hi => ?_⟩
  · refine ownsRow_setCell_below ?_ h1 _
    obtain ⟨hl, h2'⟩ := h4
    rw [List.length_append] at hl h2'
    refine ⟨by simp at hl ⊢; omega, ?_⟩
    rcases h2' with ⟨e, hz⟩ | ⟨g', c, cur, e, hb', hh, hn, hc, hs, ht⟩
    · simp at hz
    · refine .inr ⟨g', c, cur, ?_, hb', hh, by simp at hn; omega, hc, hs, ?_⟩
      · simp only [Value.slice.injEq] at e ⊢
        exact ⟨e.1, trivial, e.2.2⟩
      · rw [← ht, List.take_take]
        congr 1
        simp
  · obtain ⟨ad', cp', e, rv⟩ := h5 i (by simp; omega)
    rw [getD_rows_lt hi] at e rv
    refine ⟨ad', cp', ?_, rv.kept hk (NewB.refl _ _)⟩
    rw [List.getElem?_take_of_lt hi]; exact e
theorem OutW.room {B b : Nat} {w : World} {ad : Option Addr} {cp : Nat} {rows : Rws} (h : OutW B b w ad cp rows) : rows.length ≤ cp := by
  obtain ⟨h1, h2, h3, vs, h4, h5⟩ := h
  rcases h4.2 with ⟨e, hz⟩ | ⟨g', c, cur, e, hb', hh, hn, _⟩
  · omega
  · simp only [Value.slice.injEq] at e
    omega

/-- append of one number that lies somewhere, at a step of a region that draws its order -/
theorem step_pushG {B : Nat} {W w : World} (hw : Below B W w) (hB : B ≤ w.heap.size) {ops : Array Oper} {o : Oper} {a : Act} {K : Act → World → Prop} {Q : Exit → Act → World → Prop} {E : Prop} (hgd : o.guard = none) (s x : Operand)
    (ho : o.op = .call { callee := .builtin .append, args := #[s, x], argTypes := #[43, 43] })
    (xs : List Int) (ad : Option Addr) (cap : Nat) (y : Int) (g0 cx : Nat) (hs : a.eval s = .slice ad xs.length cap) (hown : Own B w ad cap xs)
    (hx : a.eval x = .slice (some ⟨g0, 0, none⟩) 1 cx) (hc : w.cell? ⟨g0, 0, none⟩ = some (.int .i64 y))
    (hlen : xs.length + 1 ≤ 1099511627776)
    (h : ∀ (u' : Later B W) (ad' : Option Addr) (cap' : Nat), Own B u'.val ad' cap' (xs ++ [y]) → K (a.put o.dst (.slice ad' (xs ++ [y]).length cap')) u'.val) :
    if Region.wanted o (yielded ops a.tmps) = true then Oper.wp Try.prog o a w K Q else E := by
  obtain ⟨i0, hi, hz0, hz1, hz2⟩ := info_parts info_int
  refine step_append_lies _ hgd s x 43 ho B 3 i0 (.int .i64 0) 1 8 Try.underlying43 hi hz0 hz1 hz2 rfl (by decide) _ xs.length _ hs hown ⟨g0, 0, none⟩ 1 cx [.int .i64 y] hx rfl ?_ ?_ (by decide) (by unfold maxLen; omega) (by omega) hB _ rfl ?_
  · intro j v hj
    have hj0 : j = 0 := by
      have := (List.getElem?_eq_some_iff.1 hj).1
      simp at this
      omega
    subst hj0
    have e : (⟨g0, 0, none⟩ : Addr).add 0 = ⟨g0, 0, none⟩ := by unfold Addr.add; split <;> simp_all
    rw [e]
    simp at hj
    subst hj
    exact hc
  · intro v hv
    simp at hv
    subst hv
    rfl
  · intro g cap' w' h2 h3 _ _
    have hO : Own B w' (some ⟨g, 0, none⟩) cap' (xs ++ [y]) := by
      show w'.ownsRow B 3 1 (.slice (some ⟨g, 0, none⟩) (xs ++ [y]).length cap') (xs ++ [y]).length _
      rw [List.length_append]
      simpa using h2
    have := h ⟨w', own_below hw hB hown h3, by have := h3.size; omega⟩ (some ⟨g, 0, none⟩) cap' hO
    rw [List.length_append] at this
    exact this

end Go.Proofs.Ytnhpefcjgaimeaa
