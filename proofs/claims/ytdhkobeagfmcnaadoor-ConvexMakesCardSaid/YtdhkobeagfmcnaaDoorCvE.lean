
/-
  convex.Tree.
-/
import Derived.Test.YtdhkobeagfmcnaaDoorCvD
namespace Go.Proofs.YtdhkobeagfmcnaaDoor
open Go.RowKit
set_option linter.unusedVariables false

theorem insT_all {n : Nat} {es : List (Int × Int)} (hG : Grf n es) : insT es (bit n - 1) es.length = bit es.length - 1 := by
  apply Nat.eq_of_testBit_eq
  intro k
  rw [insT_testBit, testBit_all]
  by_cases hk : k < es.length
  · rw [decide_eq_true hk, Bool.true_and]
    unfold inV
    have := hG.lt k hk
    rw [testBit_all, testBit_all, decide_eq_true this.1, decide_eq_true this.2]; rfl
  · rw [decide_eq_false hk, Bool.false_and]
theorem eq_of_sub_size {a b : Nat} (hb : b < 256) (h : sub a b) (hs : sz a = sz b) : a = b := Classical.byContradiction fun c => by
  have := sub_size hb h c
  omega
/-- all hangs together if there is one part -/
theorem one_iff {n : Nat} {es : List (Int × Int)} (hG : Grf n es) (n1 : 1 ≤ n) {R : Nat} (hR : Reps n es (bit es.length - 1) R) : reachT es (insT es (bit n - 1) es.length) 0 n = bit n - 1 ↔ sz R = 1 := by
  have hn8 : n ≤ 8 := by have := hG.n7; omega
  have hb := bit_le n hn8
  have hv : bit n - 1 < bit n := by omega
  have h0 : (bit n - 1).testBit 0 = true := by rw [testBit_all, decide_eq_true_eq]; omega
  obtain ⟨C, hC⟩ := Part.ex es (insT es (bit n - 1) es.length) 0
  have hR2 : Reps n es (insT es (bit n - 1) es.length) R := by rw [insT_all hG]; exact hR
  obtain ⟨h1, h2⟩ := reps_inside hG hv h0 (fun i _ _ => Nat.zero_le _) (ins_inside es _) hR2 hC
  have h3 := rest_sz hn8 hv h0 (by omega)
  rw [sz_all hn8] at h3
  have h4 : reachT es (insT es (bit n - 1) es.length) 0 n = C := reachT_part hG.n7 hG.lt hG.pos (by omega) hC
  rw [h4, h2]
  constructor
  · intro e; rw [e]; omega
  · intro e; exact (eq_of_sub_size hR.1 h1 (by omega)).symm
theorem IsTr.of {n : Nat} {es : List (Int × Int)} (hG : Grf n es) (n1 : 1 ≤ n) (hl : es.length + 1 = n) (h : reachT es (insT es (bit n - 1) es.length) 0 n = bit n - 1) : IsTr n es := ⟨hG, n1, hl, fun R hR => (one_iff hG n1 hR).1 h⟩
/-- is a graph a tree? -/
def isTree (n : Nat) (es : List (Int × Int)) : Prop := es.length + 1 = n ∧ reachT es (insT es (bit n - 1) es.length) 0 n = bit n - 1
instance (n : Nat) (es : List (Int × Int)) : Decidable (isTree n es) := by unfold isTree; infer_instance
theorem low_all {n : Nat} (n1 : 1 ≤ n) (hn : n ≤ 8) : low (bit n - 1) = bit 0 := by
  have hb := bit_le n hn
  have hne : bit n - 1 ≠ 0 := fun c => by
    have := testBit_all n 0
    rw [c, decide_eq_true (show 0 < n by omega)] at this
    simp at this
  obtain ⟨e, he, h1, h2, _, h3, _⟩ := low_facts (bit n - 1) (by omega) hne
  have := h3 0 (by omega) (by rw [testBit_all, decide_eq_true_eq]; omega)
  rw [h1, show e = 0 by omega]
/-- what is left hangs together -/
def leftB (n : Nat) (es : List (Int × Int)) (s : Nat) : Bool := decide (jnV es (nand (bit n - 1) s))
theorem tree_list {n : Nat} {es : List (Int × Int)} (h : IsTr n es) : grown n (treeMay es) = those n (leftB n es) := by
  unfold grown those
  apply List.filter_congr
  intro s hs
  have hs1 : s < bit n := List.mem_range.1 hs
  rw [Bool.eq_iff_iff, decide_eq_true_eq, gS_all hs1, h.grown hs1]
  unfold leftB
  rw [decide_eq_true_eq]

set_option maxRecDepth 100000 in
set_option maxHeartbeats 4000000 in
theorem c_joinedT {B : Nat} {W : World} (u : Later B W) (n s : Nat) (es : List (Int × Int)) (a : Option Addr) (cap : Nat) (h : EdgesAt B W a es) (hG : isGraph (n : Int) es) (hT : IsTr n es) (hs : s < bit n) :
    Calls Tryd.prog 27 #[.agg #[.int .i64 n, .slice a es.length cap], .int .i64 s] u.val (Ret B W (.bool (decide (jnV es s)))) := by
  have hb := bit_le n (by have := hT.g.n7; omega)
  by_cases h0 : s = 0
  · subst h0
    rw [decide_eq_true (show jnV es 0 from .inl rfl)]
    exact c_joined0 u n a es.length cap
  · obtain ⟨d, hd8, h1, h2, _, h3, _⟩ := low_facts s (by omega) h0
    have := c_joined u n s d es a cap h hG (by omega) h0 hd8 h1
    have e : decide (reachT es (insT es s es.length) d n = s) = decide (jnV es s) := by
      rw [decide_eq_decide, (hT.most hs h2 h3).2]
      unfold jnV
      exact ⟨fun h => .inr h, fun h => h.resolve_left h0⟩
    rwa [e] at this

set_option maxRecDepth 100000 in
set_option maxHeartbeats 8000000 in
theorem c_convexTree_no {B : Nat} {W : World} (u : Later B W) (n : Int) (es : List (Int × Int)) (a : Option Addr) (cap : Nat) (h : EdgesAt B W a es) (hlen : es.length ≤ 4611686018427387904) (hG : ¬ isGraph n es) :
    Calls Tryd.prog 12 #[.agg #[.int .i64 n, .slice a es.length cap]] u.val (Ret B W (.tuple #[.slice none 0 0, .int .i64 1])) := by
  have T0 : Two (u.val.alloc (.cells #[.int .i64 n, .slice a es.length cap] 24)) u.val.heap.size 24 (.int .i64 n) (.slice a es.length cap) := Two.new _ _ _ _
  have q0 := T0.c0
  have q1 := T0.c1
  have HV : Hid (∀ v : Later (u.val.alloc (.cells #[.int .i64 n, .slice a es.length cap] 24)).heap.size (u.val.alloc (.cells #[.int .i64 n, .slice a es.length cap] 24)), ∃ w : Later B W, w.val = v.val) := Lib.hid (fun v => ⟨(u.alloc _).up v, rfl⟩)
  have KC : Hid (Calls Tryd.prog 26 #[.agg #[.int .i64 n, .slice a es.length cap]] (u.val.alloc (.cells #[.int .i64 n, .slice a es.length cap] 24)) (Ret (u.val.alloc (.cells #[.int .i64 n, .slice a es.length cap] 24)).heap.size (u.val.alloc (.cells #[.int .i64 n, .slice a es.length cap] 24)) (.int .i64 1))) := Lib.hid (by
    have := c_checkGraph (Later.self (u.val.alloc (.cells #[.int .i64 n, .slice a es.length cap] 24))) n es a cap (h.to (u.alloc _)) hlen
    rwa [← errno_bad hG] at this)
  clear T0 h hG
  go_enter Tryd.func12, Tryd.ntmps12
  go_wp2_with (first | (go_at_call 26; (with_reducible refine (KC.out).mono ?_); rintro e _ ⟨rfl, v1, rfl⟩))
  go_ret2
  exact Ret.of (HV.out v1) rfl

set_option maxRecDepth 100000 in
set_option maxHeartbeats 20000000 in
theorem c_convexTree_bad {B : Nat} {W : World} (u : Later B W) (n : Nat) (es : List (Int × Int)) (a : Option Addr) (cap : Nat) (h : EdgesAt B W a es) (hG : isGraph (n : Int) es) (ht : ¬ isTree n es) :
    Calls Tryd.prog 12 #[.agg #[.int .i64 n, .slice a es.length cap]] u.val (Ret B W (.tuple #[.slice none 0 0, .int .i64 3])) := by
  have hn8 : n ≤ 8 := by have := hG.2.1; omega
  have n1 : 1 ≤ n := by have := hG.1; omega
  have hb := bit_le n hn8
  have bc := bit_cast n
  have T0 : Hid (Two (u.val.alloc (.cells #[.int .i64 n, .slice a es.length cap] 24)) u.val.heap.size 24 (.int .i64 n) (.slice a es.length cap)) := Lib.hid (Two.new _ _ _ _)
  have HV : Hid (∀ v : Later (u.val.alloc (.cells #[.int .i64 n, .slice a es.length cap] 24)).heap.size (u.val.alloc (.cells #[.int .i64 n, .slice a es.length cap] 24)), ∃ w : Later B W, w.val = v.val) := Lib.hid (fun v => ⟨(u.alloc _).up v, rfl⟩)
  have hE : EdgesAt (u.val.alloc (.cells #[.int .i64 n, .slice a es.length cap] 24)).heap.size (u.val.alloc (.cells #[.int .i64 n, .slice a es.length cap] 24)) a es := h.to (u.alloc _)
  have KC : Hid (Calls Tryd.prog 26 #[.agg #[.int .i64 n, .slice a es.length cap]] (u.val.alloc (.cells #[.int .i64 n, .slice a es.length cap] 24)) (Ret (u.val.alloc (.cells #[.int .i64 n, .slice a es.length cap] 24)).heap.size (u.val.alloc (.cells #[.int .i64 n, .slice a es.length cap] 24)) (.int .i64 0))) := Lib.hid (by
    have := c_checkGraph (Later.self (u.val.alloc (.cells #[.int .i64 n, .slice a es.length cap] 24))) (n : Int) es a cap hE (by have := hG.2.2.1; omega)
    rwa [← errno_ok hG] at this)
  have w1 : IntKind.i64.wrap (bit n : Int) = (bit n : Int) := IntWalk.i64_in _ (by omega)
  have w2 : IntKind.i64.wrap ((bit n : Int) - 1) = ((bit n - 1 : Nat) : Int) := by rw [IntWalk.i64_in _ (by omega)]; omega
  have w3 : IntKind.i64.wrap ((n : Int) - 1) = (n : Int) - 1 := IntWalk.i64_in _ (by omega)
  have q0 : ∀ w : Later (u.val.alloc (.cells #[.int .i64 n, .slice a es.length cap] 24)).heap.size (u.val.alloc (.cells #[.int .i64 n, .slice a es.length cap] 24)), w.val.cell? ⟨u.val.heap.size, 0, none⟩ = some (.int .i64 n) := fun w => (T0.out.keep w.below).c0
  have q1 : ∀ w : Later (u.val.alloc (.cells #[.int .i64 n, .slice a es.length cap] 24)).heap.size (u.val.alloc (.cells #[.int .i64 n, .slice a es.length cap] 24)), w.val.cell? ⟨u.val.heap.size, 1, none⟩ = some (.slice a es.length cap) := fun w => (T0.out.keep w.below).c1
  have z0 : (u.val.alloc (.cells #[.int .i64 n, .slice a es.length cap] 24)).cell? ⟨u.val.heap.size, 0, none⟩ = some (.int .i64 n) := q0 (Later.self (u.val.alloc (.cells #[.int .i64 n, .slice a es.length cap] 24)))
  have z1 : (u.val.alloc (.cells #[.int .i64 n, .slice a es.length cap] 24)).cell? ⟨u.val.heap.size, 1, none⟩ = some (.slice a es.length cap) := q1 (Later.self (u.val.alloc (.cells #[.int .i64 n, .slice a es.length cap] 24)))
  have KJ : Hid (∀ v : Later (u.val.alloc (.cells #[.int .i64 n, .slice a es.length cap] 24)).heap.size (u.val.alloc (.cells #[.int .i64 n, .slice a es.length cap] 24)), Calls Tryd.prog 27 #[.agg #[.int .i64 n, .slice a es.length cap], .int .i64 ((bit n - 1 : Nat) : Int)] v.val (Ret (u.val.alloc (.cells #[.int .i64 n, .slice a es.length cap] 24)).heap.size (u.val.alloc (.cells #[.int .i64 n, .slice a es.length cap] 24)) (.bool (decide (reachT es (insT es (bit n - 1) es.length) 0 n = bit n - 1))))) := Lib.hid (fun v => c_joined v n (bit n - 1) 0 es a cap hE hG (by omega) (fun c => by
    have := testBit_all n 0
    rw [c, decide_eq_true (show 0 < n by omega)] at this
    simp at this) (by omega) (low_all n1 hn8))
  by_cases hl : es.length + 1 = n
  · have hd : decide (reachT es (insT es (bit n - 1) es.length) 0 n = bit n - 1) = false := decide_eq_false (fun c => ht ⟨hl, c⟩)
    rw [hd] at KJ
    have d1 : ((es.length : Int) != (n : Int) - 1) = false := by rw [bne_eq_false_iff_eq]; omega
    clear T0 h hE hG ht hd hl
    generalize bit n - 1 = al at *
    go_enter Tryd.func12, Tryd.ntmps12
    go_wp2_with (first | (go_at_call 26; (with_reducible refine (KC.out).mono ?_); rintro e _ ⟨rfl, v1, rfl⟩) | (go_at_call 27; (with_reducible refine (KJ.out _).mono ?_); rintro e _ ⟨rfl, v2, rfl⟩))
    go_ret2
    exact Ret.of (HV.out v2) rfl
  · have d1 : ((es.length : Int) != (n : Int) - 1) = true := by rw [bne_iff_ne]; omega
    clear T0 h hE hG ht hl KJ
    generalize bit n - 1 = al at *
    go_enter Tryd.func12, Tryd.ntmps12
    go_wp2_with (first | (go_at_call 26; (with_reducible refine (KC.out).mono ?_); rintro e _ ⟨rfl, v1, rfl⟩))
    go_ret2
    exact Ret.of (HV.out v1) rfl

set_option maxRecDepth 100000 in
set_option maxHeartbeats 20000000 in
theorem c_convexTree {B : Nat} {W : World} (u : Later B W) (n : Nat) (es : List (Int × Int)) (a : Option Addr) (cap : Nat) (h : EdgesAt B W a es) (hG : isGraph (n : Int) es) (ht : isTree n es) :
    Calls Tryd.prog 12 #[.agg #[.int .i64 n, .slice a es.length cap]] u.val (RetP B W (fun v w => ∃ ad cp, v = .tuple #[.slice ad (ints (those n (leftB n es))).length cp, .int .i64 0] ∧ IntsAt w.heap.size w ad (ints (those n (leftB n es))))) := by
  have hn8 : n ≤ 8 := by have := hG.2.1; omega
  have n1 : 1 ≤ n := by have := hG.1; omega
  have hb := bit_le n hn8
  have bc := bit_cast n
  have T0 : Hid (Two (u.val.alloc (.cells #[.int .i64 n, .slice a es.length cap] 24)) u.val.heap.size 24 (.int .i64 n) (.slice a es.length cap)) := Lib.hid (Two.new _ _ _ _)
  have HV : Hid (∀ v : Later (u.val.alloc (.cells #[.int .i64 n, .slice a es.length cap] 24)).heap.size (u.val.alloc (.cells #[.int .i64 n, .slice a es.length cap] 24)), ∃ w : Later B W, w.val = v.val) := Lib.hid (fun v => ⟨(u.alloc _).up v, rfl⟩)
  have hE : EdgesAt (u.val.alloc (.cells #[.int .i64 n, .slice a es.length cap] 24)).heap.size (u.val.alloc (.cells #[.int .i64 n, .slice a es.length cap] 24)) a es := h.to (u.alloc _)
  have KC : Hid (Calls Tryd.prog 26 #[.agg #[.int .i64 n, .slice a es.length cap]] (u.val.alloc (.cells #[.int .i64 n, .slice a es.length cap] 24)) (Ret (u.val.alloc (.cells #[.int .i64 n, .slice a es.length cap] 24)).heap.size (u.val.alloc (.cells #[.int .i64 n, .slice a es.length cap] 24)) (.int .i64 0))) := Lib.hid (by
    have := c_checkGraph (Later.self (u.val.alloc (.cells #[.int .i64 n, .slice a es.length cap] 24))) (n : Int) es a cap hE (by have := hG.2.2.1; omega)
    rwa [← errno_ok hG] at this)
  have w1 : IntKind.i64.wrap (bit n : Int) = (bit n : Int) := IntWalk.i64_in _ (by omega)
  have w2 : IntKind.i64.wrap ((bit n : Int) - 1) = ((bit n - 1 : Nat) : Int) := by rw [IntWalk.i64_in _ (by omega)]; omega
  have w3 : IntKind.i64.wrap ((n : Int) - 1) = (n : Int) - 1 := IntWalk.i64_in _ (by omega)
  have q0 : ∀ w : Later (u.val.alloc (.cells #[.int .i64 n, .slice a es.length cap] 24)).heap.size (u.val.alloc (.cells #[.int .i64 n, .slice a es.length cap] 24)), w.val.cell? ⟨u.val.heap.size, 0, none⟩ = some (.int .i64 n) := fun w => (T0.out.keep w.below).c0
  have q1 : ∀ w : Later (u.val.alloc (.cells #[.int .i64 n, .slice a es.length cap] 24)).heap.size (u.val.alloc (.cells #[.int .i64 n, .slice a es.length cap] 24)), w.val.cell? ⟨u.val.heap.size, 1, none⟩ = some (.slice a es.length cap) := fun w => (T0.out.keep w.below).c1
  have z0 : (u.val.alloc (.cells #[.int .i64 n, .slice a es.length cap] 24)).cell? ⟨u.val.heap.size, 0, none⟩ = some (.int .i64 n) := q0 (Later.self (u.val.alloc (.cells #[.int .i64 n, .slice a es.length cap] 24)))
  have z1 : (u.val.alloc (.cells #[.int .i64 n, .slice a es.length cap] 24)).cell? ⟨u.val.heap.size, 1, none⟩ = some (.slice a es.length cap) := q1 (Later.self (u.val.alloc (.cells #[.int .i64 n, .slice a es.length cap] 24)))
  have KJ : Hid (∀ v : Later (u.val.alloc (.cells #[.int .i64 n, .slice a es.length cap] 24)).heap.size (u.val.alloc (.cells #[.int .i64 n, .slice a es.length cap] 24)), Calls Tryd.prog 27 #[.agg #[.int .i64 n, .slice a es.length cap], .int .i64 ((bit n - 1 : Nat) : Int)] v.val (Ret (u.val.alloc (.cells #[.int .i64 n, .slice a es.length cap] 24)).heap.size (u.val.alloc (.cells #[.int .i64 n, .slice a es.length cap] 24)) (.bool (decide (reachT es (insT es (bit n - 1) es.length) 0 n = bit n - 1))))) := Lib.hid (fun v => c_joined v n (bit n - 1) 0 es a cap hE hG (by omega) (fun c => by
    have := testBit_all n 0
    rw [c, decide_eq_true (show 0 < n by omega)] at this
    simp at this) (by omega) (low_all n1 hn8))
  have hl : es.length + 1 = n := ht.1
  have hT := IsTr.of (Grf.of hG) n1 hl ht.2
  have hd : decide (reachT es (insT es (bit n - 1) es.length) 0 n = bit n - 1) = true := decide_eq_true ht.2
  rw [hd] at KJ
  have d1 : ((es.length : Int) != (n : Int) - 1) = false := by rw [bne_eq_false_iff_eq]; omega
  have KL : Hid (∀ (v : Later (u.val.alloc (.cells #[.int .i64 n, .slice a es.length cap] 24)).heap.size (u.val.alloc (.cells #[.int .i64 n, .slice a es.length cap] 24))) (s : Nat), s < bit n → Calls Tryd.prog 27 #[.agg #[.int .i64 n, .slice a es.length cap], .int .i64 ((nand (bit n - 1) s : Nat) : Int)] v.val (Ret v.val.heap.size v.val (.bool (leftB n es s)))) := Lib.hid (fun v s hs => c_joinedT (Later.self v.val) n (nand (bit n - 1) s) es a cap (hE.to v) hG hT (Nat.lt_of_le_of_lt (nand_le _ _) (by omega)))
  have HTh : Hid (those n (leftB n es) = thoseTo (leftB n es) (bit n)) := Lib.hid rfl
  have HStep := Lib.hid (thoseTo_step (leftB n es))
  have HLen := Lib.hid (thoseTo_len (leftB n es))
  have HTz : Hid (thoseTo (leftB n es) 0 = []) := Lib.hid rfl
  have h255 : bit n - 1 < 256 := by omega
  have w4 : IntKind.i64.wrap (((bit n - 1 : Nat) : Int) + 1) = (bit n : Int) := by rw [IntWalk.i64_in _ (by omega)]; omega
  clear T0 h hE hG ht hd hl hT
  generalize leftB n es = lb at *
  generalize bit n - 1 = al at *
  go_enter Tryd.func12, Tryd.ntmps12
  go_upto_region 7 with (first | (go_at_call 26; (with_reducible refine (KC.out).mono ?_); rintro e _ ⟨rfl, v1, rfl⟩) | (go_at_call 27; (with_reducible refine (KJ.out _).mono ?_); rintro e _ ⟨rfl, v2, rfl⟩))
  clear KC KJ z0 z1 v1
  generalize u.val.heap.size = g0 at *
  generalize u.val.alloc (.cells #[.int .i64 (n : Int), .slice a es.length cap] 24) = W1 at *
  clear u
  go_wp2
  go_loopw [6, 32] (fun o i wr => ∃ (s : Nat) (ad : Option Addr) (cp : Nat) (v : Later W1.heap.size W1), s ≤ bit n ∧ i = .int .i64 s ∧ o = .slice ad (ints (thoseTo lb s)).length cp ∧ wr = v.val ∧ Hid (Own W1.heap.size v.val ad cp (ints (thoseTo lb s)))) (fun _ i _ => bit n - (intOf i).toNat)
  case atStart => exact ⟨0, none, 0, v2, by omega, rfl, by rw [HTz.out]; rfl, rfl, by rw [HTz.out]; exact Own.nil _ _⟩
  case round =>
    clear v2
    obtain ⟨s, ad, cp, v, hs, rfl, rfl, rfl, HO⟩ := hrel
    by_cases hlt : s < bit n
    · have hs8 : s < 256 := by omega
      have K1 := Lib.hid (KL.out v s hlt)
      have ia := i64_andNot al s (by omega) (by omega)
      have q0v : ∀ w : Later v.val.heap.size v.val, w.val.cell? ⟨g0, 0, none⟩ = some (.int .i64 n) := fun w => q0 (v.up w)
      have q1v : ∀ w : Later v.val.heap.size v.val, w.val.cell? ⟨g0, 1, none⟩ = some (.slice a es.length cap) := fun w => q1 (v.up w)
      have r0 := q0 v
      have r1 := q1 v
      have HE := Lib.hid (HStep.out s)
      have HL : Hid ((ints (thoseTo lb s)).length ≤ 256) := Lib.hid (by rw [ints_len]; have := HLen.out s; omega)
      generalize thoseTo lb s = L at *
      rcases btf (lb s) with g1 | g1
      · rw [g1] at K1
        have G1 := Lib.hid g1
        clear g1
        go_wp2_with (first | (go_at_call 27; (with_reducible refine (K1.out).mono ?_); rintro e _ ⟨rfl, v3, rfl⟩) | (at_builtin; refine wpList_push (B := W1.heap.size) (W := W1) (w := v3.val) (v.up v3).below (v.up v3).size rfl _ _ rfl (ints L) ad cp (s : Int) rfl (HO.out.keep v3.below) rfl (by have := HL.out; omega) ?_; intro u2 ad2 cp2 hown))
        go_roundw
        case rel =>
          refine ⟨s+1, ad2, cp2, u2, by omega, by go_num, ?_, rfl, ?_⟩
          · rw [HE.out, if_pos G1.out, ints_snoc]; simp
          · rw [HE.out, if_pos G1.out, ints_snoc]; exact hown
        case measure => simp [intOf]; omega
      · rw [g1] at K1
        have G1 := Lib.hid g1
        clear g1
        go_wp2_with (first | (go_at_call 27; (with_reducible refine (K1.out).mono ?_); rintro e _ ⟨rfl, v3, rfl⟩))
        go_roundw
        case rel =>
          have hne : ¬ lb s = true := by rw [G1.out]; decide
          refine ⟨s+1, ad, cp, v.up v3, by omega, by go_num, ?_, rfl, ?_⟩
          · rw [HE.out, if_neg hne]
          · rw [HE.out, if_neg hne]; exact HO.out.keep v3.below
        case measure => simp [intOf]; omega
    · have hse : s = bit n := by omega
      have Hse := Lib.hid hse
      rw [← hse] at hb w1 w4 bc ⊢
      clear hse
      go_wp2
      go_ret2
      refine RetP.of (HV.out v) ⟨ad, cp, by rw [HTh.out, ← Hse.out]; rfl, ?_⟩
      rw [HTh.out, ← Hse.out]
      exact HO.out.reads

end Go.Proofs.YtdhkobeagfmcnaaDoor
