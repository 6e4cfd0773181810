
/-
  slices.ContainsFunc over edges; the two function values of convex.Ordered.
-/
import Derived.Test.YtdhkobeagfmcnaaDoorCvB
namespace Go.Proofs.YtdhkobeagfmcnaaDoor
open Go.RowKit
set_option linter.unusedVariables false

/-- a function value that tells of edges whether they are of a kind, in whatever later world -/
def TellsEd (B : Nat) (W : World) (k : FuncId) (caps : Array Value) (es : List (Int × Int)) (p : Nat → Bool) : Prop :=
  ∀ (v : Later B W) (i : Nat), i < es.length → Calls Tryd.prog k (#[.agg #[.int .i64 (es.getD i (0,0)).1, .int .i64 (es.getD i (0,0)).2]] ++ caps) v.val (Ret B W (.bool (p i)))
theorem any_rangeI {n : Nat} {p : Nat → Bool} : (List.range n).any p = true ↔ ∃ i, i < n ∧ p i = true := by
  rw [List.any_eq_true]
  constructor
  · rintro ⟨x, hx, h⟩; exact ⟨x, List.mem_range.1 hx, h⟩
  · rintro ⟨i, hi, h⟩; exact ⟨i, List.mem_range.2 hi, h⟩

set_option maxRecDepth 100000 in
set_option maxHeartbeats 4000000 in
theorem c_indexEd {B : Nat} {W : World} (u : Later B W) (es : List (Int × Int)) (a : Option Addr) (cap : Nat) (h : EdgesAt B W a es) (hlen : es.length ≤ 4611686018427387904) (k : FuncId) (caps : Array Value) (p : Nat → Bool) (hpl : Plain k) (hk : TellsEd B W k caps es p) :
    Calls Tryd.prog 35 #[.slice a es.length cap, .func (.func k) #[] caps] u.val (RetP B W (fun v w => ∃ r : Int, v = .int .i64 r ∧ decide (0 ≤ r) = (List.range es.length).any p)) := by
  have HI := Lib.hid h
  have HK := Lib.hid hk
  have hp1 : ∀ (args : Array Value) (w : World), (callFunc k args).run Tryd.prog w = .ok (.enter k args) w := hpl
  clear h hk
  go_enter Tryd.func35, Tryd.ntmps35
  go_wp2
  go_loopw [8] (fun i wr => ∃ (s : Nat) (v : Later B W), s ≤ es.length ∧ i = .int .i64 s ∧ wr = v.val ∧ Hid (∀ i, i < s → p i = false)) (fun i _ => es.length - (intOf i).toNat)
  case atStart => exact ⟨0, u, by omega, rfl, rfl, Lib.hid (fun i hi => by omega)⟩
  case round =>
    obtain ⟨s, v, hs, rfl, rfl, hf⟩ := hrel
    by_cases hlt : s < es.length
    · obtain ⟨b, off, rfl, hbB, hcell⟩ := HI.out.at hlt
      have c0 : ∀ v : Later B W, v.val.cell? ⟨b, off + s * 2, none⟩ = some (.int .i64 (es.getD s (0,0)).1) := fun v => (hcell v s hlt).1
      have c1 : ∀ v : Later B W, v.val.cell? ⟨b, off + s * 2 + 1, none⟩ = some (.int .i64 (es.getD s (0,0)).2) := fun v => (hcell v s hlt).2
      have K := Lib.hid (HK.out v s hlt)
      have HX : Hid (p s = true → decide (0 ≤ (s : Int)) = (List.range es.length).any p) := Lib.hid (fun h => by
        rw [any_rangeI.2 ⟨s, hlt, h⟩]; simp)
      have HY : Hid (p s = false → ∀ i, i < s + 1 → p i = false) := Lib.hid (fun h i hi => by
        by_cases e : i = s
        · subst e; exact h
        · exact hf.out i (by omega))
      clear hcell hf
      generalize (es.getD s (0,0)).1 = x at *
      generalize (es.getD s (0,0)).2 = y at *
      have c0' := c0 v
      have c1' := c1 v
      rcases btf (p s) with g1 | g1
      · rw [g1] at K
        have HE := Lib.hid (HX.out g1)
        clear g1 HX HY
        go_wp2_with (first | (refine (K.out).mono ?_; rintro e _ ⟨rfl, v2, rfl⟩))
        go_ret
        exact RetP.mk v2 ⟨_, rfl, HE.out⟩
      · rw [g1] at K
        have HN := Lib.hid (HY.out g1)
        clear g1 HX HY
        go_wp2_with (first | (refine (K.out).mono ?_; rintro e _ ⟨rfl, v2, rfl⟩))
        go_roundw
        case rel => exact ⟨s+1, v2, by omega, by go_num, rfl, HN⟩
        case measure => simp [intOf]; omega
    · have HE : Hid (decide (0 ≤ (-1 : Int)) = (List.range es.length).any p) := Lib.hid (by
        cases c : (List.range es.length).any p
        · decide
        · obtain ⟨i, h1, h2⟩ := any_rangeI.1 c
          rw [hf.out i (by omega)] at h2; cases h2)
      go_wp2
      go_ret
      exact RetP.mk v ⟨_, rfl, HE.out⟩
set_option maxRecDepth 100000 in
set_option maxHeartbeats 2000000 in
theorem c_containsEd {B : Nat} {W : World} (u : Later B W) (es : List (Int × Int)) (a : Option Addr) (cap : Nat) (h : EdgesAt B W a es) (hlen : es.length ≤ 4611686018427387904) (k : FuncId) (caps : Array Value) (p : Nat → Bool) (hpl : Plain k) (hk : TellsEd B W k caps es p) :
    Calls Tryd.prog 22 #[.slice a es.length cap, .func (.func k) #[] caps] u.val (Ret B W (.bool ((List.range es.length).any p))) := by
  have K := Lib.hid (c_indexEd u es a cap h hlen k caps p hpl hk)
  clear h hk
  go_enter Tryd.func22, Tryd.ntmps22
  go_wp2_with (first | (go_at_call 35; (with_reducible refine (K.out).mono ?_); rintro e _ ⟨_, rfl, ⟨r, rfl, hr⟩, v, rfl⟩; have HR := Lib.hid hr; clear hr))
  go_ret
  exact Ret.mk v (vbool HR.out)

set_option maxRecDepth 100000 in
set_option maxHeartbeats 8000000 in
theorem c_ordSame {B : Nat} {W : World} (u : Later B W) (x y : Int) :
    Calls Tryd.prog 25 #[.agg #[.int .i64 x, .int .i64 y]] u.val (Ret B W (.bool (x == y))) := by
  have HV : Hid (∀ o, ∃ w : Later B W, w.val = u.val.alloc o) := Lib.hid (fun o => ⟨u.alloc o, rfl⟩)
  have T0 : Two (u.val.alloc (.cells #[.int .i64 x, .int .i64 y] 28)) u.val.heap.size 28 (.int .i64 x) (.int .i64 y) := Two.new _ _ _ _
  have q0 := T0.c0
  have q1 := T0.c1
  clear T0
  go_enter Tryd.func25, Tryd.ntmps25
  go_wp2
  go_ret
  exact Ret.of (HV.out _) rfl

set_option maxRecDepth 100000 in
set_option maxHeartbeats 8000000 in
theorem c_ordBar {B : Nat} {W : World} (u : Later B W) (x y s gs : Nat) (hx : x < 8) (hy : y < 8) (hs : s < 256) (hgs : gs < B) (hbox : W.cell? ⟨gs, 0, none⟩ = some (.int .i64 s)) :
    Calls Tryd.prog 23 #[.agg #[.int .i64 x, .int .i64 y], .pointer (some ⟨gs, 0, none⟩)] u.val (Ret B W (.bool (s.testBit y && !s.testBit x))) := by
  have HV : Hid (∀ o, ∃ w : Later B W, w.val = u.val.alloc o) := Lib.hid (fun o => ⟨u.alloc o, rfl⟩)
  have T0 : Two (u.val.alloc (.cells #[.int .i64 x, .int .i64 y] 28)) u.val.heap.size 28 (.int .i64 x) (.int .i64 y) := Two.new _ _ _ _
  have q0 := T0.c0
  have q1 := T0.c1
  have q2 : (u.val.alloc (.cells #[.int .i64 x, .int .i64 y] 28)).cell? ⟨gs, 0, none⟩ = some (.int .i64 s) := by
    have := (u.alloc (.cells #[.int .i64 x, .int .i64 y] 28)).cell (a := ⟨gs, 0, none⟩) hgs
    exact this.trans hbox
  have i1 := i64_bit s x hs hx
  have i2 := i64_bit s y hs hy
  have b1 := bit_cast x
  have b2 := bit_cast y
  clear T0 hbox
  rcases btf (s.testBit x) with g1 | g1 <;> rcases btf (s.testBit y) with g2 | g2
  all_goals
    rw [g1] at i1
    rw [g2] at i2
    rw [g1, g2]
    clear g1 g2
    go_enter Tryd.func23, Tryd.ntmps23
    go_wp2
    go_ret
    exact Ret.of (HV.out _) rfl

end Go.Proofs.YtdhkobeagfmcnaaDoor
