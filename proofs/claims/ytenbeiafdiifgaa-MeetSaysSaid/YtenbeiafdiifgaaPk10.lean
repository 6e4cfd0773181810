
/-
  The law's own helpers over matroids, where they answer true: SameMatroid, told.
  axioms.exchange.
-/
import Derived.Test.YtenbeiafdiifgaaPk01
import Derived.Test.YtenbeiafdiifgaaPk07
import Derived.Test.YtenbeiafdiifgaaPk04
import Derived.Test.YtenbeiafdiifgaaPk08
import Derived.Deep.CutRange
import Derived.Deep.CutBlock
namespace Go.Proofs.Ytenbeiafdiifgaa
open Go.RowKit
set_option linter.unusedVariables false

end Go.Proofs.Ytenbeiafdiifgaa

namespace Go.Proofs.Ytenbeiafdiifgaa
open Go.RowKit
set_option linter.unusedVariables false

theorem mem_ints {L : List Nat} {x : Nat} : (x : Int) ∈ ints L ↔ x ∈ L := by
  unfold ints
  rw [List.mem_map]
  constructor
  · rintro ⟨y, hy, e⟩
    have : y = x := by omega
    rw [← this]; exact hy
  · intro h; exact ⟨x, h, rfl⟩
/-- element x of A can be exchanged for one of B -/
def exX (L : List Nat) (A B x : Nat) : Prop := ∃ y, B.testBit y = true ∧ A.testBit y = false ∧ (nand A (bit x) ||| bit y) ∈ L
def exP (L : List Nat) (A B : Nat) : Prop := ∀ x, A.testBit x = true → B.testBit x = false → exX L A B x
def ExO (L : List Nat) (A B t : Nat) : Prop := ∀ x, A.testBit x = true → B.testBit x = false → t.testBit x = false → exX L A B x
def ExI (L : List Nat) (A B e v : Nat) (ok : Bool) : Prop := (ok = true → exX L A B e) ∧ (ok = false → ∀ y, B.testBit y = true → A.testBit y = false → v.testBit y = false → ¬ (nand A (bit e) ||| bit y) ∈ L)
theorem ExI.start (L : List Nat) (A B e : Nat) : ExI L A B e (nand B A) false := ⟨(fun h => by cases h), fun _ y h1 h2 h3 => by rw [nand_testBit, h1, h2] at h3; cases h3⟩
theorem ExI.end {L : List Nat} {A B e v : Nat} {ok : Bool} (h : ExI L A B e v ok) (hv : v = 0 ∨ ok = true) : ok = true ↔ exX L A B e := by
  constructor
  · exact h.1
  · rintro ⟨y, h1, h2, h3⟩
    cases ok with
    | true => rfl
    | false =>
      have hv0 : v = 0 := by simpa using hv
      exact absurd h3 (h.2 rfl y h1 h2 (by rw [hv0]; simp))

set_option maxRecDepth 100000 in
set_option maxHeartbeats 8000000 in
theorem c_exchange {B : Nat} {W : World} (u : Later B W) (n : Int) (L : List Nat) (a : Option Addr) (cap : Nat) (A Bb : Nat) (r : Bool) (h : IntsAt B W a (ints L)) (hlen : (ints L).length ≤ 4611686018427387904) (hrise : rising (ints L)) (hA : A < 256) (hB : Bb < 256) (hr : r = true ↔ exP L A Bb) :
    Calls Try.prog 42 #[.agg #[.int .i64 n, .slice a (ints L).length cap], .int .i64 A, .int .i64 Bb] u.val (Ret B W (.bool r)) := by
  have T0 : Hid (Two (u.val.alloc (.cells #[.int .i64 n, .slice a (ints L).length cap] 24)) u.val.heap.size 24 (.int .i64 n) (.slice a (ints L).length cap)) := Lib.hid (Two.new _ _ _ _)
  have HI : Hid (IntsAt (u.val.alloc (.cells #[.int .i64 n, .slice a (ints L).length cap] 24)).heap.size (u.val.alloc (.cells #[.int .i64 n, .slice a (ints L).length cap] 24)) a (ints L)) := Lib.hid (h.to (u.alloc _))
  have hrr : u.val.heap.size < (u.val.alloc (.cells #[.int .i64 n, .slice a (ints L).length cap] 24)).heap.size := by simp
  have HV : Hid (∀ v : Later (u.val.alloc (.cells #[.int .i64 n, .slice a (ints L).length cap] 24)).heap.size (u.val.alloc (.cells #[.int .i64 n, .slice a (ints L).length cap] 24)), ∃ w : Later B W, w.val = v.val) := Lib.hid (fun v => ⟨(u.alloc _).up v, rfl⟩)
  have HR := Lib.hid hr
  have HRs := Lib.hid hrise
  clear h hr hrise
  have o1 := i64_andNot A Bb (by omega) (by omega)
  have o2 := i64_andNot Bb A (by omega) (by omega)
  have hAB : nand A Bb < 256 := nand_lt _ _ 8 hA
  have hBA : nand Bb A < 256 := nand_lt _ _ 8 hB
  go_enter Try.func42, Try.ntmps42
  go_wp2
  generalize hr2 : u.val.heap.size = g at *
  generalize u.val.alloc (.cells #[.int .i64 n, .slice a (ints L).length cap] 24) = W1 at *
  clear hr2 u o1
  go_loopw [7] (fun o wr => ∃ (t : Nat) (v : Later W1.heap.size W1), t < 256 ∧ o = .int .i64 t ∧ wr = v.val ∧ Hid (sub t (nand A Bb)) ∧ Hid (ExO L A Bb t)) (fun o _ => (intOf o).toNat)
  case atStart => exact ⟨nand A Bb, Later.self _, hAB, rfl, rfl, Lib.hid (fun _ h => h), Lib.hid (fun x h1 h2 h3 => by rw [nand_testBit, h1, h2] at h3; cases h3)⟩
  case round =>
    obtain ⟨t, v, ht, rfl, rfl, HS, HO⟩ := hrel
    by_cases h0 : t = 0
    · subst h0
      have d0 : ((((0 : Nat) : Int)) != 0) = false := rfl
      have HT : Hid (r = true) := Lib.hid (HR.out.2 (fun x h1 h2 => HO.out x h1 h2 (by simp)))
      go_wp2
      go_ret
      exact Ret.of (HV.out v) (vbool HT.out.symm)
    · obtain ⟨e, he, hlow, hte, hdb, _, hdl⟩ := low_facts t ht h0
      have d0 : ((t : Int) != 0) = true := by rw [bne_iff_ne]; omega
      have l1 := i64_low t ht
      rw [hlow] at l1
      have l2 := i64_drop1 t ht (by omega)
      have HD := Lib.hid (drop1_lt t ht)
      have HDl := Lib.hid hdl
      have hbe := bit_lt e he
      have hAe := HS.out e hte
      rw [nand_testBit] at hAe
      have HAe : Hid (A.testBit e = true ∧ Bb.testBit e = false) := Lib.hid (by simpa using hAe)
      have HSn : Hid (sub (drop1 t) (nand A Bb)) := Lib.hid (fun i hi => by
        have h8 := lt_of_testBit HD.out hi
        have := hdb i h8
        rw [this] at hi
        simp at hi
        exact HS.out i hi.1)
      have HOn : Hid (exX L A Bb e → ExO L A Bb (drop1 t)) := Lib.hid (fun hx x h1 h2 h3 => by
        by_cases c : x = e
        · subst c; exact hx
        · refine HO.out x h1 h2 ?_
          have h8 := lt_of_testBit hA h1
          have := hdb x h8
          rw [this] at h3
          simpa [c] using h3)
      clear h0 hlow hte hdb hdl hAe HS HO
      go_wp2
      go_loopw [9, 10] (fun o i wr => ∃ (ok : Bool) (q : Nat) (y : Later W1.heap.size W1), q < 256 ∧ i = .int .i64 q ∧ o = .bool ok ∧ wr = y.val ∧ Hid (sub q (nand Bb A)) ∧ Hid (ExI L A Bb e q ok)) (fun _ i _ => (intOf i).toNat)
      case atStart => exact ⟨false, nand Bb A, v, hBA, rfl, rfl, rfl, Lib.hid (fun _ h => h), Lib.hid (ExI.start L A Bb e)⟩
      case round =>
        clear v
        obtain ⟨ok, q, y, hq, rfl, rfl, rfl, HSq, HX⟩ := hrel
        by_cases hgo : q ≠ 0 ∧ ok = false
        · obtain ⟨hq0, rfl⟩ := hgo
          obtain ⟨f, hf, hlow, hqf, hdb, _, hdl⟩ := low_facts q hq hq0
          have e0 : ((q : Int) != 0) = true := by rw [bne_iff_ne]; omega
          have m1 := i64_low q hq
          rw [hlow] at m1
          have m2 := i64_drop1 q hq (by omega)
          have HDq := Lib.hid (drop1_lt q hq)
          have HDlq := Lib.hid hdl
          have hbf := bit_lt f hf
          have o3 := i64_andNot A (bit e) (by omega) (by omega)
          have hne : nand A (bit e) < 256 := nand_lt _ _ 8 hA
          have o4 := i64_or (nand A (bit e)) (bit f) (by omega) (by omega)
          have hBf := HSq.out f hqf
          rw [nand_testBit] at hBf
          have HBf : Hid (Bb.testBit f = true ∧ A.testBit f = false) := Lib.hid (by simpa using hBf)
          have HSn2 : Hid (sub (drop1 q) (nand Bb A)) := Lib.hid (fun i hi => by
            have h8 := lt_of_testBit HDq.out hi
            have := hdb i h8
            rw [this] at hi
            simp at hi
            exact HSq.out i hi.1)
          have HXn : Hid (∀ b : Bool, (b = decide ((nand A (bit e) ||| bit f) ∈ L)) → ExI L A Bb e (drop1 q) b) := Lib.hid (fun b hb => by
            refine ⟨fun h => ⟨f, HBf.out.1, HBf.out.2, by rw [h] at hb; simpa using hb.symm⟩, fun h z h1 h2 h3 => ?_⟩
            by_cases c : z = f
            · subst c; rw [h] at hb; simpa using hb.symm
            · refine HX.out.2 rfl z h1 h2 ?_
              have h8 := lt_of_testBit hB h1
              have := hdb z h8
              rw [this] at h3
              simpa [c] using h3)
          have q1 := (T0.out.keep_at y.below hrr).c1
          have hnf : nand A (bit e) ||| bit f < 256 := or_lt _ _ hne (by omega)
          have KB := Lib.hid (c_bsearch y (ints L) (((nand A (bit e) ||| bit f : Nat) : Int)) a cap HI.out hlen HRs.out)
          have HM : Hid (decide ((((nand A (bit e) ||| bit f : Nat) : Int)) ∈ ints L) = decide ((nand A (bit e) ||| bit f) ∈ L)) := Lib.hid (by simp only [mem_ints])
          have HXn2 := Lib.hid (HXn.out _ HM.out)
          clear hq0 hlow hqf hdb hdl hBf HX HSq HXn HM
          generalize hdd : decide ((((nand A (bit e) ||| bit f : Nat) : Int)) ∈ ints L) = dd at *
          have KB2 : Hid (Calls Try.prog 47 #[.slice a (ints L).length cap, .int .i64 ((nand A (bit e) ||| bit f : Nat) : Int)] y.val (RetP W1.heap.size W1 (fun x _ => ∃ i : Int, x = .tuple #[.int .i64 i, .bool dd]))) := Lib.hid (KB.out.mono fun e w ⟨v, h1, ⟨i, h2⟩, h3⟩ => ⟨v, h1, ⟨i, by rw [h2, hdd]⟩, h3⟩)
          clear KB hdd
          go_wp2_with (first | (go_at_call 47; refine (KB2.out).mono ?_; rintro e _ ⟨_, rfl, ⟨iz, rfl⟩, y2, rfl⟩))
          go_roundw
          case rel => exact ⟨dd, drop1 q, y2, HDq.out, rfl, rfl, rfl, HSn2, HXn2⟩
          case measure => have := HDlq.out; simp [intOf]; omega
        · have HEnd : Hid (ok = true ↔ exX L A Bb e) := Lib.hid (ExI.end HX.out (by
            by_cases hq0 : q = 0
            · exact .inl hq0
            · right
              cases ok with
              | true => rfl
              | false => exact absurd ⟨hq0, rfl⟩ hgo))
          clear HX HSq
          cases ok with
          | false =>
            have hq0 : q = 0 := Classical.byContradiction (fun h => hgo ⟨h, rfl⟩)
            subst hq0
            have e0 : ((((0 : Nat) : Int)) != 0) = false := rfl
            have HF : Hid (r = false) := Lib.hid (by
              cases hrv : r with
              | false => rfl
              | true =>
                have := HR.out.1 hrv e HAe.out.1 HAe.out.2
                have := HEnd.out.2 this
                cases this)
            clear hgo
            go_wp2
            go_ret
            exact Ret.of (HV.out y) (vbool HF.out.symm)
          | true =>
            have HN := Lib.hid (HOn.out (HEnd.out.1 rfl))
            rcases ieq (q : Int) 0 with ⟨g1, e0, e1⟩ | ⟨g1, e0, e1⟩
            all_goals
              clear g1 hgo
              go_wp2
              go_roundw
              case rel => exact ⟨drop1 t, y, HD.out, rfl, rfl, HSn, HN⟩
              case measure => have := HDl.out; simp [intOf]; omega

end Go.Proofs.Ytenbeiafdiifgaa
