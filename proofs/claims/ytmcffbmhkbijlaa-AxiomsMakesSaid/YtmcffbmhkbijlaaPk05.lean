
/-
  axioms.exchange.
  axioms.Check.
  A region whose order is drawn, whose first n operations are quiet in a class of worlds, and whose tail has one order alone: one walk. Nothing of the program is proved here.
-/
import Derived.Test.YtmcffbmhkbijlaaPk03
import Derived.Test.YtmcffbmhkbijlaaPk04
import Derived.Deep.CutRange
import Derived.Deep.CutBlock
import Derived.Test.YtmcffbmhkbijlaaPk01
import Derived.Deep.Quiet
import Derived.StillTail
namespace Go.Proofs.Ytmcffbmhkbijlaa
open Go.RowKit
set_option linter.unusedVariables false

theorem mem_ints {L : List Nat} {x : Nat} : (x : Int) ∈ ints L ↔ x ∈ L := by
  unfold ints
  rw [List.mem_map]
  constructor
  · rintro ⟨y, hy, e⟩
    have : y = x := by omega
    rw [← this]; exact hy
  · intro h; exact ⟨x, h, rfl⟩
/-- element x of A can be exchanged for one of B -/
def exX (L : List Nat) (A B x : Nat) : Prop := ∃ y, B.testBit y = true ∧ A.testBit y = false ∧ (nand A (bit x) ||| bit y) ∈ L
def exP (L : List Nat) (A B : Nat) : Prop := ∀ x, A.testBit x = true → B.testBit x = false → exX L A B x
def ExO (L : List Nat) (A B t : Nat) : Prop := ∀ x, A.testBit x = true → B.testBit x = false → t.testBit x = false → exX L A B x
def ExI (L : List Nat) (A B e v : Nat) (ok : Bool) : Prop := (ok = true → exX L A B e) ∧ (ok = false → ∀ y, B.testBit y = true → A.testBit y = false → v.testBit y = false → ¬ (nand A (bit e) ||| bit y) ∈ L)
theorem ExI.start (L : List Nat) (A B e : Nat) : ExI L A B e (nand B A) false := ⟨(fun h => by cases h), fun _ y h1 h2 h3 => by rw [nand_testBit, h1, h2] at h3; cases h3⟩
theorem ExI.end {L : List Nat} {A B e v : Nat} {ok : Bool} (h : ExI L A B e v ok) (hv : v = 0 ∨ ok = true) : ok = true ↔ exX L A B e := by
  constructor
  · exact h.1
  · rintro ⟨y, h1, h2, h3⟩
    cases ok with
    | true => rfl
    | false =>
      have hv0 : v = 0 := by simpa using hv
      exact absurd h3 (h.2 rfl y h1 h2 (by rw [hv0]; simp))

set_option maxRecDepth 100000 in
set_option maxHeartbeats 8000000 in
theorem c_exchange {B : Nat} {W : World} (u : Later B W) (n : Int) (L : List Nat) (a : Option Addr) (cap : Nat) (A Bb : Nat) (r : Bool) (h : IntsAt B W a (ints L)) (hlen : (ints L).length ≤ 4611686018427387904) (hrise : rising (ints L)) (hA : A < 256) (hB : Bb < 256) (hr : r = true ↔ exP L A Bb) :
    Calls Try.prog 58 #[.agg #[.int .i64 n, .slice a (ints L).length cap], .int .i64 A, .int .i64 Bb] u.val (Ret B W (.bool r)) := by
  have T0 : Hid (Two (u.val.alloc (.cells #[.int .i64 n, .slice a (ints L).length cap] 29)) u.val.heap.size 29 (.int .i64 n) (.slice a (ints L).length cap)) := Lib.hid (Two.new _ _ _ _)
  have HI : Hid (IntsAt (u.val.alloc (.cells #[.int .i64 n, .slice a (ints L).length cap] 29)).heap.size (u.val.alloc (.cells #[.int .i64 n, .slice a (ints L).length cap] 29)) a (ints L)) := Lib.hid (h.to (u.alloc _))
  have hrr : u.val.heap.size < (u.val.alloc (.cells #[.int .i64 n, .slice a (ints L).length cap] 29)).heap.size := by simp
  have HV : Hid (∀ v : Later (u.val.alloc (.cells #[.int .i64 n, .slice a (ints L).length cap] 29)).heap.size (u.val.alloc (.cells #[.int .i64 n, .slice a (ints L).length cap] 29)), ∃ w : Later B W, w.val = v.val) := Lib.hid (fun v => ⟨(u.alloc _).up v, rfl⟩)
  have HR := Lib.hid hr
  have HRs := Lib.hid hrise
  clear h hr hrise
  have o1 := i64_andNot A Bb (by omega) (by omega)
  have o2 := i64_andNot Bb A (by omega) (by omega)
  have hAB : nand A Bb < 256 := nand_lt _ _ 8 hA
  have hBA : nand Bb A < 256 := nand_lt _ _ 8 hB
  go_enter Try.func58, Try.ntmps58
  go_wp2
  generalize hr2 : u.val.heap.size = g at *
  generalize u.val.alloc (.cells #[.int .i64 n, .slice a (ints L).length cap] 29) = W1 at *
  clear hr2 u o1
  go_loopw [7] (fun o wr => ∃ (t : Nat) (v : Later W1.heap.size W1), t < 256 ∧ o = .int .i64 t ∧ wr = v.val ∧ Hid (sub t (nand A Bb)) ∧ Hid (ExO L A Bb t)) (fun o _ => (intOf o).toNat)
  case atStart => exact ⟨nand A Bb, Later.self _, hAB, rfl, rfl, Lib.hid (fun _ h => h), Lib.hid (fun x h1 h2 h3 => by rw [nand_testBit, h1, h2] at h3; cases h3)⟩
  case round =>
    obtain ⟨t, v, ht, rfl, rfl, HS, HO⟩ := hrel
    by_cases h0 : t = 0
    · subst h0
      have d0 : ((((0 : Nat) : Int)) != 0) = false := rfl
      have HT : Hid (r = true) := Lib.hid (HR.out.2 (fun x h1 h2 => HO.out x h1 h2 (by simp)))
      go_wp2
      go_ret
      exact Ret.of (HV.out v) (vbool HT.out.symm)
    · obtain ⟨e, he, hlow, hte, hdb, _, hdl⟩ := low_facts t ht h0
      have d0 : ((t : Int) != 0) = true := by rw [bne_iff_ne]; omega
      have l1 := i64_low t ht
      rw [hlow] at l1
      have l2 := i64_drop1 t ht (by omega)
      have HD := Lib.hid (drop1_lt t ht)
      have HDl := Lib.hid hdl
      have hbe := bit_lt e he
      have hAe := HS.out e hte
      rw [nand_testBit] at hAe
      have HAe : Hid (A.testBit e = true ∧ Bb.testBit e = false) := Lib.hid (by simpa using hAe)
      have HSn : Hid (sub (drop1 t) (nand A Bb)) := Lib.hid (fun i hi => by
        have h8 := lt_of_testBit HD.out hi
        have := hdb i h8
        rw [this] at hi
        simp at hi
        exact HS.out i hi.1)
      have HOn : Hid (exX L A Bb e → ExO L A Bb (drop1 t)) := Lib.hid (fun hx x h1 h2 h3 => by
        by_cases c : x = e
        · subst c; exact hx
        · refine HO.out x h1 h2 ?_
          have h8 := lt_of_testBit hA h1
          have := hdb x h8
          rw [this] at h3
          simpa [c] using h3)
      clear h0 hlow hte hdb hdl hAe HS HO
      go_wp2
      go_loopw [9, 10] (fun o i wr => ∃ (ok : Bool) (q : Nat) (y : Later W1.heap.size W1), q < 256 ∧ i = .int .i64 q ∧ o = .bool ok ∧ wr = y.val ∧ Hid (sub q (nand Bb A)) ∧ Hid (ExI L A Bb e q ok)) (fun _ i _ => (intOf i).toNat)
      case atStart => exact ⟨false, nand Bb A, v, hBA, rfl, rfl, rfl, Lib.hid (fun _ h => h), Lib.hid (ExI.start L A Bb e)⟩
      case round =>
        clear v
        obtain ⟨ok, q, y, hq, rfl, rfl, rfl, HSq, HX⟩ := hrel
        by_cases hgo : q ≠ 0 ∧ ok = false
        · obtain ⟨hq0, rfl⟩ := hgo
          obtain ⟨f, hf, hlow, hqf, hdb, _, hdl⟩ := low_facts q hq hq0
          have e0 : ((q : Int) != 0) = true := by rw [bne_iff_ne]; omega
          have m1 := i64_low q hq
          rw [hlow] at m1
          have m2 := i64_drop1 q hq (by omega)
          have HDq := Lib.hid (drop1_lt q hq)
          have HDlq := Lib.hid hdl
          have hbf := bit_lt f hf
          have o3 := i64_andNot A (bit e) (by omega) (by omega)
          have hne : nand A (bit e) < 256 := nand_lt _ _ 8 hA
          have o4 := i64_or (nand A (bit e)) (bit f) (by omega) (by omega)
          have hBf := HSq.out f hqf
          rw [nand_testBit] at hBf
          have HBf : Hid (Bb.testBit f = true ∧ A.testBit f = false) := Lib.hid (by simpa using hBf)
          have HSn2 : Hid (sub (drop1 q) (nand Bb A)) := Lib.hid (fun i hi => by
            have h8 := lt_of_testBit HDq.out hi
            have := hdb i h8
            rw [this] at hi
            simp at hi
            exact HSq.out i hi.1)
          have HXn : Hid (∀ b : Bool, (b = decide ((nand A (bit e) ||| bit f) ∈ L)) → ExI L A Bb e (drop1 q) b) := Lib.hid (fun b hb => by
            refine ⟨fun h => ⟨f, HBf.out.1, HBf.out.2, by rw [h] at hb; simpa using hb.symm⟩, fun h z h1 h2 h3 => ?_⟩
            by_cases c : z = f
            · subst c; rw [h] at hb; simpa using hb.symm
            · refine HX.out.2 rfl z h1 h2 ?_
              have h8 := lt_of_testBit hB h1
              have := hdb z h8
              rw [this] at h3
              simpa [c] using h3)
          have q1 := (T0.out.keep_at y.below hrr).c1
          have hnf : nand A (bit e) ||| bit f < 256 := or_lt _ _ hne (by omega)
          have KB := Lib.hid (c_bsearch y (ints L) (((nand A (bit e) ||| bit f : Nat) : Int)) a cap HI.out hlen HRs.out)
          have HM : Hid (decide ((((nand A (bit e) ||| bit f : Nat) : Int)) ∈ ints L) = decide ((nand A (bit e) ||| bit f) ∈ L)) := Lib.hid (by simp only [mem_ints])
          have HXn2 := Lib.hid (HXn.out _ HM.out)
          clear hq0 hlow hqf hdb hdl hBf HX HSq HXn HM
          generalize hdd : decide ((((nand A (bit e) ||| bit f : Nat) : Int)) ∈ ints L) = dd at *
          have KB2 : Hid (Calls Try.prog 21 #[.slice a (ints L).length cap, .int .i64 ((nand A (bit e) ||| bit f : Nat) : Int)] y.val (RetP W1.heap.size W1 (fun x _ => ∃ i : Int, x = .tuple #[.int .i64 i, .bool dd]))) := Lib.hid (KB.out.mono fun e w ⟨v, h1, ⟨i, h2⟩, h3⟩ => ⟨v, h1, ⟨i, by rw [h2, hdd]⟩, h3⟩)
          clear KB hdd
          go_wp2_with (first | (go_at_call 21; refine (KB2.out).mono ?_; rintro e _ ⟨_, rfl, ⟨iz, rfl⟩, y2, rfl⟩))
          go_roundw
          case rel => exact ⟨dd, drop1 q, y2, HDq.out, rfl, rfl, rfl, HSn2, HXn2⟩
          case measure => have := HDlq.out; simp [intOf]; omega
        · have HEnd : Hid (ok = true ↔ exX L A Bb e) := Lib.hid (ExI.end HX.out (by
            by_cases hq0 : q = 0
            · exact .inl hq0
            · right
              cases ok with
              | true => rfl
              | false => exact absurd ⟨hq0, rfl⟩ hgo))
          clear HX HSq
          cases ok with
          | false =>
            have hq0 : q = 0 := Classical.byContradiction (fun h => hgo ⟨h, rfl⟩)
            subst hq0
            have e0 : ((((0 : Nat) : Int)) != 0) = false := rfl
            have HF : Hid (r = false) := Lib.hid (by
              cases hrv : r with
              | false => rfl
              | true =>
                have := HR.out.1 hrv e HAe.out.1 HAe.out.2
                have := HEnd.out.2 this
                cases this)
            clear hgo
            go_wp2
            go_ret
            exact Ret.of (HV.out y) (vbool HF.out.symm)
          | true =>
            have HN := Lib.hid (HOn.out (HEnd.out.1 rfl))
            rcases ieq (q : Int) 0 with ⟨g1, e0, e1⟩ | ⟨g1, e0, e1⟩
            all_goals
              clear g1 hgo
              go_wp2
              go_roundw
              case rel => exact ⟨drop1 t, y, HD.out, rfl, rfl, HSn, HN⟩
              case measure => have := HDl.out; simp [intOf]; omega

end Go.Proofs.Ytmcffbmhkbijlaa

namespace Go.Proofs.Ytmcffbmhkbijlaa
open Go.RowKit
set_option linter.unusedVariables false

def toN (l : List Int) : List Nat := l.map Int.toNat
theorem toN_len (l : List Int) : (toN l).length = l.length := by simp [toN]
theorem toN_getD (l : List Int) (i : Nat) : (toN l).getD i 0 = (l.getD i 0).toNat := by
  unfold toN
  by_cases h : i < l.length
  · simp [h]
  · simp [h]
theorem ints_toN {l : List Int} (h : ∀ i, i < l.length → 0 ≤ l.getD i 0) : ints (toN l) = l := by
  apply List.ext_getElem
  · simp [ints, toN]
  · intro i h1 h2
    have := h i h2
    simp [h2] at this
    simp [ints, toN]
    omega
theorem fam_ints {n : Int} {l : List Int} (h : isFam n l) : ints (toN l) = l := ints_toN (fun i hi => (h.2.2 i hi).1)
theorem fam_lt {n : Int} {l : List Int} (h : isFam n l) : ∀ b, b ∈ toN l → b < bit n.toNat := by
  intro b hb
  obtain ⟨i, hi, e⟩ := List.getElem_of_mem hb
  have hi' : i < l.length := by rw [toN_len] at hi; exact hi
  have h1 := h.2.2 i hi'
  have h2 : b = (l.getD i 0).toNat := by rw [← toN_getD, ← e]; simp [hi]
  have h3 := bit_le n.toNat (by have := h.2.1; omega)
  have h4 : all n = ((bit n.toNat - 1 : Nat) : Int) := rfl
  rw [h4] at h1
  omega
/-- a family of sets of one size, not none -/
def okM (n : Int) (l : List Int) : Prop := isFam n l ∧ l ≠ [] ∧ ∀ i, i < (toN l).length → sz ((toN l).getD i 0) = sz ((toN l).getD 0 0)
/-- what the check of a matroid answers -/
def MatIs (n : Int) (l : List Int) (e : Int) : Prop := (¬ okM n l → e = 1) ∧ (okM n l → ¬ Exch (toN l) → e = 3) ∧ (okM n l → Exch (toN l) → e = 0)
theorem MatIs.ex (n : Int) (l : List Int) : ∃ e, MatIs n l e := by
  by_cases h : okM n l
  · by_cases g : Exch (toN l)
    · exact ⟨0, fun x => absurd h x, fun _ x => absurd g x, fun _ _ => rfl⟩
    · exact ⟨3, fun x => absurd h x, fun _ _ => rfl, fun _ x => absurd x g⟩
  · exact ⟨1, fun _ => rfl, fun x => absurd x h, fun x => absurd x h⟩
theorem exch_getD {L : List Nat} : Exch L ↔ ∀ i, i < L.length → ∀ j, j < L.length → exP L (L.getD i 0) (L.getD j 0) := by
  constructor
  · intro h i hi j hj
    have h1 : L.getD i 0 ∈ L := by simp [hi]
    have h2 : L.getD j 0 ∈ L := by simp [hj]
    exact h _ h1 _ h2
  · intro h A hA B hB
    obtain ⟨i, hi, e1⟩ := List.getElem_of_mem hA
    obtain ⟨j, hj, e2⟩ := List.getElem_of_mem hB
    have := h i hi j hj
    have e3 : L.getD i 0 = A := by simp [hi, e1]
    have e4 : L.getD j 0 = B := by simp [hj, e2]
    rw [e3, e4] at this
    exact this
theorem okM.fam8 {n : Int} {l : List Int} (h : okM n l) : Fam8 (toN l) (sz ((toN l).getD 0 0)) where
  lt := fun b hb => by
    have := fam_lt h.1 b hb
    have h3 := bit_le n.toNat (by have := h.1.2.1; omega)
    omega
  eq := fun b hb => by
    obtain ⟨i, hi, e⟩ := List.getElem_of_mem hb
    have := h.2.2 i hi
    have e3 : (toN l).getD i 0 = b := by simp [hi, e]
    rw [e3] at this
    exact this

set_option maxRecDepth 100000 in
set_option maxHeartbeats 8000000 in
theorem c_axCheck {B : Nat} {W : World} (u : Later B W) (n : Int) (l : List Int) (a : Option Addr) (cap : Nat) (e : Int) (h : IntsAt B W a l) (hlen : l.length ≤ 4611686018427387904) (he : MatIs n l e) :
    Calls Try.prog 32 #[.agg #[.int .i64 n, .slice a l.length cap]] u.val (Ret B W (.int .i64 e)) := by
  have T0 : Hid (Two (u.val.alloc (.cells #[.int .i64 n, .slice a l.length cap] 29)) u.val.heap.size 29 (.int .i64 n) (.slice a l.length cap)) := Lib.hid (Two.new _ _ _ _)
  have HI : Hid (IntsAt (u.val.alloc (.cells #[.int .i64 n, .slice a l.length cap] 29)).heap.size (u.val.alloc (.cells #[.int .i64 n, .slice a l.length cap] 29)) a l) := Lib.hid (h.to (u.alloc _))
  have hrr : u.val.heap.size < (u.val.alloc (.cells #[.int .i64 n, .slice a l.length cap] 29)).heap.size := by simp
  have HV : Hid (∀ v : Later (u.val.alloc (.cells #[.int .i64 n, .slice a l.length cap] 29)).heap.size (u.val.alloc (.cells #[.int .i64 n, .slice a l.length cap] 29)), ∃ w : Later B W, w.val = v.val) := Lib.hid (fun v => ⟨(u.alloc _).up v, rfl⟩)
  have q0 : ∀ w : Later (u.val.alloc (.cells #[.int .i64 n, .slice a l.length cap] 29)).heap.size (u.val.alloc (.cells #[.int .i64 n, .slice a l.length cap] 29)), w.val.cell? ⟨u.val.heap.size, 0, none⟩ = some (.int .i64 n) := fun w => (T0.out.keep w.below).c0
  have q1 : ∀ w : Later (u.val.alloc (.cells #[.int .i64 n, .slice a l.length cap] 29)).heap.size (u.val.alloc (.cells #[.int .i64 n, .slice a l.length cap] 29)), w.val.cell? ⟨u.val.heap.size, 1, none⟩ = some (.slice a l.length cap) := fun w => (T0.out.keep w.below).c1
  have KF : Hid (∀ x : Int, x = errno (decide (isFam n l)) 1 → Calls Try.prog 18 #[.int .i64 n, .slice a l.length cap] (u.val.alloc (.cells #[.int .i64 n, .slice a l.length cap] 29)) (Ret (u.val.alloc (.cells #[.int .i64 n, .slice a l.length cap] 29)).heap.size (u.val.alloc (.cells #[.int .i64 n, .slice a l.length cap] 29)) (.int .i64 x))) := Lib.hid (fun x hx => by subst hx; exact c_family (Later.self _) n l a cap (h.to (u.alloc _)) (by omega))
  clear h T0
  by_cases hf : isFam n l
  case neg =>
    have K1 := Lib.hid (KF.out 1 (by simp [errno, hf]))
    have h1 := he.1 (fun h => hf h.1)
    subst h1
    clear hf he KF
    go_enter Try.func32, Try.ntmps32
    go_wp2_with (first | (go_at_call 18; refine (K1.out).mono ?_; rintro e _ ⟨rfl, v1, rfl⟩))
    go_ret
    exact Ret.of (HV.out v1) rfl
  have K1 := Lib.hid (KF.out 0 (by simp [errno, hf])); clear KF
  by_cases h0 : 0 < l.length
  case neg =>
    have hl0 : l = [] := List.length_eq_zero_iff.1 (by omega)
    have h1 := he.1 (fun h => h.2.1 hl0)
    subst h1 hl0
    clear hf he h0
    go_enter Try.func32, Try.ntmps32
    go_wp2_with (first | (go_at_call 18; refine (K1.out).mono ?_; rintro e _ ⟨rfl, v1, rfl⟩))
    go_ret
    exact Ret.of (HV.out v1) rfl
  have z1 : ((l.length : Int) == 0) = false := by rw [beq_eq_false_iff_ne]; omega
  have HOk : Hid (okM n l ↔ ∀ i, i < l.length → sz (l.getD i 0).toNat = sz (l.getD 0 0).toNat) := Lib.hid (by
    unfold okM
    constructor
    · intro h i hi
      have := h.2.2 i (by rw [toN_len]; exact hi)
      rwa [toN_getD, toN_getD] at this
    · intro h
      refine ⟨hf, (by rintro rfl; simp at h0), fun i hi => ?_⟩
      rw [toN_len] at hi
      rw [toN_getD, toN_getD]
      exact h i hi)
  have HF := Lib.hid hf; have HE := Lib.hid he
  clear hf he
  have HN : Hid (∀ i, i < l.length → ∃ s : Nat, l.getD i 0 = s ∧ s < 256) := Lib.hid (fun i hi => by
    have h1 := HF.out.2.2 i hi
    have h2 := all_le n HF.out.2.1
    exact ⟨(l.getD i 0).toNat, by omega, by omega⟩)
  obtain ⟨x0, hx0, hx08⟩ := HN.out 0 h0
  obtain ⟨b, off, rfl, hbB, hcell⟩ := HI.out.at (k := 0) h0
  have HC := Lib.hid hcell
  have c00 := fun v => hcell v 0 h0
  rw [hx0] at c00
  simp only [Nat.add_zero] at c00
  have HX0 := Lib.hid hx0
  clear hcell hx0
  go_enter Try.func32, Try.ntmps32
  go_wp2_with (first | (go_at_call 18; refine (K1.out).mono ?_; rintro e _ ⟨rfl, v1, rfl⟩))
  clear K1 z1
  generalize hr2 : u.val.heap.size = g at *
  generalize u.val.alloc (.cells #[.int .i64 n, .slice (some ⟨b, off, none⟩) l.length cap] 29) = W1 at *
  clear hr2 u
  have HS0 := Lib.hid (fun v : Later W1.heap.size W1 => c_size_axioms v x0 hx08)
  go_loopw [24] (fun i wr => ∃ (k : Nat) (v : Later W1.heap.size W1), k ≤ l.length ∧ i = .int .i64 k ∧ wr = v.val ∧ Hid (∀ i, i < k → sz (l.getD i 0).toNat = sz (l.getD 0 0).toNat)) (fun i _ => l.length - (intOf i).toNat)
  case atStart => exact ⟨0, v1, by omega, rfl, rfl, Lib.hid (fun i hi => by omega)⟩
  case round =>
    clear v1
    obtain ⟨k, v1, hk, rfl, rfl, hfk⟩ := hrel
    by_cases hlt : k < l.length
    · obtain ⟨x, hx, hx8⟩ := HN.out k hlt
      have c0 := HC.out v1 k hlt
      rw [hx] at c0
      have HS1 := Lib.hid (fun v : Later W1.heap.size W1 => c_size_axioms v x hx8)
      have HX := Lib.hid hx
      clear hx
      have hsx := sz_le x
      have hs0 := sz_le x0
      by_cases hq : sz x = sz x0
      · have HQ := Lib.hid hq
        have hn : Hid (∀ i, i < k + 1 → sz (l.getD i 0).toNat = sz (l.getD 0 0).toNat) := Lib.hid (fun i hi => by
          by_cases c : i = k
          · subst c; rw [HX.out, HX0.out]; exact HQ.out
          · exact hfk.out i (by omega))
        rw [hq] at HS1
        clear hq
        go_wp2
        refine wp_region_later v1 (by kernel_rfl) (by kernel_rfl) (fun _ => ?_)
        repeat (first | go_big_quiet_step ((first | (go_at_call 46; exact HS1.out _) | (go_at_call 46; exact HS0.out _))) | (refine wpQuiet_step (fun K hK => ?_); go_simp; refine ⟨_, fun _ => rfl, ?_⟩; refine hK _ ?_; clear hK K))
        refine wpQuiet_nil ?_
        intro v1
        go_wp2
        go_roundw
        case rel => exact ⟨k+1, v1, by omega, by go_num, rfl, hn⟩
        case measure => simp [intOf]; omega
      · have he1 : e = 1 := HE.out.1 (fun h => hq (by have := HOk.out.1 h k hlt; rw [HX.out, HX0.out] at this; exact this))
        subst he1
        have d1 : (((sz x : Nat) : Int) != ((sz x0 : Nat) : Int)) = true := by rw [bne_iff_ne]; omega
        have d2 : ((sz x) != (sz x0)) = true := by rw [bne_iff_ne]; omega
        clear hq
        generalize sz x = p at *
        generalize sz x0 = p0 at *
        go_wp2
        refine wp_region_later v1 (by kernel_rfl) (by kernel_rfl) (fun _ => ?_)
        repeat (first | go_big_quiet_step ((first | (go_at_call 46; exact HS1.out _) | (go_at_call 46; exact HS0.out _))) | (refine wpQuiet_step (fun K hK => ?_); go_simp; refine ⟨_, fun _ => rfl, ?_⟩; refine hK _ ?_; clear hK K))
        refine wpQuiet_nil ?_
        intro v1
        go_wp2
        go_ret
        exact Ret.of (HV.out v1) rfl
    · have hok : Hid (okM n l) := Lib.hid (HOk.out.2 (fun i hi => hfk.out i (by omega)))
      have HInt := Lib.hid (fam_ints HF.out)
      have hrs : rising l := HF.out.2.2.rising
      have HRs : Hid (rising (ints (toN l))) := Lib.hid (by rw [HInt.out]; exact hrs)
      have HLl : Hid ((ints (toN l)).length = l.length) := Lib.hid (by rw [HInt.out])
      have KE : Hid (∀ (v : Later W1.heap.size W1) (A Bb : Nat) (r : Bool), A < 256 → Bb < 256 → (r = true ↔ exP (toN l) A Bb) → Calls Try.prog 58 #[.agg #[.int .i64 n, .slice (some ⟨b, off, none⟩) l.length cap], .int .i64 A, .int .i64 Bb] v.val (Ret W1.heap.size W1 (.bool r))) := Lib.hid (fun v A Bb r hA hB hr => by
        have := c_exchange v n (toN l) (some ⟨b, off, none⟩) cap A Bb r (by rw [HInt.out]; exact HI.out) (by rw [HInt.out]; exact hlen) HRs.out hA hB hr
        rwa [HInt.out] at this)
      have HEx : Hid (Exch (toN l) ↔ ∀ i, i < l.length → ∀ j, j < l.length → exP (toN l) (l.getD i 0).toNat (l.getD j 0).toNat) := Lib.hid (by
        rw [exch_getD, toN_len]
        constructor <;> intro h i hi j hj <;> have := h i hi j hj <;> simpa only [toN_getD] using this)
      clear hrs hfk
      go_wp2
      go_loopw [40] (fun i wr => ∃ (k : Nat) (v : Later W1.heap.size W1), k ≤ l.length ∧ i = .int .i64 k ∧ wr = v.val ∧ Hid (∀ i, i < k → ∀ j, j < l.length → exP (toN l) (l.getD i 0).toNat (l.getD j 0).toNat)) (fun i _ => l.length - (intOf i).toNat)
      case atStart => exact ⟨0, v1, by omega, rfl, rfl, Lib.hid (fun i hi => by omega)⟩
      case round =>
        clear v1
        obtain ⟨k2, v1, hk2, rfl, rfl, hfk⟩ := hrel
        by_cases hlt3 : k2 < l.length
        · obtain ⟨x, hx, hx8⟩ := HN.out k2 hlt3
          have c0 := HC.out v1 k2 hlt3
          rw [hx] at c0
          have HX := Lib.hid hx
          clear hx
          go_wp2
          go_loopw [47] (fun i wr => ∃ (j : Nat) (v : Later W1.heap.size W1), j ≤ l.length ∧ i = .int .i64 j ∧ wr = v.val ∧ Hid (∀ i, i < j → exP (toN l) x (l.getD i 0).toNat)) (fun i _ => l.length - (intOf i).toNat)
          case atStart => exact ⟨0, v1, by omega, rfl, rfl, Lib.hid (fun i hi => by omega)⟩
          case round =>
            clear v1 c0
            obtain ⟨j, v1, hj, rfl, rfl, hfj⟩ := hrel
            by_cases hlt2 : j < l.length
            · obtain ⟨z, hz, hz8⟩ := HN.out j hlt2
              have c1 := HC.out v1 j hlt2
              rw [hz] at c1
              have HZ := Lib.hid hz
              clear hz
              by_cases hex : exP (toN l) x z
              · have K2 := Lib.hid (fun v => KE.out v x z true hx8 hz8 (by simp [hex]))
                have hn : Hid (∀ i, i < j + 1 → exP (toN l) x (l.getD i 0).toNat) := Lib.hid (fun i hi => by
                  by_cases c : i = j
                  · subst c; rw [HZ.out]; exact hex
                  · exact hfj.out i (by omega))
                clear hex
                go_wp2_with (first | (go_at_call 58; refine (K2.out _).mono ?_; rintro e _ ⟨rfl, v2, rfl⟩))
                go_roundw
                case rel => exact ⟨j+1, v2, by omega, by go_num, rfl, hn⟩
                case measure => simp [intOf]; omega
              · have K2 := Lib.hid (fun v => KE.out v x z false hx8 hz8 (by simp [hex]))
                have he3 : e = 3 := HE.out.2.1 hok.out (fun h => hex (by have := HEx.out.1 h k2 hlt3 j hlt2; rw [HX.out, HZ.out] at this; exact this))
                subst he3
                clear hex
                go_wp2_with (first | (go_at_call 58; refine (K2.out _).mono ?_; rintro e _ ⟨rfl, v2, rfl⟩))
                go_ret
                exact Ret.of (HV.out v2) rfl
            · have hn : Hid (∀ i, i < k2 + 1 → ∀ j, j < l.length → exP (toN l) (l.getD i 0).toNat (l.getD j 0).toNat) := Lib.hid (fun i hi j' hj' => by
                by_cases c : i = k2
                · subst c; rw [HX.out]; exact hfj.out j' (by omega)
                · exact hfk.out i (by omega) j' hj')
              go_wp2
              go_roundw
              case rel => exact ⟨k2+1, v1, by omega, by go_num, rfl, hn⟩
              case measure => simp [intOf]; omega
        · have he0 : e = 0 := HE.out.2.2 hok.out (HEx.out.2 (fun i hi => hfk.out i (by omega)))
          subst he0
          go_wp2
          go_ret
          exact Ret.of (HV.out v1) rfl

end Go.Proofs.Ytmcffbmhkbijlaa

namespace Go.Proofs.Ytmcffbmhkbijlaa
open Go.RowKit
set_option linter.unusedVariables false

section
variable {P : Program} {md : Region.Mode} {ops : Array Oper} {C : World → Prop}

/-- the head's operations in whatever order, each quiet; then L -/
def qHead (P : Program) (md : Region.Mode) (ops : Array Oper) (C : World → Prop) (n : Nat) (L : Array Bool → Act → Prop) : Nat → Array Bool → Act → Prop
  | 0, done, a => L done a
  | f + 1, done, a => Region.ready md ops done ≠ [] ∧ ∀ i, i ∈ Region.ready md ops done → i < n ∧ qOp P ops C i (qHead P md ops C n L f (done.setIfInBounds i true)) a

theorem qHead_any {n g : Nat} {L : Array Bool → Act → Prop} {Q : Exit → Act → World → Prop} (hL : ∀ done a w, C w → L done a → wpAny P md ops Q g done a w) (f : Nat) :
    ∀ (done : Array Bool) (a : Act) (w : World), C w → qHead P md ops C n L f done a → wpAny P md ops Q (f + g) done a w := by
  induction f with
  | zero =>
    intro done a w hw h
    have := hL done a w hw h
    rwa [Nat.zero_add]
  | succ f ih =>
    intro done a w hw h
    have e : f + 1 + g = f + g + 1 := by omega
    rw [e]
    refine ⟨fun h0 => absurd h0 h.1, fun i hi => ?_⟩
    exact wpOp_of_qOp hw (fun a' w' hw' h' => ih _ a' w' hw' h') (h.2 i hi).2

/-- an operation of the head that may come now may come first -/
theorem qHead_first {n i : Nat} {oi : Oper} {v : Value} {L : Array Bool → Act → Prop} (hi : ops[i]? = some oi) (hsel : ∀ (j : Nat) (o : Oper) cs b, ops[j]? = some o → o.op ≠ .select cs b)
    (hs : Region.sinkB md ops n = true) (hc : Region.chainB md ops n = true) (hn : n < ops.size) (hin : i < n) (hend : ∀ done a, L done a → ∀ j, j ∈ Region.ready md ops done → n ≤ j) (f : Nat) :
    ∀ (done : Array Bool) (a : Act), HeadInv md ops n done →
      (∀ j oj, ops[j]? = some oj → j ≠ i → done.getD j true = false → (∀ e ∈ oj.after, Region.binds md e = true → e.on ≠ i) → oi.apart ops oj = true) →
      i ∈ Region.ready md ops done → YieldsIn P ops C oi v a → qHead P md ops C n L f (done.setIfInBounds i true) (a.put oi.dst v) → qHead P md ops C n L (f + 1) done a := by
  induction f with
  | zero =>
    intro done a inv hfree hr hy H
    have hun := (mem_ready.1 hr).1
    refine ⟨(by intro h0; rw [h0] at hr; cases hr), fun j hj => ?_⟩
    have hjn : j < n := Nat.lt_of_not_le (fun h => tail_waits hs hc hn inv (n - i) i rfl hin hun j h hj)
    refine ⟨hjn, ?_⟩
    by_cases c : j = i
    · subst c; exact hy.qOp hi H
    · exact absurd (hend _ _ H j (ready_mono hj c)) (by omega)
  | succ f ih =>
    intro done a inv hfree hr hy H
    have hun := (mem_ready.1 hr).1
    refine ⟨(by intro h0; rw [h0] at hr; cases hr), fun j hj => ?_⟩
    have hjn : j < n := Nat.lt_of_not_le (fun h => tail_waits hs hc hn inv (n - i) i rfl hin hun j h hj)
    refine ⟨hjn, ?_⟩
    by_cases c : j = i
    · subst c; exact hy.qOp hi H
    · obtain ⟨hjun, oj, hoj, hall⟩ := mem_ready.1 hj
      have hnot : ∀ e ∈ oj.after, Region.binds md e = true → e.on ≠ i := by
        intro e he hb heq
        have hd := hall e he hb
        rw [heq, getD_both hun] at hd
        cases hd
      have step := qOp_put hoj (hfree j oj hoj c hjun hnot) (fun cs b => hsel i oi cs b hi) (fun cs b => hsel j oj cs b hoj) hy (H.2 j (ready_mono hj c)).2
      refine qOp_mono (fun a' h3 => ?_) step
      refine ih (done.setIfInBounds j true) a' (inv.set hj hjn) ?_ (ready_mono hr (Ne.symm c)) h3.1 ?_
      · intro k ok hk hki hku hno
        refine hfree k ok hk hki ?_ hno
        by_cases d : j = k
        · subst d; exact hjun
        · rwa [getD_set_ne true d] at hku
      · rw [Array.setIfInBounds_comm _ _ c]
        exact h3.2

theorem qHead_lex {n g : Nat} {K : Act → Prop} (hsel : Region.noSelect ops = true) (hs : Region.sinkB md ops n = true) (hc : Region.chainB md ops n = true) (hn : n < ops.size) (l : List Oper) :
    ∀ (k : Nat) (done : Array Bool) (a : Act), (∀ j, j < l.length → l[j]? = ops[k + j]?) → k + l.length = n → HeadInv md ops n done →
      Region.lexHead md ops g l.length k done = true → wpQuiet P ops C K l a → qHead P md ops C n (fun done' a' => Region.seqB md ops g n done' = true ∧ K a') l.length done a := by
  induction l with
  | nil =>
    intro k done a _ hk _ hB h
    have hkn : k = n := by simpa using hk
    subst hkn
    exact ⟨by simpa [Region.lexHead] using hB, h⟩
  | cons o l ih =>
    intro k done a hl hk inv hB h
    have h0 : ops[k]? = some o := by simpa using (hl 0 (by simp)).symm
    simp only [List.length_cons, Region.lexHead, Bool.and_eq_true] at hB
    have hkn : k < n := by simp only [List.length_cons] at hk; omega
    have hr : k ∈ Region.ready md ops done := by simpa using hB.1.1
    have hq : qOp P ops C k (wpQuiet P ops C K l) a := by unfold qOp; simp only [h0]; exact h
    obtain ⟨v, hy, hK⟩ := yieldsIn_of_qOp h0 hq
    refine qHead_first h0 (Region.noSelect_spec hsel) hs hc hn hkn (fun _ _ hL => seqB_ready hL.1) l.length done a inv (Region.free_spec h0 hB.1.2) hr hy ?_
    refine ih (k + 1) _ _ (fun j hj => ?_) (by simp only [List.length_cons] at hk; omega) (inv.set hr hkn) hB.2 hK
    have := hl (j + 1) (by simp; omega)
    simpa [Nat.add_assoc, Nat.add_comm 1 j] using this
end

theorem wp_region_quiet_tail {P : Program} {C : World → Prop} {id : Nat} {Q : Exit → Act → World → Prop} {a : Act} {w : World} {l : List Oper} (n : Nat) (hm : P.follows .mixedOrders = true) (hB : Region.lexTailB .any l.toArray n = true) (hC : C w.drew)
    (h : wpQuiet P l.toArray C (fun a' => ∀ w', C w' → wpList P l.toArray Q (l.drop n) a' w') (l.take n) a) : (Code.region id l.toArray true).wp P Q a w := by
  simp only [Region.lexTailB, Bool.and_eq_true, decide_eq_true_eq] at hB
  obtain ⟨⟨⟨⟨hsel, hn⟩, hs⟩, hc⟩, hlex⟩ := hB
  have hnl : n < l.length := by simpa using hn
  have htl : (l.take n).length = n := by simp; omega
  have inv0 : HeadInv .any l.toArray n (Array.replicate l.toArray.size false) := by
    refine ⟨by simp, fun j oj _ hl => ?_, fun t _ ht => getD_in (by simpa using ht) (getD_replicate_false _ _)⟩
    rw [getD_replicate_false] at hl; cases hl
  have H := qHead_lex (md := .any) (g := l.toArray.size - n) hsel hs hc hn (l.take n) 0 _ a (fun j hj => by
    have hj' : j < n := by rw [htl] at hj; exact hj
    simp [hj']) (by simpa using htl) inv0 (by rw [htl]; exact hlex) h
  refine wp_region_any hm ?_
  have fin := qHead_any (Q := Q) (g := l.toArray.size - n) (fun done a' w' hw' hL => by
    have := wpAny_of_seq (P := P) (md := .any) (ops := l.toArray) (l.drop n) n done a' w' (fun j => by simp) (by simpa using hL.1) (hL.2 w' hw')
    simpa using this) (l.take n).length (Array.replicate l.toArray.size false) a w.drew hC H
  have e : (l.take n).length + (l.toArray.size - n) = l.toArray.size := by rw [htl]; simp; omega
  rw [e] at fin
  exact fin

/-- from a later world: the tail in one more later world -/
theorem wp_region_later_qtail {P : Program} {id : Nat} {Q : Exit → Act → World → Prop} {a : Act} {B : Nat} {W : World} {l : List Oper} (u : Later B W) (n : Nat) (hm : P.follows .mixedOrders = true) (hB : Region.lexTailB .any l.toArray n = true)
    (h : Nonempty (Later B W) → wpQuiet P l.toArray (fun w' => ∃ u : Later B W, w' = u.val) (fun a' => ∀ v : Later B W, wpList P l.toArray Q (l.drop n) a' v.val) (l.take n) a) : (Code.region id l.toArray true).wp P Q a u.val := by
  refine wp_region_quiet_tail (C := fun w' => ∃ u : Later B W, w' = u.val) n hm hB ⟨u.drew, rfl⟩ ?_
  have e : (fun a' => ∀ w', (∃ u : Later B W, w' = u.val) → wpList P l.toArray Q (l.drop n) a' w') = (fun a' => ∀ v : Later B W, wpList P l.toArray Q (l.drop n) a' v.val) := by
    funext a'
    apply propext
    constructor
    · intro h v; exact h _ ⟨v, rfl⟩
    · rintro h _ ⟨v, rfl⟩; exact h v
  rw [e]
  exact h ⟨u⟩

end Go.Proofs.Ytmcffbmhkbijlaa
