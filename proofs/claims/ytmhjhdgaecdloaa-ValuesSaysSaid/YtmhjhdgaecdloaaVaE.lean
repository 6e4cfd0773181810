
/-
  values.Check, walked.
-/
import Derived.Test.YtmhjhdgaecdloaaVaD
namespace Go.Proofs.Ytmhjhdgaecdloaa
open Go.RowKit
set_option linter.unusedVariables false

set_option maxRecDepth 100000 in
set_option maxHeartbeats 4000000 in
theorem c_valCheck_no {B : Nat} {W : World} (u : Later B W) (n : Int) (vl : List (Int × Int)) (a : Option Addr) (cap : Nat) (h : EdgesAt B W a vl) (hlen : vl.length ≤ 17592186044416) (me : Int) (hm : MatIs n (valB vl) me) (h0 : undE vl me ≠ 0) :
    Calls Try.prog 9 #[.int .i64 n, .slice a vl.length cap] u.val (Ret B W (.int .i64 (undE vl me))) := by
  have K := Lib.hid (c_under u n vl a cap h (by omega) hlen me hm)
  have d0 : (undE vl me != 0) = true := by rw [bne_iff_ne]; exact h0
  clear h hm h0
  generalize undE vl me = e at *
  go_enter Try.func9, Try.ntmps9
  go_wp2_with (first | (go_at_call 23; (with_reducible refine (K.out).mono ?_); rintro e _ ⟨_, rfl, ⟨ad, cp, rfl, _⟩, v1, rfl⟩))
  go_ret
  exact Ret.mk (v1.alloc _) rfl

set_option maxRecDepth 100000 in
set_option maxHeartbeats 40000000 in
theorem c_valCheck_ok {B : Nat} {W : World} (u : Later B W) (n : Int) (vl : List (Int × Int)) (a : Option Addr) (cap : Nat) (h : EdgesAt B W a vl) (hlen : vl.length ≤ 17592186044416) (me : Int) (hm : MatIs n (valB vl) me) (h0 : undE vl me = 0) (hk : VlOk n vl) (r : Int) (hr1 : ExV (vlL vl) (valN vl) → r = 0) (hr2 : ¬ ExV (vlL vl) (valN vl) → r = 6) :
    Calls Try.prog 9 #[.int .i64 n, .slice a vl.length cap] u.val (Ret B W (.int .i64 r)) := by
  have K := Lib.hid (c_under u n vl a cap h (by omega) hlen me hm)
  rw [h0] at K
  have HE := Lib.hid h
  have h256 := hk.len256
  have HAt := Lib.hid (fun i (hi : i < vl.length) => hk.at_ hi)
  have HBd : Hid (∀ b : Nat, -1000 ≤ valN vl b ∧ valN vl b ≤ 1000) := Lib.hid (fun b => hk.bd b)
  have HEx : Hid (ExV (vlL vl) (valN vl) ↔ ∀ i, i < vl.length → ∀ j, j < vl.length → exVP (vlL vl) (valN vl) ((vlL vl).getD i 0) ((vlL vl).getD j 0)) := Lib.hid (by rw [← hk.len]; exact exV_getD)
  have HR1 := Lib.hid hr1
  have HR2 := Lib.hid hr2
  have KO : Hid (∀ (B : Nat) (W : World) (v : Later B W) (b : Nat), EdgesAt B W a vl → b < 256 → Calls Try.prog 24 #[.slice a vl.length cap, .int .i64 b] v.val (Ret B W (.tuple #[.int .i64 (valN vl b), .bool (decide (b ∈ vlL vl))]))) := Lib.hid (fun B W v b he hb => by
    have := c_of v vl (b : Int) a cap he (by omega) hk.rise hk.okB (by omega) (by omega)
    rwa [decide_eq_decide.2 (hk.mem b)] at this)
  have HVu : Hid (∀ v : Later B W, ∃ w : Later B W, w.val = v.val) := Lib.hid (fun v => ⟨v, rfl⟩)
  clear h hm hk h0 hr1 hr2
  generalize valN vl = N at *
  generalize vlL vl = L at *
  go_enter Try.func9, Try.ntmps9
  go_upto_region 4 with (first | (go_at_call 23; (with_reducible refine (K.out).mono ?_); rintro e _ ⟨_, rfl, ⟨ad, cp, rfl, hI0⟩, v1, rfl⟩))
  clear K hI0
  obtain ⟨y, hy⟩ : ∃ y : Later B W, y.val = v1.val.alloc (.cells #[.int .i64 n, .slice ad (valB vl).length cp] 29) := ⟨v1.alloc _, rfl⟩
  rw [← hy]
  clear hy
  generalize v1.val.heap.size = gm at *
  clear v1 u
  go_wp2
  go_loopw [31] (fun i wr => ∃ (k : Nat) (v : Later B W), k ≤ vl.length ∧ i = .int .i64 k ∧ wr = v.val ∧ Hid (∀ i, i < k → ∀ j, j < vl.length → exVP L N (L.getD i 0) (L.getD j 0))) (fun i _ => vl.length - (intOf i).toNat)
  case atStart => exact ⟨0, y, by omega, rfl, rfl, Lib.hid (fun i hi => by omega)⟩
  case round =>
    clear y
    obtain ⟨i, v, hi, rfl, rfl, hf⟩ := hrel
    by_cases hlt : i < vl.length
    case neg =>
      have hie : i = vl.length := by omega
      subst hie
      have HR := Lib.hid (HR1.out (HEx.out.2 hf.out))
      clear hf
      go_wp2
      go_ret
      exact Ret.mk v (vint HR.out.symm)
    obtain ⟨eA1, eA2, _, hA8⟩ := HAt.out i hlt
    obtain ⟨be, off, rfl, hbe, hce⟩ := HE.out.at hlt
    have x0 := (hce v i hlt).1
    have x1 := (hce v i hlt).2
    rw [eA1] at x0
    rw [eA2] at x1
    have hbA := HBd.out (L.getD i 0)
    have HFn : Hid ((∀ j, j < vl.length → exVP L N (L.getD i 0) (L.getD j 0)) → ∀ i', i' < i + 1 → ∀ j, j < vl.length → exVP L N (L.getD i' 0) (L.getD j 0)) := Lib.hid (fun h i' hi' j hj => by
      by_cases c : i' = i
      · subst c; exact h j hj
      · exact hf.out i' (by omega) j hj)
    have HNo : Hid ((∃ j, j < vl.length ∧ ¬ exVP L N (L.getD i 0) (L.getD j 0)) → r = 6) := Lib.hid (fun ⟨j, hj, h⟩ => HR2.out (fun c => h (HEx.out.1 c i hlt j hj)))
    clear hce eA1 eA2 hf
    generalize L.getD i 0 = A at *
    have T1 : Two (v.val.alloc (.cells #[.int .i64 A, .int .i64 (N A)] 36)) v.val.heap.size 36 (.int .i64 A) (.int .i64 (N A)) := Two.new _ _ _ _
    have a0 : ∀ w : Later (v.val.alloc (.cells #[.int .i64 A, .int .i64 (N A)] 36)).heap.size (v.val.alloc (.cells #[.int .i64 A, .int .i64 (N A)] 36)), w.val.cell? ⟨v.val.heap.size, 0, none⟩ = some (.int .i64 A) := fun w => (T1.keep w.below).c0
    have a1 : ∀ w : Later (v.val.alloc (.cells #[.int .i64 A, .int .i64 (N A)] 36)).heap.size (v.val.alloc (.cells #[.int .i64 A, .int .i64 (N A)] 36)), w.val.cell? ⟨v.val.heap.size, 1, none⟩ = some (.int .i64 (N A)) := fun w => (T1.keep w.below).c1
    have HV1 : Hid (∀ w : Later (v.val.alloc (.cells #[.int .i64 A, .int .i64 (N A)] 36)).heap.size (v.val.alloc (.cells #[.int .i64 A, .int .i64 (N A)] 36)), ∃ w' : Later B W, w'.val = w.val) := Lib.hid (fun w => ⟨(v.alloc _).up w, rfl⟩)
    have HE1 : Hid (EdgesAt (v.val.alloc (.cells #[.int .i64 A, .int .i64 (N A)] 36)).heap.size (v.val.alloc (.cells #[.int .i64 A, .int .i64 (N A)] 36)) (some ⟨be, off, none⟩) vl) := Lib.hid (HE.out.to (v.alloc _))
    obtain ⟨y, hy⟩ : ∃ y : Later (v.val.alloc (.cells #[.int .i64 A, .int .i64 (N A)] 36)).heap.size (v.val.alloc (.cells #[.int .i64 A, .int .i64 (N A)] 36)), y.val = (v.val.alloc (.cells #[.int .i64 A, .int .i64 (N A)] 36)) := ⟨Later.self _, rfl⟩
    clear T1
    go_upto_region 7 with fail
    rw [← hy]
    clear hy x0 x1
    generalize v.val.heap.size = ga at *
    generalize (v.val.alloc (.cells #[.int .i64 A, .int .i64 (N A)] 36)) = W1 at *
    clear v
    go_wp2
    go_loopw [37] (fun o wr => ∃ (j : Nat) (v : Later W1.heap.size W1), j ≤ vl.length ∧ o = .int .i64 j ∧ wr = v.val ∧ Hid (∀ j', j' < j → exVP L N A (L.getD j' 0))) (fun o _ => vl.length - (intOf o).toNat)
    case atStart => exact ⟨0, y, by omega, rfl, rfl, Lib.hid (fun i hi => by omega)⟩
    case round =>
      clear y
      obtain ⟨j, v, hj, rfl, rfl, hf⟩ := hrel
      by_cases hlt2 : j < vl.length
      case neg =>
        have hje : j = vl.length := by omega
        subst hje
        have HN := Lib.hid (HFn.out hf.out)
        obtain ⟨w', hw'⟩ := HV1.out v
        clear hf
        go_wp2
        go_roundw
        case rel => exact ⟨i+1, w', by omega, by go_num, hw'.symm, HN⟩
        case measure => simp [intOf]; omega
      obtain ⟨eB1, eB2, _, hB8⟩ := HAt.out j hlt2
      obtain ⟨be2, off2, e2, hbe2, hce⟩ := HE1.out.at hlt2
      cases e2
      have x0 := (hce v j hlt2).1
      have x1 := (hce v j hlt2).2
      rw [eB1] at x0
      rw [eB2] at x1
      have hbB := HBd.out (L.getD j 0)
      have HFn2 : Hid (exVP L N A (L.getD j 0) → ∀ j', j' < j + 1 → exVP L N A (L.getD j' 0)) := Lib.hid (fun h j' hj' => by
        by_cases c : j' = j
        · subst c; exact h
        · exact hf.out j' (by omega))
      have HNo2 : Hid (¬ exVP L N A (L.getD j 0) → r = 6) := Lib.hid (fun h => HNo.out ⟨j, hlt2, h⟩)
      clear hce eB1 eB2 hf
      generalize L.getD j 0 = Bb at *
      have T1 : Two (v.val.alloc (.cells #[.int .i64 Bb, .int .i64 (N Bb)] 36)) v.val.heap.size 36 (.int .i64 Bb) (.int .i64 (N Bb)) := Two.new _ _ _ _
      have b0 : ∀ w : Later (v.val.alloc (.cells #[.int .i64 Bb, .int .i64 (N Bb)] 36)).heap.size (v.val.alloc (.cells #[.int .i64 Bb, .int .i64 (N Bb)] 36)), w.val.cell? ⟨v.val.heap.size, 0, none⟩ = some (.int .i64 Bb) := fun w => (T1.keep w.below).c0
      have b1 : ∀ w : Later (v.val.alloc (.cells #[.int .i64 Bb, .int .i64 (N Bb)] 36)).heap.size (v.val.alloc (.cells #[.int .i64 Bb, .int .i64 (N Bb)] 36)), w.val.cell? ⟨v.val.heap.size, 1, none⟩ = some (.int .i64 (N Bb)) := fun w => (T1.keep w.below).c1
      have HV2 : Hid (∀ w : Later (v.val.alloc (.cells #[.int .i64 Bb, .int .i64 (N Bb)] 36)).heap.size (v.val.alloc (.cells #[.int .i64 Bb, .int .i64 (N Bb)] 36)), ∃ w' : Later W1.heap.size W1, w'.val = w.val) := Lib.hid (fun w => ⟨(v.alloc _).up w, rfl⟩)
      have HE2 : Hid (EdgesAt (v.val.alloc (.cells #[.int .i64 Bb, .int .i64 (N Bb)] 36)).heap.size (v.val.alloc (.cells #[.int .i64 Bb, .int .i64 (N Bb)] 36)) (some ⟨be, off, none⟩) vl) := Lib.hid (HE1.out.to (v.alloc _))
      have a0' : ∀ w : Later (v.val.alloc (.cells #[.int .i64 Bb, .int .i64 (N Bb)] 36)).heap.size (v.val.alloc (.cells #[.int .i64 Bb, .int .i64 (N Bb)] 36)), w.val.cell? ⟨ga, 0, none⟩ = some (.int .i64 A) := fun w => a0 ((v.alloc _).up w)
      have a1' : ∀ w : Later (v.val.alloc (.cells #[.int .i64 Bb, .int .i64 (N Bb)] 36)).heap.size (v.val.alloc (.cells #[.int .i64 Bb, .int .i64 (N Bb)] 36)), w.val.cell? ⟨ga, 1, none⟩ = some (.int .i64 (N A)) := fun w => a1 ((v.alloc _).up w)
      obtain ⟨y, hy⟩ : ∃ y : Later (v.val.alloc (.cells #[.int .i64 Bb, .int .i64 (N Bb)] 36)).heap.size (v.val.alloc (.cells #[.int .i64 Bb, .int .i64 (N Bb)] 36)), y.val = (v.val.alloc (.cells #[.int .i64 Bb, .int .i64 (N Bb)] 36)) := ⟨Later.self _, rfl⟩
      clear T1
      go_upto_region 10 with fail
      rw [← hy]
      clear hy x0 x1
      have KO2 := Lib.hid (fun (w : Later (v.val.alloc (.cells #[.int .i64 Bb, .int .i64 (N Bb)] 36)).heap.size (v.val.alloc (.cells #[.int .i64 Bb, .int .i64 (N Bb)] 36))) (b : Nat) (hb : b < 256) => KO.out _ _ w b HE2.out hb)
      generalize v.val.heap.size = gb at *
      generalize (v.val.alloc (.cells #[.int .i64 Bb, .int .i64 (N Bb)] 36)) = W2 at *
      clear v HE2
      have o1 := i64_andNot A Bb (by omega) (by omega)
      have o2 := i64_andNot Bb A (by omega) (by omega)
      have hAB : nand A Bb < 256 := nand_lt _ _ 8 hA8
      have hBA : nand Bb A < 256 := nand_lt _ _ 8 hB8
      have a0y := a0' y
      have b0y := b0 y
      go_wp2
      clear a0y b0y
      go_loopw [11] (fun o wr => ∃ (t : Nat) (v : Later W2.heap.size W2), t < 256 ∧ o = .int .i64 t ∧ wr = v.val ∧ Hid (sub t (nand A Bb)) ∧ Hid (exVO L N A Bb t)) (fun o _ => (intOf o).toNat)
      case atStart => exact ⟨nand A Bb, y, hAB, rfl, rfl, Lib.hid (fun _ h => h), Lib.hid (fun x h1 h2 h3 => by rw [nand_testBit, h1, h2] at h3; cases h3)⟩
      case round =>
        clear y
        obtain ⟨t, v, ht, rfl, rfl, HS, HO⟩ := hrel
        by_cases h0 : t = 0
        · subst h0
          have d0 : ((((0 : Nat) : Int)) != 0) = false := rfl
          have HN := Lib.hid (HFn2.out (fun x h1 h2 => HO.out x h1 h2 (by simp)))
          obtain ⟨w', hw'⟩ := HV2.out v
          clear HS HO
          go_wp2
          go_roundw
          case rel => exact ⟨j+1, w', by omega, by go_num, hw'.symm, HN⟩
          case measure => simp [intOf]; omega
        · obtain ⟨e, he, hlow, hte, hdb, _, hdl⟩ := low_facts t ht h0
          have d0 : ((t : Int) != 0) = true := by rw [bne_iff_ne]; omega
          have l1 := i64_low t ht
          rw [hlow] at l1
          have l2 := i64_drop1 t ht (by omega)
          have HD := Lib.hid (drop1_lt t ht)
          have HDl := Lib.hid hdl
          have hbe := bit_lt e he
          have hAe := HS.out e hte
          rw [nand_testBit] at hAe
          have HAe : Hid (A.testBit e = true ∧ Bb.testBit e = false) := Lib.hid (by simpa using hAe)
          have HSn : Hid (sub (drop1 t) (nand A Bb)) := Lib.hid (fun i hi => by
            have h8 := lt_of_testBit HD.out hi
            have := hdb i h8
            rw [this] at hi
            simp at hi
            exact HS.out i hi.1)
          have HOn : Hid (exV L N A Bb e → exVO L N A Bb (drop1 t)) := Lib.hid (fun hx x h1 h2 h3 => by
            by_cases c : x = e
            · subst c; exact hx
            · refine HO.out x h1 h2 ?_
              have h8 := lt_of_testBit hA8 h1
              have := hdb x h8
              rw [this] at h3
              simpa [c] using h3)
          have a0v := a0' v
          have b0v := b0 v
          clear h0 hlow hte hdb hdl hAe HS HO
          go_wp2
          clear a0v b0v
          go_loopw [13, 14] (fun o i wr => ∃ (ok : Bool) (q : Nat) (y : Later W2.heap.size W2), q < 256 ∧ i = .int .i64 q ∧ o = .bool ok ∧ wr = y.val ∧ Hid (sub q (nand Bb A)) ∧ Hid (exVI L N A Bb e q ok)) (fun _ i _ => (intOf i).toNat)
          case atStart => exact ⟨false, nand Bb A, v, hBA, rfl, rfl, rfl, Lib.hid (fun _ h => h), Lib.hid (exVI.start L N A Bb e)⟩
          case round =>
            clear v
            obtain ⟨ok, q, y, hq, rfl, rfl, rfl, HSq, HX⟩ := hrel
            by_cases hgo : q ≠ 0 ∧ ok = false
            · obtain ⟨hq0, rfl⟩ := hgo
              obtain ⟨f, hf, hlow, hqf, hdb, _, hdl⟩ := low_facts q hq hq0
              have e0 : ((q : Int) != 0) = true := by rw [bne_iff_ne]; omega
              have m1 := i64_low q hq
              rw [hlow] at m1
              have m2 := i64_drop1 q hq (by omega)
              have HDq := Lib.hid (drop1_lt q hq)
              have HDlq := Lib.hid hdl
              have hbf := bit_lt f hf
              have o3 := i64_andNot A (bit e) (by omega) (by omega)
              have hne : nand A (bit e) < 256 := nand_lt _ _ 8 hA8
              have o4 := i64_or (nand A (bit e)) (bit f) (by omega) (by omega)
              have o5 := i64_andNot Bb (bit f) (by omega) (by omega)
              have hne2 : nand Bb (bit f) < 256 := nand_lt _ _ 8 hB8
              have o6 := i64_or (nand Bb (bit f)) (bit e) (by omega) (by omega)
              have hBf := HSq.out f hqf
              rw [nand_testBit] at hBf
              have HBf : Hid (Bb.testBit f = true ∧ A.testBit f = false) := Lib.hid (by simpa using hBf)
              have HSn2 : Hid (sub (drop1 q) (nand Bb A)) := Lib.hid (fun i hi => by
                have h8 := lt_of_testBit HDq.out hi
                have := hdb i h8
                rw [this] at hi
                simp at hi
                exact HSq.out i hi.1)
              have HXn : Hid (∀ b : Bool, (b = true ↔ vGood L N A Bb e f) → exVI L N A Bb e (drop1 q) b) := Lib.hid (fun b hb => HX.out.step hB8 HBf.out.1 HBf.out.2 hdb hb)
              have KP := Lib.hid (KO2.out y _ (show nand A (bit e) ||| bit f < 256 from or_lt _ _ hne (by omega)))
              have KQ := Lib.hid (fun w => KO2.out w _ (show nand Bb (bit f) ||| bit e < 256 from or_lt _ _ hne2 (by omega)))
              have hP := HBd.out (nand A (bit e) ||| bit f)
              have hQ := HBd.out (nand Bb (bit f) ||| bit e)
              unfold vGood at HXn
              clear hq0 hlow hqf hdb hdl hBf HX HSq HBf HNo2 HFn2
              generalize nand A (bit e) ||| bit f = P at *
              generalize nand Bb (bit f) ||| bit e = Q at *
              have w1 := IntWalk.i64_in (N A + N Bb) (by omega)
              have w2 := IntWalk.i64_in (N P + N Q) (by omega)
              by_cases hp : P ∈ L
              case neg =>
                have HN := Lib.hid (HXn.out false ⟨fun c => (by cases c), fun c => absurd c.1 hp⟩)
                rw [decide_eq_false hp] at KP
                clear hp HXn
                go_wp2_with (first | (go_at_call 24; (with_reducible refine (KP.out).mono ?_); rintro e _ ⟨rfl, y2, rfl⟩) | (go_at_call 24; (with_reducible refine (KQ.out _).mono ?_); rintro e _ ⟨rfl, y3, rfl⟩))
                go_roundw
                case rel => exact ⟨false, drop1 q, y3, HDq.out, rfl, rfl, rfl, HSn2, HN⟩
                case measure => have := HDlq.out; simp [intOf]; omega
              rw [decide_eq_true hp] at KP
              by_cases hq : Q ∈ L
              case neg =>
                have HN := Lib.hid (HXn.out false ⟨fun c => (by cases c), fun c => absurd c.2.1 hq⟩)
                rw [decide_eq_false hq] at KQ
                clear hp hq HXn
                go_wp2_with (first | (go_at_call 24; (with_reducible refine (KP.out).mono ?_); rintro e _ ⟨rfl, y2, rfl⟩) | (go_at_call 24; (with_reducible refine (KQ.out _).mono ?_); rintro e _ ⟨rfl, y3, rfl⟩))
                go_roundw
                case rel => exact ⟨false, drop1 q, y3, HDq.out, rfl, rfl, rfl, HSn2, HN⟩
                case measure => have := HDlq.out; simp [intOf]; omega
              rw [decide_eq_true hq] at KQ
              have HN := Lib.hid (HXn.out (decide (N A + N Bb ≤ N P + N Q)) (by rw [decide_eq_true_eq]; exact ⟨fun c => ⟨hp, hq, c⟩, fun c => c.2.2⟩))
              clear hp hq HXn
              go_upto_region 20 with (first | (go_at_call 24; (with_reducible refine (KP.out).mono ?_); rintro e _ ⟨rfl, y2, rfl⟩) | (go_at_call 24; (with_reducible refine (KQ.out _).mono ?_); rintro e _ ⟨rfl, y3, rfl⟩))
              have a1v := a1' y3
              have b1v := b1 y3
              go_wp2
              go_roundw
              case rel => exact ⟨decide (N A + N Bb ≤ N P + N Q), drop1 q, y3, HDq.out, rfl, rfl, rfl, HSn2, HN⟩
              case measure => have := HDlq.out; simp [intOf]; omega
            · have HEnd : Hid (ok = true ↔ exV L N A Bb e) := Lib.hid (exVI.end HX.out (by
                by_cases hq0 : q = 0
                · exact .inl hq0
                · right
                  cases ok with
                  | true => rfl
                  | false => exact absurd ⟨hq0, rfl⟩ hgo))
              clear HX HSq
              cases ok with
              | false =>
                have hq0 : q = 0 := Classical.byContradiction (fun h => hgo ⟨h, rfl⟩)
                subst hq0
                have e0 : ((((0 : Nat) : Int)) != 0) = false := rfl
                have HF : Hid (r = 6) := Lib.hid (HNo2.out (fun c => by
                  have := HEnd.out.2 (c e HAe.out.1 HAe.out.2)
                  cases this))
                obtain ⟨w1, hw1⟩ := HV2.out y
                have HW : Hid (∃ w : Later B W, w.val = y.val) := Lib.hid (by rw [← hw1]; exact HV1.out w1)
                clear hgo hw1 w1
                go_wp2
                go_ret
                exact Ret.of HW.out (vint HF.out.symm)
              | true =>
                have HN := Lib.hid (HOn.out (HEnd.out.1 rfl))
                rcases ieq (q : Int) 0 with ⟨g1, e0, e1⟩ | ⟨g1, e0, e1⟩
                all_goals
                  clear g1 hgo
                  go_wp2
                  go_roundw
                  case rel => exact ⟨drop1 t, y, HD.out, rfl, rfl, HSn, HN⟩
                  case measure => have := HDl.out; simp [intOf]; omega

/-- values.Check, whatever it is handed -/
theorem c_valCheck {B : Nat} {W : World} (u : Later B W) (n : Int) (vl : List (Int × Int)) (a : Option Addr) (cap : Nat) (h : EdgesAt B W a vl) (hlen : vl.length ≤ 17592186044416) (e : Int) (he : VlIs n vl e) :
    Calls Try.prog 9 #[.int .i64 n, .slice a vl.length cap] u.val (Ret B W (.int .i64 e)) := by
  obtain ⟨me, hm, h1, h2, h3⟩ := he
  by_cases h0 : undE vl me = 0
  · exact c_valCheck_ok u n vl a cap h hlen me hm h0 (undE_ok hm h0).2 e (h2 h0) (h3 h0)
  · have := c_valCheck_no u n vl a cap h hlen me hm h0
    rwa [← h1 h0] at this

end Go.Proofs.Ytmhjhdgaecdloaa
