
/-
  links.laid: the net of a graph; links.ways: how many ways keep apart.
  rotaref.Paths, links.reached: what is reached in a directed graph; rotaref.Barrier; links.right.
-/
import Derived.Test.YtnhpefcjgaimeaaPk22
import Derived.Test.YtnhpefcjgaimeaaPk12
import Derived.Test.YtnhpefcjgaimeaaPk23
import Derived.Test.YtnhpefcjgaimeaaPk24
import Derived.Test.YtnhpefcjgaimeaaPk14
namespace Go.Proofs.Ytnhpefcjgaimeaa
open Go.RowKit
set_option linter.unusedVariables false

theorem mk_rows (n : Nat) (h : n ≤ 1048576) : ∀ w : World, (Instr.makeSlice 55 (.int .i64 (n : Int)) (.int .i64 (n : Int))).run Try.prog w = .ok (.slice (some ⟨w.heap.size, 0, none⟩) n n) (w.alloc (.cells (madeCells #[.slice none 0 0] n) 43)) :=
  fun w => run_make_row' (P := Try.prog) 55 43 (.slice none 0 0) 24 Try.underlying55 info_row rfl .i64 .i64 n (by omega) (by omega) w

set_option maxRecDepth 100000 in
set_option maxHeartbeats 8000000 in
theorem c_laid {B : Nat} {W : World} (u : Later B W) (n fr tw : Nat) (es : List (Int × Int)) (a : Option Addr) (cap : Nat) (h : EdgesAt B W a es) (hG : isGraph (n : Int) es) (hfr : fr < bit n) (htw : tw < bit n) :
    Calls Try.prog 34 #[.agg #[.int .i64 n, .slice a es.length cap], .int .i64 fr, .int .i64 tw] u.val (RetP B W (fun v w => ∃ (g : Nat) (r : Nat → Nat), v = .slice (some ⟨g, 0, none⟩) (2 + 2 * n) (2 + 2 * n) ∧ Grid B w g (2 + 2 * n) (2 + 2 * n) r (net n es fr tw))) := by
  have hn7 : n ≤ 7 := by have := hG.2.1; omega
  have he8 : es.length ≤ 8 := hG.2.2.1
  have hfr8 : fr < 256 := by have := bit_le n (by omega); omega
  have htw8 : tw < 256 := by have := bit_le n (by omega); omega
  have T0 : Hid (Two (u.val.alloc (.cells #[.int .i64 n, .slice a es.length cap] 24)) u.val.heap.size 24 (.int .i64 n) (.slice a es.length cap)) := Lib.hid (Two.new _ _ _ _)
  have hrr : u.val.heap.size < (u.val.alloc (.cells #[.int .i64 n, .slice a es.length cap] 24)).heap.size := by simp
  have HV : Hid (∀ v : Later (u.val.alloc (.cells #[.int .i64 n, .slice a es.length cap] 24)).heap.size (u.val.alloc (.cells #[.int .i64 n, .slice a es.length cap] 24)), ∃ w : Later B W, w.val = v.val) := Lib.hid (fun v => ⟨(u.alloc _).up v, rfl⟩)
  have HE : Hid (EdgesAt (u.val.alloc (.cells #[.int .i64 n, .slice a es.length cap] 24)).heap.size (u.val.alloc (.cells #[.int .i64 n, .slice a es.length cap] 24)) a es) := Lib.hid (h.to (u.alloc _))
  have HB0 : Hid (B ≤ (u.val.alloc (.cells #[.int .i64 n, .slice a es.length cap] 24)).heap.size) := Lib.hid (by have := u.size; simp; omega)
  have HI := Lib.hid hG
  have hmk := mk_rows (2 + 2 * n) (by omega)
  have ec : (((2 + 2 * n : Nat)) : Int) = 2 + 2 * (n : Int) := by omega
  clear h hG
  go_enter Try.func34, Try.ntmps34
  go_upto_region 1 with fail
  generalize hr2 : u.val.heap.size = g0 at *
  generalize u.val.alloc (.cells #[.int .i64 n, .slice a es.length cap] 24) = W1 at *
  clear hr2 u
  obtain ⟨v0, hv0⟩ : ∃ v0 : Later W1.heap.size W1, v0.val = W1 := ⟨Later.self _, rfl⟩
  have q0 : ∀ v : Later W1.heap.size W1, v.val.cell? ⟨g0, 0, none⟩ = some (.int .i64 n) := fun v => (T0.out.keep_at v.below hrr).c0
  have q1 : ∀ v : Later W1.heap.size W1, v.val.cell? ⟨g0, 1, none⟩ = some (.slice a es.length cap) := fun v => (T0.out.keep_at v.below hrr).c1
  have q0v := q0 v0
  rw [hv0] at q0v
  rw [ec] at hmk
  go_upto_region 2 with fail
  clear hmk ec q0v
  have hgt : ((W1.alloc (.cells (madeCells #[Value.slice none 0 0] (2 + 2 * n)) 43))).heap.size = W1.heap.size + 1 := by simp
  have HT0 : Hid (GridTo W1.heap.size (W1.alloc (.cells (madeCells #[Value.slice none 0 0] (2 + 2 * n)) 43)) W1.heap.size (2 + 2 * n) (2 + 2 * n) 0 (fun _ => 0) (fun _ _ => 0)) := Lib.hid (GridTo.start (World.rowIs_made W1 (.slice none 0 0) (2 + 2 * n) 43) (Nat.le_refl _))
  obtain ⟨z0, hz0⟩ : ∃ z : Later W1.heap.size W1, z.val = (W1.alloc (.cells (madeCells #[Value.slice none 0 0] (2 + 2 * n)) 43)) := ⟨(Later.self W1).alloc _, rfl⟩
  rw [← hz0] at HT0 ⊢
  clear hz0 hgt hv0 v0
  have hgg : g0 < W1.heap.size := hrr
  obtain ⟨N, hN⟩ : ∃ N, N = 2 + 2 * n := ⟨_, rfl⟩
  rw [← hN] at HT0 ⊢
  have hmk1 := mk_tab N (by omega)
  have hNr : Hid (N = 2 + 2 * n) := Lib.hid hN
  have hN16 : N ≤ 16 := by omega
  clear hN
  generalize W1.heap.size = g at *
  go_wp2
  go_loopw [19] (fun i wr => ∃ (k : Nat) (r : Nat → Nat) (v : Later g W1), k ≤ N ∧ i = .int .i64 k ∧ wr = v.val ∧ Hid (GridTo g v.val g N N k r (fun _ _ => 0))) (fun i _ => N - (intOf i).toNat)
  case atStart => exact ⟨0, _, z0, by omega, rfl, rfl, HT0⟩
  case round =>
    clear z0 HT0
    obtain ⟨k, r, v, hk, rfl, rfl, HT⟩ := hrel
    by_cases hlt : k < N
    · have old := HT.out.old hlt
      have fz := HT.out.fz k
      have hgl := HT.out.lt
      have HT2 : Hid (GridTo g ((v.val.alloc (.cells (madeCells #[Value.int .i64 0] N) 3)).setCell ⟨g, k, none⟩ (.slice (some ⟨v.val.heap.size, 0, none⟩) N N)) g N N (k + 1) (fun i => if i = k then v.val.heap.size else r i) (fun _ _ => 0)) := Lib.hid (((HT.out.keep ((Below.refl _ _).alloc (Nat.le_refl _) _)).put (by omega) (by omega) (fun i hi => by have := (HT.out.row i hi).lt; omega) (ITab.made v.val N)).congr (fun i j _ _ => by by_cases c : i = k <;> simp [c]))
      rw [World.setCell_alloc_past _ _ _ _ hgl] at HT2
      go_wp2
      go_roundw
      case rel => exact ⟨k+1, _, (v.set ⟨g, k, none⟩ (by show g ≤ g; omega) _).alloc (.cells (madeCells #[Value.int .i64 0] N) 3), by omega, by go_num, rfl, HT2⟩
      case measure => simp [intOf]; omega
    · have hke : k = N := by omega
      subst hke
      have HG0 : Hid (Grid g v.val g k k r (netV fr tw 0)) := Lib.hid HT.out.full
      have q0v := q0 v
      clear HT hmk1
      go_wp2
      clear q0v
      go_loopw [31] (fun i wr => ∃ (q : Nat) (v : Later g W1), q ≤ n ∧ i = .int .i64 q ∧ wr = v.val ∧ Hid (Grid g v.val g k k r (netV fr tw q))) (fun i _ => n - (intOf i).toNat)
      case atStart => exact ⟨0, v, by omega, rfl, rfl, HG0⟩
      case round =>
        clear v HG0
        obtain ⟨q, v, hq, rfl, rfl, HG⟩ := hrel
        by_cases hltq : q < n
        · obtain ⟨x2, hx2⟩ : ∃ x2 : Nat, x2 = 2 + 2 * q := ⟨_, rfl⟩
          obtain ⟨x3, hx3⟩ : ∃ x3 : Nat, x3 = 3 + 2 * q := ⟨_, rfl⟩
          have h2N : x2 < k := by have := hNr.out; omega
          have h3N : x3 < k := by have := hNr.out; omega
          have h1N : 1 < k := by omega
          have h0N : 0 < k := by omega
          have a2 : 2 + 2 * (q : Int) = (x2 : Int) := by omega
          have a3 : 3 + 2 * (q : Int) = (x3 : Int) := by omega
          have w0 := IntWalk.i64_in (2 * (q : Int)) (by omega)
          have w2 := IntWalk.i64_in (x2 : Int) (by omega)
          have w3 := IntWalk.i64_in (x3 : Int) (by omega)
          have s1 := shr_andC fr q hfr8
          have s2 := shr_andC tw q htw8
          have bq := bit_cast q
          have bq1 := bit_lt q (by omega)
          rw [bq] at s1 s2
          have G1 := HG.out.set h2N x3 1
          have G1H := Lib.hid G1
          have ct := HG.out.tcell h2N
          obtain ⟨ov, hov⟩ : ∃ o : Int, v.val.cell? ⟨r x2, x3, none⟩ = some (.int .i64 o) := ⟨_, HG.out.cell h2N h3N⟩
          have fz := HG.out.fz h2N x3
          have hb2 := HG.out.br x2 h2N
          have hb3 := HG.out.br x3 h3N
          have hb0 := HG.out.br 0 (by omega)
          obtain ⟨v1, hv1⟩ : ∃ v1 : Later g W1, v1.val = v.val.setCell ⟨r x2, x3, none⟩ (.int .i64 1) := ⟨v.set ⟨r x2, x3, none⟩ hb2 _, rfl⟩
          have HX2 := Lib.hid hx2
          have HX3 := Lib.hid hx3
          clear hx2 hx3 G1
          go_upto_region 11 with fail
          rw [← hv1] at G1H ⊢
          clear ct ov hov fz hv1 HG v
          have e0 : ∀ w : Later v1.val.heap.size v1.val, w.val.cell? ⟨g, 0, none⟩ = some (.slice (some ⟨r 0, 0, none⟩) k k) := fun w => (G1H.out.keep w.below).tcell (by omega)
          obtain ⟨o1, HO1⟩ : ∃ o : Int, Hid (∀ w : Later v1.val.heap.size v1.val, w.val.cell? ⟨r 0, x2, none⟩ = some (.int .i64 o)) := ⟨_, Lib.hid fun w => (G1H.out.keep w.below).cell (by omega) h2N⟩
          have e1 := HO1.out
          have e2 : ∀ w : Later v1.val.heap.size v1.val, w.val.frozen? ⟨r 0, x2, none⟩ = false := fun w => (G1H.out.keep w.below).fz (by omega) x2
          have G2 : Hid (∀ w : Later v1.val.heap.size v1.val, Grid g (w.val.setCell ⟨r 0, x2, none⟩ (.int .i64 (((fr.testBit q).toNat : Nat) : Int))) g k k r (setM (setM (netV fr tw q) x2 x3 1) 0 x2 (((fr.testBit q).toNat : Nat) : Int))) := Lib.hid (fun w => (G1H.out.keep w.below).set (by omega) x2 _)
          have hbf : (fr.testBit q).toNat ≤ 1 := by cases fr.testBit q <;> decide
          have hbt : (tw.testBit q).toNat ≤ 1 := by cases tw.testBit q <;> decide
          have HBF : Hid ((((fr.testBit q).toNat : Nat) : Int) = bti (fr.testBit q)) := Lib.hid (by cases fr.testBit q <;> rfl)
          have HBT : Hid ((((tw.testBit q).toNat : Nat) : Int) = bti (tw.testBit q)) := Lib.hid (by cases tw.testBit q <;> rfl)
          generalize (fr.testBit q).toNat = bf at *
          generalize (tw.testBit q).toNat = bt at *
          refine wp_region_later_tail (Later.self v1.val) 10 (by kernel_rfl) (by kernel_rfl) (fun v2 => ?_)
          simp only [List.take_succ_cons, List.take_zero, List.drop_succ_cons, List.drop_zero]
          repeat still_step
          refine wpStill_nil ?_
          go_upto_region 12 with fail
          obtain ⟨v3, hv3⟩ : ∃ v3 : Later g W1, v3.val = v2.val.setCell ⟨r 0, x2, none⟩ (.int .i64 (bf : Int)) := ⟨(v1.up v2).set ⟨r 0, x2, none⟩ hb0 _, rfl⟩
          have G3 := Lib.hid (G2.out v2)
          rw [← hv3] at G3 ⊢
          clear hv3 e0 e1 e2 HO1 o1 G1H G2 v2 v1
          have e0 : ∀ w : Later v3.val.heap.size v3.val, w.val.cell? ⟨g, x3, none⟩ = some (.slice (some ⟨r x3, 0, none⟩) k k) := fun w => (G3.out.keep w.below).tcell h3N
          obtain ⟨o1, HO1⟩ : ∃ o : Int, Hid (∀ w : Later v3.val.heap.size v3.val, w.val.cell? ⟨r x3, 1, none⟩ = some (.int .i64 o)) := ⟨_, Lib.hid fun w => (G3.out.keep w.below).cell h3N h1N⟩
          have e1 := HO1.out
          have e2 : ∀ w : Later v3.val.heap.size v3.val, w.val.frozen? ⟨r x3, 1, none⟩ = false := fun w => (G3.out.keep w.below).fz h3N 1
          have G4 : Hid (∀ w : Later v3.val.heap.size v3.val, Grid g (w.val.setCell ⟨r x3, 1, none⟩ (.int .i64 (bt : Int))) g k k r (netV fr tw (q + 1))) := Lib.hid (fun w => by
            have := (G3.out.keep w.below).set h3N 1 (bt : Int)
            rw [HBF.out, HBT.out, HX2.out, HX3.out] at this
            rw [HBT.out, HX3.out]
            exact this)
          refine wp_region_later_tail (Later.self v3.val) 10 (by kernel_rfl) (by kernel_rfl) (fun v4 => ?_)
          simp only [List.take_succ_cons, List.take_zero, List.drop_succ_cons, List.drop_zero]
          repeat still_step
          refine wpStill_nil ?_
          go_wp2
          go_roundw
          case rel => exact ⟨q+1, (v3.up v4).set ⟨r x3, 1, none⟩ hb3 _, by omega, by go_num, rfl, Lib.hid (G4.out v4)⟩
          case measure => simp [intOf]; omega
        · have hqe : q = n := by omega
          subst hqe
          have q1v := q1 v
          have HG0 : Hid (Grid g v.val g k k r (netE es (netV fr tw q) 0)) := HG
          clear HG
          go_wp2
          clear q1v
          go_loopw [70] (fun i wr => ∃ (e : Nat) (v : Later g W1), e ≤ es.length ∧ i = .int .i64 e ∧ wr = v.val ∧ Hid (Grid g v.val g k k r (netE es (netV fr tw q) e))) (fun i _ => es.length - (intOf i).toNat)
          case atStart => exact ⟨0, v, by omega, rfl, rfl, HG0⟩
          case round =>
            clear v HG0
            obtain ⟨e, v, he, rfl, rfl, HG⟩ := hrel
            by_cases hlte : e < es.length
            · obtain ⟨be, offe, rfl, hbe, hce⟩ := HE.out.at hlte
              have e0 := (hce v e hlte).1
              have e1 := (hce v e hlte).2
              have HX := HI.out.2.2.2 e hlte
              have HSt : Hid (netE es (netV fr tw q) (e + 1) = setM (netE es (netV fr tw q) e) (3 + 2 * (es.getD e (0,0)).1.toNat) (2 + 2 * (es.getD e (0,0)).2.toNat) 1) := Lib.hid rfl
              obtain ⟨y, hy⟩ := Int.eq_ofNat_of_zero_le HX.1
              obtain ⟨z, hz⟩ := Int.eq_ofNat_of_zero_le HX.2.1
              rw [hy, hz] at HX HSt
              rw [hy] at e0
              rw [hz] at e1
              have hyq : y < q := by omega
              have hzq : z < q := by omega
              obtain ⟨x2, hx2⟩ : ∃ x2 : Nat, x2 = 2 + 2 * z := ⟨_, rfl⟩
              obtain ⟨x3, hx3⟩ : ∃ x3 : Nat, x3 = 3 + 2 * y := ⟨_, rfl⟩
              have h2N : x2 < k := by have := hNr.out; omega
              have h3N : x3 < k := by have := hNr.out; omega
              have HSt2 : Hid (netE es (netV fr tw q) (e + 1) = setM (netE es (netV fr tw q) e) x3 x2 1) := Lib.hid (by rw [HSt.out, hx2, hx3]; rfl)
              clear HX hy hz hce HSt
              have a2 : 2 + 2 * (z : Int) = (x2 : Int) := by omega
              have a3 : 3 + 2 * (y : Int) = (x3 : Int) := by omega
              have w0 := IntWalk.i64_in (2 * (y : Int)) (by omega)
              have w1 := IntWalk.i64_in (2 * (z : Int)) (by omega)
              have w2 := IntWalk.i64_in (x2 : Int) (by omega)
              have w3 := IntWalk.i64_in (x3 : Int) (by omega)
              have T1 : Hid (Two (v.val.alloc (.cells #[.int .i64 y, .int .i64 z] 42)) v.val.heap.size 42 (.int .i64 y) (.int .i64 z)) := Lib.hid (Two.new _ _ _ _)
              have HGa : Hid (Grid g (v.val.alloc (.cells #[.int .i64 y, .int .i64 z] 42)) g k k r (netE es (netV fr tw q) e)) := Lib.hid (HG.out.keep ((Below.refl _ _).alloc (Nat.le_refl _) _))
              obtain ⟨v1, hv1⟩ : ∃ v1 : Later g W1, v1.val = v.val.alloc (.cells #[.int .i64 y, .int .i64 z] 42) := ⟨v.alloc _, rfl⟩
              have hb3 := HG.out.br x3 h3N
              have hbl : v.val.heap.size < (v.val.alloc (.cells #[.int .i64 y, .int .i64 z] 42)).heap.size := by simp
              go_upto_region 17 with fail
              rw [← hv1] at T1 HGa hbl ⊢
              clear e0 e1 hv1 HG hx2 hx3
              generalize v.val.heap.size = ge at *
              clear v
              have c0 : ∀ w : Later v1.val.heap.size v1.val, w.val.cell? ⟨ge, 0, none⟩ = some (.int .i64 y) := fun w => (T1.out.keep_at w.below hbl).c0
              have c1 : ∀ w : Later v1.val.heap.size v1.val, w.val.cell? ⟨ge, 1, none⟩ = some (.int .i64 z) := fun w => (T1.out.keep_at w.below hbl).c1
              have e0 : ∀ w : Later v1.val.heap.size v1.val, w.val.cell? ⟨g, x3, none⟩ = some (.slice (some ⟨r x3, 0, none⟩) k k) := fun w => (HGa.out.keep w.below).tcell h3N
              obtain ⟨o1, HO1⟩ : ∃ o : Int, Hid (∀ w : Later v1.val.heap.size v1.val, w.val.cell? ⟨r x3, x2, none⟩ = some (.int .i64 o)) := ⟨_, Lib.hid fun w => (HGa.out.keep w.below).cell h3N h2N⟩
              have e1 := HO1.out
              have e2 : ∀ w : Later v1.val.heap.size v1.val, w.val.frozen? ⟨r x3, x2, none⟩ = false := fun w => (HGa.out.keep w.below).fz h3N x2
              have G4 : Hid (∀ w : Later v1.val.heap.size v1.val, Grid g (w.val.setCell ⟨r x3, x2, none⟩ (.int .i64 1)) g k k r (netE es (netV fr tw q) (e + 1))) := Lib.hid (fun w => by
                rw [HSt2.out]
                exact (HGa.out.keep w.below).set h3N x2 1)
              clear T1 HGa HSt2
              refine wp_region_later_tail (Later.self v1.val) 11 (by kernel_rfl) (by kernel_rfl) (fun v4 => ?_)
              simp only [List.take_succ_cons, List.take_zero, List.drop_succ_cons, List.drop_zero]
              repeat still_step
              refine wpStill_nil ?_
              go_wp2
              go_roundw
              case rel => exact ⟨e+1, (v1.up v4).set ⟨r x3, x2, none⟩ hb3 _, by omega, by go_num, rfl, Lib.hid (G4.out v4)⟩
              case measure => simp [intOf]; omega
            · have hee : e = es.length := by omega
              subst hee
              go_wp2
              go_ret
              obtain ⟨w, hw⟩ := HV.out v
              have HN := hNr.out
              subst HN
              have hG := HG.out.mono HB0.out
              rw [← hw] at hG ⊢
              exact RetP.mk w ⟨g, r, rfl, hG⟩

set_option maxRecDepth 100000 in
set_option maxHeartbeats 8000000 in
theorem c_ways {B : Nat} {W : World} (u : Later B W) (n fr tw : Nat) (es : List (Int × Int)) (a : Option Addr) (cap : Nat) (h : EdgesAt B W a es) (hG : isGraph (n : Int) es) (hfr : fr < bit n) (htw : tw < bit n) (m : Nat) (hm : ∀ k : Int, MinCut (2 + 2 * n) (net n es fr tw) k → k = m) :
    Calls Try.prog 24 #[.agg #[.int .i64 n, .slice a es.length cap], .int .i64 fr, .int .i64 tw] u.val (Ret B W (.int .i64 m)) := by
  have hn7 : n ≤ 7 := by have := hG.2.1; omega
  have T0 : Hid (Two (u.val.alloc (.cells #[.int .i64 n, .slice a es.length cap] 24)) u.val.heap.size 24 (.int .i64 n) (.slice a es.length cap)) := Lib.hid (Two.new _ _ _ _)
  have hrr : u.val.heap.size < (u.val.alloc (.cells #[.int .i64 n, .slice a es.length cap] 24)).heap.size := by simp
  have HV : Hid (∀ v : Later (u.val.alloc (.cells #[.int .i64 n, .slice a es.length cap] 24)).heap.size (u.val.alloc (.cells #[.int .i64 n, .slice a es.length cap] 24)), ∃ w : Later B W, w.val = v.val) := Lib.hid (fun v => ⟨(u.alloc _).up v, rfl⟩)
  have HE : Hid (EdgesAt (u.val.alloc (.cells #[.int .i64 n, .slice a es.length cap] 24)).heap.size (u.val.alloc (.cells #[.int .i64 n, .slice a es.length cap] 24)) a es) := Lib.hid (h.to (u.alloc _))
  have HM := Lib.hid hm
  have HI := Lib.hid hG
  clear h hG hm
  go_enter Try.func24, Try.ntmps24
  go_upto_region 1 with fail
  generalize hr2 : u.val.heap.size = g0 at *
  generalize u.val.alloc (.cells #[.int .i64 n, .slice a es.length cap] 24) = W1 at *
  clear hr2 u
  have p0 : W1.cell? ⟨g0, 0, none⟩ = some (.int .i64 n) := T0.out.c0
  have p1 : W1.cell? ⟨g0, 1, none⟩ = some (.slice a es.length cap) := T0.out.c1
  have K0 := Lib.hid (show Calls Try.prog 34 #[.agg #[.int .i64 n, .slice a es.length cap], .int .i64 fr, .int .i64 tw] W1 _ from c_laid (Later.self W1) n fr tw es a cap HE.out HI.out hfr htw)
  go_wp2_with (first | (go_at_call 34; refine (K0.out).mono ?_; rintro e _ ⟨_, rfl, ⟨g, r, rfl, HG⟩, v0, rfl⟩))
  have HG0 := Lib.hid HG
  have HF0 : Hid (Flow (2 + 2 * n) (net n es fr tw) 0 (net n es fr tw)) := Lib.hid (Flow.start (net_ok _ n es fr tw))
  have HL : Hid (∀ t p, Flow (2 + 2 * n) (net n es fr tw) t p → t ≤ 1000) := Lib.hid (fun t p hF => by
    have := hF.le (net_ok _ n es fr tw)
    have h16 : 2 + 2 * n ≤ 16 := by omega
    have h2 : (2 + 2 * n) * ((2 + 2 * n) * 2) ≤ 16 * (16 * 2) := Nat.mul_le_mul h16 (Nat.mul_le_mul h16 (Nat.le_refl _))
    omega)
  clear HG K0 p0 p1
  obtain ⟨N, hN⟩ : ∃ N, N = 2 + 2 * n := ⟨_, rfl⟩
  rw [← hN] at HG0 HF0 HL HM ⊢
  have hN1 : 1 < N := by omega
  have hN2 : N ≤ 20 := by omega
  clear hN
  generalize net n es fr tw = P0 at *
  go_wp2
  go_loopw [8] (fun i wr => ∃ (t : Nat) (p : Nat → Nat → Int) (v : Later W1.heap.size W1), i = .int .i64 t ∧ wr = v.val ∧ Hid (Grid W1.heap.size v.val g N N r p) ∧ Hid (Flow N P0 t p)) (fun i _ => 1000 - (intOf i).toNat)
  case atStart => exact ⟨0, P0, v0, rfl, rfl, HG0, HF0⟩
  case round =>
    clear v0 HG0 HF0
    obtain ⟨t, p, v, rfl, rfl, HG, HF⟩ := hrel
    have ht := HL.out _ _ HF.out
    have K := Lib.hid (c_more v g N hN1 hN2 r p HG.out HF.out.ok)
    clear HG
    go_wp2_with (first | (go_at_call 35; refine (K.out).mono ?_; rintro e _ ⟨_, rfl, ⟨b, P', rfl, hG2, hM2⟩, v2, rfl⟩))
    case roundEnd =>
      rename_i hb
      subst hb
      have HF2 := HF.out.more hM2
      have ht2 := HL.out _ _ HF2
      exact ⟨⟨t+1, P', v2, by go_num, rfl, Lib.hid hG2, Lib.hid HF2⟩, by simp [intOf]; omega⟩
    rename_i hb
    subst hb
    have e := HM.out _ (HF.out.last hM2)
    have e2 : t = m := by omega
    subst e2
    go_ret
    obtain ⟨w, hw⟩ := HV.out v2
    rw [← hw]; exact Ret.mk w rfl

end Go.Proofs.Ytnhpefcjgaimeaa

namespace Go.Proofs.Ytnhpefcjgaimeaa
open Go.RowKit
set_option linter.unusedVariables false

set_option maxRecDepth 100000 in
set_option maxHeartbeats 8000000 in
theorem c_paths {B : Nat} {W : World} (u : Later B W) (n fr gone : Nat) (es : List (Int × Int)) (a : Option Addr) (cap : Nat) (h : EdgesAt B W a es) (hG : isGraph (n : Int) es) (hfr : fr < bit n) (hgo : gone < bit n) :
    Calls Try.prog 16 #[.agg #[.int .i64 n, .slice a es.length cap], .int .i64 fr, .int .i64 gone] u.val (Ret B W (.int .i64 (rchS es fr gone))) := by
  have hn7 : n ≤ 7 := by have := hG.2.1; omega
  have he8 : es.length ≤ 8 := hG.2.2.1
  have hbn := bit_le n (by omega)
  have T0 : Hid (Two (u.val.alloc (.cells #[.int .i64 n, .slice a es.length cap] 24)) u.val.heap.size 24 (.int .i64 n) (.slice a es.length cap)) := Lib.hid (Two.new _ _ _ _)
  have hrr : u.val.heap.size < (u.val.alloc (.cells #[.int .i64 n, .slice a es.length cap] 24)).heap.size := by simp
  have HV : Hid (∀ v : Later (u.val.alloc (.cells #[.int .i64 n, .slice a es.length cap] 24)).heap.size (u.val.alloc (.cells #[.int .i64 n, .slice a es.length cap] 24)), ∃ w : Later B W, w.val = v.val) := Lib.hid (fun v => ⟨(u.alloc _).up v, rfl⟩)
  have HE : Hid (EdgesAt (u.val.alloc (.cells #[.int .i64 n, .slice a es.length cap] 24)).heap.size (u.val.alloc (.cells #[.int .i64 n, .slice a es.length cap] 24)) a es) := Lib.hid (h.to (u.alloc _))
  have HG := Lib.hid (Grf.of hG)
  have HI := Lib.hid hG
  have o0 := i64_andNot fr gone (by omega) (by omega)
  clear h hG
  go_enter Try.func16, Try.ntmps16
  go_upto_region 1 with fail
  generalize hr2 : u.val.heap.size = g0 at *
  generalize u.val.alloc (.cells #[.int .i64 n, .slice a es.length cap] 24) = W1 at *
  clear hr2 u
  obtain ⟨v0, hv0⟩ : ∃ v0 : Later W1.heap.size W1, v0.val = W1 := ⟨Later.self _, rfl⟩
  have q0 : ∀ v : Later W1.heap.size W1, v.val.cell? ⟨g0, 0, none⟩ = some (.int .i64 n) := fun v => (T0.out.keep_at v.below hrr).c0
  have q1 : ∀ v : Later W1.heap.size W1, v.val.cell? ⟨g0, 1, none⟩ = some (.slice a es.length cap) := fun v => (T0.out.keep_at v.below hrr).c1
  rw [← hv0]
  clear hv0
  have HS0 : Hid (Rin n es fr gone (nand fr gone)) := Lib.hid (Rin.start hfr)
  generalize nand fr gone = s0 at *
  go_wp2
  go_loopw [7] (fun i wr => ∃ (s : Nat) (v : Later W1.heap.size W1), i = .int .i64 s ∧ wr = v.val ∧ Hid (Rin n es fr gone s)) (fun i _ => 256 - (intOf i).toNat)
  case atStart => exact ⟨s0, v0, rfl, rfl, HS0⟩
  case round =>
    clear v0 HS0 o0
    obtain ⟨s, v, rfl, rfl, HS⟩ := hrel
    have hsn := HS.out.lt
    go_wp2
    go_loopw [8, 9] (fun t i wr => ∃ (k : Nat) (v : Later W1.heap.size W1), k ≤ es.length ∧ i = .int .i64 k ∧ t = .int .i64 (passT es s gone k) ∧ wr = v.val) (fun _ i _ => es.length - (intOf i).toNat)
    case atStart => exact ⟨0, v, by omega, rfl, rfl, rfl⟩
    case round =>
      clear v
      obtain ⟨k, v, hk, rfl, rfl, rfl⟩ := hrel
      have q1v := q1 v
      have htn := (passT_rin HG.out HS.out k hk).lt
      by_cases hlt : k < es.length
      · obtain ⟨be, offe, rfl, hbe, hce⟩ := HE.out.at hlt
        have e0 := (hce v k hlt).1
        have e1 := (hce v k hlt).2
        have HX := HI.out.2.2.2 k hlt
        have HSt : Hid (passT es s gone (k + 1) = if s.testBit (vA es k) = true ∧ gone.testBit (vB es k) = false then passT es s gone k ||| bit (vB es k) else passT es s gone k) := Lib.hid rfl
        obtain ⟨y, hy⟩ := Int.eq_ofNat_of_zero_le HX.1
        obtain ⟨z, hz⟩ := Int.eq_ofNat_of_zero_le HX.2.1
        have hvy : vA es k = y := by unfold vA; rw [hy]; rfl
        have hvz : vB es k = z := by unfold vB; rw [hz]; rfl
        rw [hy, hz] at HX
        have hyn : y < n := by omega
        have hzn : z < n := by omega
        rw [hy] at e0
        rw [hz] at e1
        rw [hvy, hvz] at HSt
        clear HX hy hz hce hvy hvz
        have T1 : Hid (Two (v.val.alloc (.cells #[.int .i64 y, .int .i64 z] 42)) v.val.heap.size 42 (.int .i64 y) (.int .i64 z)) := Lib.hid (Two.new _ _ _ _)
        have hbl : v.val.heap.size < (v.val.alloc (.cells #[.int .i64 y, .int .i64 z] 42)).heap.size := by simp
        obtain ⟨v1, hv1⟩ : ∃ v1 : Later W1.heap.size W1, v1.val = v.val.alloc (.cells #[.int .i64 y, .int .i64 z] 42) := ⟨v.alloc _, rfl⟩
        have b2 := bit_cast z
        have b3 := bit_lt z (by omega)
        have o1 := i64_or (passT es s gone k) (bit z) (by omega) (by omega)
        generalize passT es s gone k = tk at *
        go_upto_region 7 with fail
        rw [← hv1] at T1 hbl ⊢
        clear e0 e1 hv1
        clear q1v
        generalize v.val.heap.size = ge at *
        clear v
        have c0 : ∀ w : Later v1.val.heap.size v1.val, w.val.cell? ⟨ge, 0, none⟩ = some (.int .i64 y) := fun w => (T1.out.keep_at w.below hbl).c0
        have c1 : ∀ w : Later v1.val.heap.size v1.val, w.val.cell? ⟨ge, 1, none⟩ = some (.int .i64 z) := fun w => (T1.out.keep_at w.below hbl).c1
        have c0v : v1.val.cell? ⟨ge, 0, none⟩ = some (.int .i64 y) := c0 (Later.self _)
        have K1 := Lib.hid (c_in (Later.self v1.val) s y (by omega) (by omega))
        have K2 := Lib.hid (fun w : Later v1.val.heap.size v1.val => c_in w gone z (by omega) (by omega))
        dsimp only [Later.self] at K1
        rcases btf (s.testBit y) with g1 | g1
        · rw [g1] at K1 HSt
          rcases btf (gone.testBit z) with g2 | g2
          · rw [g2] at K2 HSt
            have HN : Hid (passT es s gone (k + 1) = tk) := Lib.hid (by rw [HSt.out]; simp)
            clear HSt g1 g2
            go_wp2_with (first | (go_at_call 19; refine (K1.out).mono ?_; rintro e _ ⟨rfl, v2, rfl⟩) | (go_at_call 19; refine ((K2.out v2)).mono ?_; rintro e _ ⟨rfl, v3, rfl⟩))
            go_roundw
            case rel => exact ⟨k+1, v1.up v3, by omega, by go_num, by rw [HN.out], rfl⟩
            case measure => simp [intOf]; omega
          · rw [g2] at K2 HSt
            have HN : Hid (passT es s gone (k + 1) = tk ||| bit z) := Lib.hid (by rw [HSt.out]; simp)
            clear HSt g1 g2
            go_wp2_with (first | (go_at_call 19; refine (K1.out).mono ?_; rintro e _ ⟨rfl, v2, rfl⟩) | (go_at_call 19; refine ((K2.out v2)).mono ?_; rintro e _ ⟨rfl, v3, rfl⟩))
            go_roundw
            case rel => exact ⟨k+1, v1.up v3, by omega, by go_num, by rw [HN.out], rfl⟩
            case measure => simp [intOf]; omega
        · rw [g1] at K1 HSt
          have HN : Hid (passT es s gone (k + 1) = tk) := Lib.hid (by rw [HSt.out]; simp)
          clear HSt g1
          go_wp2_with (first | (go_at_call 19; refine (K1.out).mono ?_; rintro e _ ⟨rfl, v2, rfl⟩))
          go_roundw
          case rel => exact ⟨k+1, v1.up v2, by omega, by go_num, by rw [HN.out], rfl⟩
          case measure => simp [intOf]; omega
      · have hke : k = es.length := by omega
        subst hke
        by_cases he : passT es s gone es.length = s
        · have HL := Lib.hid (HS.out.last HG.out hfr (passT_closed he))
          rw [he] at htn ⊢
          clear he
          go_wp2
          go_ret
          obtain ⟨w, hw⟩ := HV.out v
          rw [← hw, ← HL.out]; exact Ret.mk w rfl
        · have hlt2 := passT_lt he
          have HR := Lib.hid (passT_rin HG.out HS.out es.length (Nat.le_refl _))
          generalize passT es s gone es.length = t at *
          have d1 : ((t : Int) == (s : Int)) = false := by rw [beq_eq_false_iff_ne]; omega
          have d2 : (t == s) = false := by rw [beq_eq_false_iff_ne]; omega
          clear he
          go_wp2
          go_roundw
          case rel => exact ⟨t, v, rfl, rfl, HR⟩
          case measure => simp [intOf]; omega

set_option maxRecDepth 100000 in
set_option maxHeartbeats 8000000 in
theorem c_reached {B : Nat} {W : World} (u : Later B W) (n fr gone : Nat) (es : List (Int × Int)) (a : Option Addr) (cap : Nat) (h : EdgesAt B W a es) (hG : isGraph (n : Int) es) (hfr : fr < bit n) (hgo : gone < bit n) :
    Calls Try.prog 26 #[.agg #[.int .i64 n, .slice a es.length cap], .int .i64 fr, .int .i64 gone] u.val (Ret B W (.int .i64 (rchS es fr gone))) := by
  have hn7 : n ≤ 7 := by have := hG.2.1; omega
  have he8 : es.length ≤ 8 := hG.2.2.1
  have hbn := bit_le n (by omega)
  have T0 : Hid (Two (u.val.alloc (.cells #[.int .i64 n, .slice a es.length cap] 24)) u.val.heap.size 24 (.int .i64 n) (.slice a es.length cap)) := Lib.hid (Two.new _ _ _ _)
  have hrr : u.val.heap.size < (u.val.alloc (.cells #[.int .i64 n, .slice a es.length cap] 24)).heap.size := by simp
  have HV : Hid (∀ v : Later (u.val.alloc (.cells #[.int .i64 n, .slice a es.length cap] 24)).heap.size (u.val.alloc (.cells #[.int .i64 n, .slice a es.length cap] 24)), ∃ w : Later B W, w.val = v.val) := Lib.hid (fun v => ⟨(u.alloc _).up v, rfl⟩)
  have HE : Hid (EdgesAt (u.val.alloc (.cells #[.int .i64 n, .slice a es.length cap] 24)).heap.size (u.val.alloc (.cells #[.int .i64 n, .slice a es.length cap] 24)) a es) := Lib.hid (h.to (u.alloc _))
  have HG := Lib.hid (Grf.of hG)
  have HI := Lib.hid hG
  have o0 := i64_andNot fr gone (by omega) (by omega)
  clear h hG
  go_enter Try.func26, Try.ntmps26
  go_upto_region 1 with fail
  generalize hr2 : u.val.heap.size = g0 at *
  generalize u.val.alloc (.cells #[.int .i64 n, .slice a es.length cap] 24) = W1 at *
  clear hr2 u
  obtain ⟨v0, hv0⟩ : ∃ v0 : Later W1.heap.size W1, v0.val = W1 := ⟨Later.self _, rfl⟩
  have q0 : ∀ v : Later W1.heap.size W1, v.val.cell? ⟨g0, 0, none⟩ = some (.int .i64 n) := fun v => (T0.out.keep_at v.below hrr).c0
  have q1 : ∀ v : Later W1.heap.size W1, v.val.cell? ⟨g0, 1, none⟩ = some (.slice a es.length cap) := fun v => (T0.out.keep_at v.below hrr).c1
  have q0v := q0 v0
  rw [← hv0]
  clear hv0
  have HS0 : Hid (Rin n es fr gone (nand fr gone)) := Lib.hid (Rin.start hfr)
  have HL := Lib.hid (swpR_last HG.out hfr HS0.out)
  generalize nand fr gone = s0 at *
  go_wp2
  clear q0v
  go_loopw [7, 15] (fun s i wr => ∃ (r : Nat) (v : Later W1.heap.size W1), r ≤ n ∧ i = .int .i64 r ∧ s = .int .i64 (swpR es s0 gone r) ∧ wr = v.val) (fun _ i _ => n - (intOf i).toNat)
  case atStart => exact ⟨0, v0, by omega, rfl, rfl, rfl⟩
  case round =>
    clear v0 o0
    obtain ⟨r, v, hr, rfl, rfl, rfl⟩ := hrel
    have HR : Hid (Rin n es fr gone (swpR es s0 gone r)) := Lib.hid (swpR_rin HG.out HS0.out r)
    have HSr : Hid (swpR es s0 gone (r + 1) = swpT es (swpR es s0 gone r) gone es.length) := Lib.hid rfl
    by_cases hrn : r < n
    · generalize swpR es s0 gone r = s at *
      have q1v := q1 v
      go_wp2
      clear q1v
      go_loopw [7, 20] (fun t i wr => ∃ (k : Nat) (v : Later W1.heap.size W1), k ≤ es.length ∧ i = .int .i64 k ∧ t = .int .i64 (swpT es s gone k) ∧ wr = v.val) (fun _ i _ => es.length - (intOf i).toNat)
      case atStart => exact ⟨0, v, by omega, rfl, rfl, rfl⟩
      case round =>
        clear v
        obtain ⟨k, v, hk, rfl, rfl, rfl⟩ := hrel
        have htn := (swpT_rin HG.out HR.out k hk).lt
        by_cases hlt : k < es.length
        · obtain ⟨be, offe, rfl, hbe, hce⟩ := HE.out.at hlt
          have e0 := (hce v k hlt).1
          have e1 := (hce v k hlt).2
          have HX := HI.out.2.2.2 k hlt
          have HSt : Hid (swpT es s gone (k + 1) = if (swpT es s gone k).testBit (vA es k) = true then swpT es s gone k ||| nand (bit (vB es k)) gone else swpT es s gone k) := Lib.hid rfl
          obtain ⟨y, hy⟩ := Int.eq_ofNat_of_zero_le HX.1
          obtain ⟨z, hz⟩ := Int.eq_ofNat_of_zero_le HX.2.1
          have hvy : vA es k = y := by unfold vA; rw [hy]; rfl
          have hvz : vB es k = z := by unfold vB; rw [hz]; rfl
          rw [hy, hz] at HX
          have hyn : y < n := by omega
          have hzn : z < n := by omega
          rw [hy] at e0
          rw [hz] at e1
          rw [hvy, hvz] at HSt
          clear HX hy hz hce hvy hvz
          have by1 := bit_cast y
          have by3 := bit_lt y (by omega)
          have b2 := bit_cast z
          have b3 := bit_lt z (by omega)
          have o1 := i64_andNot (bit z) gone (by omega) (by omega)
          have hnz := nand_le (bit z) gone
          have o2 := i64_or (swpT es s gone k) (nand (bit z) gone) (by omega) (by omega)
          have s1 := shr_andC (swpT es s gone k) y (by omega)
          rw [by1] at s1
          generalize nand (bit z) gone = nz at *
          generalize swpT es s gone k = tk at *
          rcases btf (tk.testBit y) with g1 | g1
          · rw [g1] at s1 HSt
            have HN : Hid (swpT es s gone (k + 1) = tk ||| nz) := Lib.hid (by rw [HSt.out]; simp)
            clear HSt g1
            go_wp2
            go_roundw
            case rel => exact ⟨k+1, v.alloc (.cells #[.int .i64 y, .int .i64 z] 42), by omega, by go_num, by rw [HN.out], rfl⟩
            case measure => simp [intOf]; omega
          · rw [g1] at s1 HSt
            have HN : Hid (swpT es s gone (k + 1) = tk) := Lib.hid (by rw [HSt.out]; simp)
            clear HSt g1
            go_wp2
            go_roundw
            case rel => exact ⟨k+1, v.alloc (.cells #[.int .i64 y, .int .i64 z] 42), by omega, by go_num, by rw [HN.out], rfl⟩
            case measure => simp [intOf]; omega
        · have hke : k = es.length := by omega
          subst hke
          go_wp2
          go_roundw
          case rel => exact ⟨r+1, v, by omega, by go_num, by rw [HSr.out], rfl⟩
          case measure => simp [intOf]; omega
    · have hre : r = n := by omega
      subst hre
      rw [HL.out]
      go_wp2
      go_ret
      obtain ⟨w, hw⟩ := HV.out v
      rw [← hw]; exact Ret.mk w rfl

end Go.Proofs.Ytnhpefcjgaimeaa
