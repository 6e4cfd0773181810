
/-
  links.laid: the net of a graph; links.ways: how many ways keep apart.
  What is reached in a directed graph, as a set; the first of the fewest vertices that bar all ways. No program in sight.
-/
import Derived.Test.YtpkjpmkmcffkhaaPk09
import Derived.Test.YtpkjpmkmcffkhaaPk14
import Derived.Test.YtpkjpmkmcffkhaaPk17
import Derived.Test.YtpkjpmkmcffkhaaPk18
import Derived.Test.YtpkjpmkmcffkhaaPk06
import Derived.Test.YtpkjpmkmcffkhaaPk15
namespace Go.Proofs.Ytpkjpmkmcffkhaa
open Go.RowKit
set_option linter.unusedVariables false

theorem mk_rows (n : Nat) (h : n ≤ 1048576) : ∀ w : World, (Instr.makeSlice 69 (.int .i64 (n : Int)) (.int .i64 (n : Int))).run Try.prog w = .ok (.slice (some ⟨w.heap.size, 0, none⟩) n n) (w.alloc (.cells (madeCells #[.slice none 0 0] n) 29)) :=
  fun w => run_make_row' (P := Try.prog) 69 29 (.slice none 0 0) 24 Try.underlying69 info_row rfl .i64 .i64 n (by omega) (by omega) w

set_option maxRecDepth 100000 in
set_option maxHeartbeats 8000000 in
theorem c_laid {B : Nat} {W : World} (u : Later B W) (n fr tw : Nat) (es : List (Int × Int)) (a : Option Addr) (cap : Nat) (h : EdgesAt B W a es) (hG : isGraph (n : Int) es) (hfr : fr < bit n) (htw : tw < bit n) :
    Calls Try.prog 43 #[.agg #[.int .i64 n, .slice a es.length cap], .int .i64 fr, .int .i64 tw] u.val (RetP B W (fun v w => ∃ (g : Nat) (r : Nat → Nat), v = .slice (some ⟨g, 0, none⟩) (2 + 2 * n) (2 + 2 * n) ∧ Grid B w g (2 + 2 * n) (2 + 2 * n) r (net n es fr tw))) := by
  have hn7 : n ≤ 7 := by have := hG.2.1; omega
  have he8 : es.length ≤ 8 := hG.2.2.1
  have hfr8 : fr < 256 := by have := bit_le n (by omega); omega
  have htw8 : tw < 256 := by have := bit_le n (by omega); omega
  have T0 : Hid (Two (u.val.alloc (.cells #[.int .i64 n, .slice a es.length cap] 24)) u.val.heap.size 24 (.int .i64 n) (.slice a es.length cap)) := Lib.hid (Two.new _ _ _ _)
  have hrr : u.val.heap.size < (u.val.alloc (.cells #[.int .i64 n, .slice a es.length cap] 24)).heap.size := by simp
  have HV : Hid (∀ v : Later (u.val.alloc (.cells #[.int .i64 n, .slice a es.length cap] 24)).heap.size (u.val.alloc (.cells #[.int .i64 n, .slice a es.length cap] 24)), ∃ w : Later B W, w.val = v.val) := Lib.hid (fun v => ⟨(u.alloc _).up v, rfl⟩)
  have HE : Hid (EdgesAt (u.val.alloc (.cells #[.int .i64 n, .slice a es.length cap] 24)).heap.size (u.val.alloc (.cells #[.int .i64 n, .slice a es.length cap] 24)) a es) := Lib.hid (h.to (u.alloc _))
  have HB0 : Hid (B ≤ (u.val.alloc (.cells #[.int .i64 n, .slice a es.length cap] 24)).heap.size) := Lib.hid (by have := u.size; simp; omega)
  have HI := Lib.hid hG
  have hmk := mk_rows (2 + 2 * n) (by omega)
  have ec : (((2 + 2 * n : Nat)) : Int) = 2 + 2 * (n : Int) := by omega
  clear h hG
  go_enter Try.func43, Try.ntmps43
  go_upto_region 1 with fail
  generalize hr2 : u.val.heap.size = g0 at *
  generalize u.val.alloc (.cells #[.int .i64 n, .slice a es.length cap] 24) = W1 at *
  clear hr2 u
  obtain ⟨v0, hv0⟩ : ∃ v0 : Later W1.heap.size W1, v0.val = W1 := ⟨Later.self _, rfl⟩
  have q0 : ∀ v : Later W1.heap.size W1, v.val.cell? ⟨g0, 0, none⟩ = some (.int .i64 n) := fun v => (T0.out.keep_at v.below hrr).c0
  have q1 : ∀ v : Later W1.heap.size W1, v.val.cell? ⟨g0, 1, none⟩ = some (.slice a es.length cap) := fun v => (T0.out.keep_at v.below hrr).c1
  have q0v := q0 v0
  rw [hv0] at q0v
  rw [ec] at hmk
  go_upto_region 2 with fail
  clear hmk ec q0v
  have hgt : ((W1.alloc (.cells (madeCells #[Value.slice none 0 0] (2 + 2 * n)) 29))).heap.size = W1.heap.size + 1 := by simp
  have HT0 : Hid (GridTo W1.heap.size (W1.alloc (.cells (madeCells #[Value.slice none 0 0] (2 + 2 * n)) 29)) W1.heap.size (2 + 2 * n) (2 + 2 * n) 0 (fun _ => 0) (fun _ _ => 0)) := Lib.hid (GridTo.start (World.rowIs_made W1 (.slice none 0 0) (2 + 2 * n) 29) (Nat.le_refl _))
  obtain ⟨z0, hz0⟩ : ∃ z : Later W1.heap.size W1, z.val = (W1.alloc (.cells (madeCells #[Value.slice none 0 0] (2 + 2 * n)) 29)) := ⟨(Later.self W1).alloc _, rfl⟩
  rw [← hz0] at HT0 ⊢
  clear hz0 hgt hv0 v0
  have hgg : g0 < W1.heap.size := hrr
  obtain ⟨N, hN⟩ : ∃ N, N = 2 + 2 * n := ⟨_, rfl⟩
  rw [← hN] at HT0 ⊢
  have hmk1 := mk_tab N (by omega)
  have hNr : Hid (N = 2 + 2 * n) := Lib.hid hN
  have hN16 : N ≤ 16 := by omega
  clear hN
  generalize W1.heap.size = g at *
  go_wp2
  go_loopw [19] (fun i wr => ∃ (k : Nat) (r : Nat → Nat) (v : Later g W1), k ≤ N ∧ i = .int .i64 k ∧ wr = v.val ∧ Hid (GridTo g v.val g N N k r (fun _ _ => 0))) (fun i _ => N - (intOf i).toNat)
  case atStart => exact ⟨0, _, z0, by omega, rfl, rfl, HT0⟩
  case round =>
    clear z0 HT0
    obtain ⟨k, r, v, hk, rfl, rfl, HT⟩ := hrel
    by_cases hlt : k < N
    · have old := HT.out.old hlt
      have fz := HT.out.fz k
      have hgl := HT.out.lt
      have HT2 : Hid (GridTo g ((v.val.alloc (.cells (madeCells #[Value.int .i64 0] N) 3)).setCell ⟨g, k, none⟩ (.slice (some ⟨v.val.heap.size, 0, none⟩) N N)) g N N (k + 1) (fun i => if i = k then v.val.heap.size else r i) (fun _ _ => 0)) := Lib.hid (((HT.out.keep ((Below.refl _ _).alloc (Nat.le_refl _) _)).put (by omega) (by omega) (fun i hi => by have := (HT.out.row i hi).lt; omega) (ITab.made v.val N)).congr (fun i j _ _ => by by_cases c : i = k <;> simp [c]))
      rw [World.setCell_alloc_past _ _ _ _ hgl] at HT2
      go_wp2
      go_roundw
      case rel => exact ⟨k+1, _, (v.set ⟨g, k, none⟩ (by show g ≤ g; omega) _).alloc (.cells (madeCells #[Value.int .i64 0] N) 3), by omega, by go_num, rfl, HT2⟩
      case measure => simp [intOf]; omega
    · have hke : k = N := by omega
      subst hke
      have HG0 : Hid (Grid g v.val g k k r (netV fr tw 0)) := Lib.hid HT.out.full
      have q0v := q0 v
      clear HT hmk1
      go_wp2
      clear q0v
      go_loopw [31] (fun i wr => ∃ (q : Nat) (v : Later g W1), q ≤ n ∧ i = .int .i64 q ∧ wr = v.val ∧ Hid (Grid g v.val g k k r (netV fr tw q))) (fun i _ => n - (intOf i).toNat)
      case atStart => exact ⟨0, v, by omega, rfl, rfl, HG0⟩
      case round =>
        clear v HG0
        obtain ⟨q, v, hq, rfl, rfl, HG⟩ := hrel
        by_cases hltq : q < n
        · obtain ⟨x2, hx2⟩ : ∃ x2 : Nat, x2 = 2 + 2 * q := ⟨_, rfl⟩
          obtain ⟨x3, hx3⟩ : ∃ x3 : Nat, x3 = 3 + 2 * q := ⟨_, rfl⟩
          have h2N : x2 < k := by have := hNr.out; omega
          have h3N : x3 < k := by have := hNr.out; omega
          have h1N : 1 < k := by omega
          have h0N : 0 < k := by omega
          have a2 : 2 + 2 * (q : Int) = (x2 : Int) := by omega
          have a3 : 3 + 2 * (q : Int) = (x3 : Int) := by omega
          have w0 := IntWalk.i64_in (2 * (q : Int)) (by omega)
          have w2 := IntWalk.i64_in (x2 : Int) (by omega)
          have w3 := IntWalk.i64_in (x3 : Int) (by omega)
          have s1 := shr_andC fr q hfr8
          have s2 := shr_andC tw q htw8
          have bq := bit_cast q
          have bq1 := bit_lt q (by omega)
          rw [bq] at s1 s2
          have G1 := HG.out.set h2N x3 1
          have G1H := Lib.hid G1
          have ct := HG.out.tcell h2N
          obtain ⟨ov, hov⟩ : ∃ o : Int, v.val.cell? ⟨r x2, x3, none⟩ = some (.int .i64 o) := ⟨_, HG.out.cell h2N h3N⟩
          have fz := HG.out.fz h2N x3
          have hb2 := HG.out.br x2 h2N
          have hb3 := HG.out.br x3 h3N
          have hb0 := HG.out.br 0 (by omega)
          obtain ⟨v1, hv1⟩ : ∃ v1 : Later g W1, v1.val = v.val.setCell ⟨r x2, x3, none⟩ (.int .i64 1) := ⟨v.set ⟨r x2, x3, none⟩ hb2 _, rfl⟩
          have HX2 := Lib.hid hx2
          have HX3 := Lib.hid hx3
          clear hx2 hx3 G1
          go_upto_region 11 with fail
          rw [← hv1] at G1H ⊢
          clear ct ov hov fz hv1 HG v
          have e0 : ∀ w : Later v1.val.heap.size v1.val, w.val.cell? ⟨g, 0, none⟩ = some (.slice (some ⟨r 0, 0, none⟩) k k) := fun w => (G1H.out.keep w.below).tcell (by omega)
          obtain ⟨o1, HO1⟩ : ∃ o : Int, Hid (∀ w : Later v1.val.heap.size v1.val, w.val.cell? ⟨r 0, x2, none⟩ = some (.int .i64 o)) := ⟨_, Lib.hid fun w => (G1H.out.keep w.below).cell (by omega) h2N⟩
          have e1 := HO1.out
          have e2 : ∀ w : Later v1.val.heap.size v1.val, w.val.frozen? ⟨r 0, x2, none⟩ = false := fun w => (G1H.out.keep w.below).fz (by omega) x2
          have G2 : Hid (∀ w : Later v1.val.heap.size v1.val, Grid g (w.val.setCell ⟨r 0, x2, none⟩ (.int .i64 (((fr.testBit q).toNat : Nat) : Int))) g k k r (setM (setM (netV fr tw q) x2 x3 1) 0 x2 (((fr.testBit q).toNat : Nat) : Int))) := Lib.hid (fun w => (G1H.out.keep w.below).set (by omega) x2 _)
          have hbf : (fr.testBit q).toNat ≤ 1 := by cases fr.testBit q <;> decide
          have hbt : (tw.testBit q).toNat ≤ 1 := by cases tw.testBit q <;> decide
          have HBF : Hid ((((fr.testBit q).toNat : Nat) : Int) = bti (fr.testBit q)) := Lib.hid (by cases fr.testBit q <;> rfl)
          have HBT : Hid ((((tw.testBit q).toNat : Nat) : Int) = bti (tw.testBit q)) := Lib.hid (by cases tw.testBit q <;> rfl)
          generalize (fr.testBit q).toNat = bf at *
          generalize (tw.testBit q).toNat = bt at *
          refine wp_region_later_tail (Later.self v1.val) 10 (by kernel_rfl) (by kernel_rfl) (fun v2 => ?_)
          simp only [List.take_succ_cons, List.take_zero, List.drop_succ_cons, List.drop_zero]
          repeat still_step
          refine wpStill_nil ?_
          go_upto_region 12 with fail
          obtain ⟨v3, hv3⟩ : ∃ v3 : Later g W1, v3.val = v2.val.setCell ⟨r 0, x2, none⟩ (.int .i64 (bf : Int)) := ⟨(v1.up v2).set ⟨r 0, x2, none⟩ hb0 _, rfl⟩
          have G3 := Lib.hid (G2.out v2)
          rw [← hv3] at G3 ⊢
          clear hv3 e0 e1 e2 HO1 o1 G1H G2 v2 v1
          have e0 : ∀ w : Later v3.val.heap.size v3.val, w.val.cell? ⟨g, x3, none⟩ = some (.slice (some ⟨r x3, 0, none⟩) k k) := fun w => (G3.out.keep w.below).tcell h3N
          obtain ⟨o1, HO1⟩ : ∃ o : Int, Hid (∀ w : Later v3.val.heap.size v3.val, w.val.cell? ⟨r x3, 1, none⟩ = some (.int .i64 o)) := ⟨_, Lib.hid fun w => (G3.out.keep w.below).cell h3N h1N⟩
          have e1 := HO1.out
          have e2 : ∀ w : Later v3.val.heap.size v3.val, w.val.frozen? ⟨r x3, 1, none⟩ = false := fun w => (G3.out.keep w.below).fz h3N 1
          have G4 : Hid (∀ w : Later v3.val.heap.size v3.val, Grid g (w.val.setCell ⟨r x3, 1, none⟩ (.int .i64 (bt : Int))) g k k r (netV fr tw (q + 1))) := Lib.hid (fun w => by
            have := (G3.out.keep w.below).set h3N 1 (bt : Int)
            rw [HBF.out, HBT.out, HX2.out, HX3.out] at this
            rw [HBT.out, HX3.out]
            exact this)
          refine wp_region_later_tail (Later.self v3.val) 10 (by kernel_rfl) (by kernel_rfl) (fun v4 => ?_)
          simp only [List.take_succ_cons, List.take_zero, List.drop_succ_cons, List.drop_zero]
          repeat still_step
          refine wpStill_nil ?_
          go_wp2
          go_roundw
          case rel => exact ⟨q+1, (v3.up v4).set ⟨r x3, 1, none⟩ hb3 _, by omega, by go_num, rfl, Lib.hid (G4.out v4)⟩
          case measure => simp [intOf]; omega
        · have hqe : q = n := by omega
          subst hqe
          have q1v := q1 v
          have HG0 : Hid (Grid g v.val g k k r (netE es (netV fr tw q) 0)) := HG
          clear HG
          go_wp2
          clear q1v
          go_loopw [70] (fun i wr => ∃ (e : Nat) (v : Later g W1), e ≤ es.length ∧ i = .int .i64 e ∧ wr = v.val ∧ Hid (Grid g v.val g k k r (netE es (netV fr tw q) e))) (fun i _ => es.length - (intOf i).toNat)
          case atStart => exact ⟨0, v, by omega, rfl, rfl, HG0⟩
          case round =>
            clear v HG0
            obtain ⟨e, v, he, rfl, rfl, HG⟩ := hrel
            by_cases hlte : e < es.length
            · obtain ⟨be, offe, rfl, hbe, hce⟩ := HE.out.at hlte
              have e0 := (hce v e hlte).1
              have e1 := (hce v e hlte).2
              have HX := HI.out.2.2.2 e hlte
              have HSt : Hid (netE es (netV fr tw q) (e + 1) = setM (netE es (netV fr tw q) e) (3 + 2 * (es.getD e (0,0)).1.toNat) (2 + 2 * (es.getD e (0,0)).2.toNat) 1) := Lib.hid rfl
              obtain ⟨y, hy⟩ := Int.eq_ofNat_of_zero_le HX.1
              obtain ⟨z, hz⟩ := Int.eq_ofNat_of_zero_le HX.2.1
              rw [hy, hz] at HX HSt
              rw [hy] at e0
              rw [hz] at e1
              have hyq : y < q := by omega
              have hzq : z < q := by omega
              obtain ⟨x2, hx2⟩ : ∃ x2 : Nat, x2 = 2 + 2 * z := ⟨_, rfl⟩
              obtain ⟨x3, hx3⟩ : ∃ x3 : Nat, x3 = 3 + 2 * y := ⟨_, rfl⟩
              have h2N : x2 < k := by have := hNr.out; omega
              have h3N : x3 < k := by have := hNr.out; omega
              have HSt2 : Hid (netE es (netV fr tw q) (e + 1) = setM (netE es (netV fr tw q) e) x3 x2 1) := Lib.hid (by rw [HSt.out, hx2, hx3]; rfl)
              clear HX hy hz hce HSt
              have a2 : 2 + 2 * (z : Int) = (x2 : Int) := by omega
              have a3 : 3 + 2 * (y : Int) = (x3 : Int) := by omega
              have w0 := IntWalk.i64_in (2 * (y : Int)) (by omega)
              have w1 := IntWalk.i64_in (2 * (z : Int)) (by omega)
              have w2 := IntWalk.i64_in (x2 : Int) (by omega)
              have w3 := IntWalk.i64_in (x3 : Int) (by omega)
              have T1 : Hid (Two (v.val.alloc (.cells #[.int .i64 y, .int .i64 z] 34)) v.val.heap.size 34 (.int .i64 y) (.int .i64 z)) := Lib.hid (Two.new _ _ _ _)
              have HGa : Hid (Grid g (v.val.alloc (.cells #[.int .i64 y, .int .i64 z] 34)) g k k r (netE es (netV fr tw q) e)) := Lib.hid (HG.out.keep ((Below.refl _ _).alloc (Nat.le_refl _) _))
              obtain ⟨v1, hv1⟩ : ∃ v1 : Later g W1, v1.val = v.val.alloc (.cells #[.int .i64 y, .int .i64 z] 34) := ⟨v.alloc _, rfl⟩
              have hb3 := HG.out.br x3 h3N
              have hbl : v.val.heap.size < (v.val.alloc (.cells #[.int .i64 y, .int .i64 z] 34)).heap.size := by simp
              go_upto_region 17 with fail
              rw [← hv1] at T1 HGa hbl ⊢
              clear e0 e1 hv1 HG hx2 hx3
              generalize v.val.heap.size = ge at *
              clear v
              have c0 : ∀ w : Later v1.val.heap.size v1.val, w.val.cell? ⟨ge, 0, none⟩ = some (.int .i64 y) := fun w => (T1.out.keep_at w.below hbl).c0
              have c1 : ∀ w : Later v1.val.heap.size v1.val, w.val.cell? ⟨ge, 1, none⟩ = some (.int .i64 z) := fun w => (T1.out.keep_at w.below hbl).c1
              have e0 : ∀ w : Later v1.val.heap.size v1.val, w.val.cell? ⟨g, x3, none⟩ = some (.slice (some ⟨r x3, 0, none⟩) k k) := fun w => (HGa.out.keep w.below).tcell h3N
              obtain ⟨o1, HO1⟩ : ∃ o : Int, Hid (∀ w : Later v1.val.heap.size v1.val, w.val.cell? ⟨r x3, x2, none⟩ = some (.int .i64 o)) := ⟨_, Lib.hid fun w => (HGa.out.keep w.below).cell h3N h2N⟩
              have e1 := HO1.out
              have e2 : ∀ w : Later v1.val.heap.size v1.val, w.val.frozen? ⟨r x3, x2, none⟩ = false := fun w => (HGa.out.keep w.below).fz h3N x2
              have G4 : Hid (∀ w : Later v1.val.heap.size v1.val, Grid g (w.val.setCell ⟨r x3, x2, none⟩ (.int .i64 1)) g k k r (netE es (netV fr tw q) (e + 1))) := Lib.hid (fun w => by
                rw [HSt2.out]
                exact (HGa.out.keep w.below).set h3N x2 1)
              clear T1 HGa HSt2
              refine wp_region_later_tail (Later.self v1.val) 11 (by kernel_rfl) (by kernel_rfl) (fun v4 => ?_)
              simp only [List.take_succ_cons, List.take_zero, List.drop_succ_cons, List.drop_zero]
              repeat still_step
              refine wpStill_nil ?_
              go_wp2
              go_roundw
              case rel => exact ⟨e+1, (v1.up v4).set ⟨r x3, x2, none⟩ hb3 _, by omega, by go_num, rfl, Lib.hid (G4.out v4)⟩
              case measure => simp [intOf]; omega
            · have hee : e = es.length := by omega
              subst hee
              go_wp2
              go_ret
              obtain ⟨w, hw⟩ := HV.out v
              have HN := hNr.out
              subst HN
              have hG := HG.out.mono HB0.out
              rw [← hw] at hG ⊢
              exact RetP.mk w ⟨g, r, rfl, hG⟩

set_option maxRecDepth 100000 in
set_option maxHeartbeats 8000000 in
theorem c_ways {B : Nat} {W : World} (u : Later B W) (n fr tw : Nat) (es : List (Int × Int)) (a : Option Addr) (cap : Nat) (h : EdgesAt B W a es) (hG : isGraph (n : Int) es) (hfr : fr < bit n) (htw : tw < bit n) (m : Nat) (hm : ∀ k : Int, MinCut (2 + 2 * n) (net n es fr tw) k → k = m) :
    Calls Try.prog 27 #[.agg #[.int .i64 n, .slice a es.length cap], .int .i64 fr, .int .i64 tw] u.val (Ret B W (.int .i64 m)) := by
  have hn7 : n ≤ 7 := by have := hG.2.1; omega
  have T0 : Hid (Two (u.val.alloc (.cells #[.int .i64 n, .slice a es.length cap] 24)) u.val.heap.size 24 (.int .i64 n) (.slice a es.length cap)) := Lib.hid (Two.new _ _ _ _)
  have hrr : u.val.heap.size < (u.val.alloc (.cells #[.int .i64 n, .slice a es.length cap] 24)).heap.size := by simp
  have HV : Hid (∀ v : Later (u.val.alloc (.cells #[.int .i64 n, .slice a es.length cap] 24)).heap.size (u.val.alloc (.cells #[.int .i64 n, .slice a es.length cap] 24)), ∃ w : Later B W, w.val = v.val) := Lib.hid (fun v => ⟨(u.alloc _).up v, rfl⟩)
  have HE : Hid (EdgesAt (u.val.alloc (.cells #[.int .i64 n, .slice a es.length cap] 24)).heap.size (u.val.alloc (.cells #[.int .i64 n, .slice a es.length cap] 24)) a es) := Lib.hid (h.to (u.alloc _))
  have HM := Lib.hid hm
  have HI := Lib.hid hG
  clear h hG hm
  go_enter Try.func27, Try.ntmps27
  go_upto_region 1 with fail
  generalize hr2 : u.val.heap.size = g0 at *
  generalize u.val.alloc (.cells #[.int .i64 n, .slice a es.length cap] 24) = W1 at *
  clear hr2 u
  have p0 : W1.cell? ⟨g0, 0, none⟩ = some (.int .i64 n) := T0.out.c0
  have p1 : W1.cell? ⟨g0, 1, none⟩ = some (.slice a es.length cap) := T0.out.c1
  have K0 := Lib.hid (show Calls Try.prog 43 #[.agg #[.int .i64 n, .slice a es.length cap], .int .i64 fr, .int .i64 tw] W1 _ from c_laid (Later.self W1) n fr tw es a cap HE.out HI.out hfr htw)
  go_wp2_with (first | (go_at_call 43; refine (K0.out).mono ?_; rintro e _ ⟨_, rfl, ⟨g, r, rfl, HG⟩, v0, rfl⟩))
  have HG0 := Lib.hid HG
  have HF0 : Hid (Flow (2 + 2 * n) (net n es fr tw) 0 (net n es fr tw)) := Lib.hid (Flow.start (net_ok _ n es fr tw))
  have HL : Hid (∀ t p, Flow (2 + 2 * n) (net n es fr tw) t p → t ≤ 1000) := Lib.hid (fun t p hF => by
    have := hF.le (net_ok _ n es fr tw)
    have h16 : 2 + 2 * n ≤ 16 := by omega
    have h2 : (2 + 2 * n) * ((2 + 2 * n) * 2) ≤ 16 * (16 * 2) := Nat.mul_le_mul h16 (Nat.mul_le_mul h16 (Nat.le_refl _))
    omega)
  clear HG K0 p0 p1
  obtain ⟨N, hN⟩ : ∃ N, N = 2 + 2 * n := ⟨_, rfl⟩
  rw [← hN] at HG0 HF0 HL HM ⊢
  have hN1 : 1 < N := by omega
  have hN2 : N ≤ 20 := by omega
  clear hN
  generalize net n es fr tw = P0 at *
  go_wp2
  go_loopw [8] (fun i wr => ∃ (t : Nat) (p : Nat → Nat → Int) (v : Later W1.heap.size W1), i = .int .i64 t ∧ wr = v.val ∧ Hid (Grid W1.heap.size v.val g N N r p) ∧ Hid (Flow N P0 t p)) (fun i _ => 1000 - (intOf i).toNat)
  case atStart => exact ⟨0, P0, v0, rfl, rfl, HG0, HF0⟩
  case round =>
    clear v0 HG0 HF0
    obtain ⟨t, p, v, rfl, rfl, HG, HF⟩ := hrel
    have ht := HL.out _ _ HF.out
    have K := Lib.hid (c_more v g N hN1 hN2 r p HG.out HF.out.ok)
    clear HG
    go_wp2_with (first | (go_at_call 44; refine (K.out).mono ?_; rintro e _ ⟨_, rfl, ⟨b, P', rfl, hG2, hM2⟩, v2, rfl⟩))
    case roundEnd =>
      rename_i hb
      subst hb
      have HF2 := HF.out.more hM2
      have ht2 := HL.out _ _ HF2
      exact ⟨⟨t+1, P', v2, by go_num, rfl, Lib.hid hG2, Lib.hid HF2⟩, by simp [intOf]; omega⟩
    rename_i hb
    subst hb
    have e := HM.out _ (HF.out.last hM2)
    have e2 : t = m := by omega
    subst e2
    go_ret
    obtain ⟨w, hw⟩ := HV.out v2
    rw [← hw]; exact Ret.mk w rfl

end Go.Proofs.Ytpkjpmkmcffkhaa

namespace Go.Proofs.Ytpkjpmkmcffkhaa
set_option linter.unusedVariables false

/-- what is reached, as a set -/
noncomputable def rchS (es : List (Int × Int)) (fr gone : Nat) : Nat := Classical.choose (exists_set (Rch (Edge es) fr gone))
theorem rchS_lt (es : List (Int × Int)) (fr gone : Nat) : rchS es fr gone < 256 := (Classical.choose_spec (exists_set (Rch (Edge es) fr gone))).1
theorem rchS_mem (es : List (Int × Int)) (fr gone : Nat) {v : Nat} (hv : v < 8) : (rchS es fr gone).testBit v = true ↔ Rch (Edge es) fr gone v := (Classical.choose_spec (exists_set (Rch (Edge es) fr gone))).2 v hv

theorem edge_at (es : List (Int × Int)) {k : Nat} (hk : k < es.length) : Edge es (vA es k) (vB es k) := ⟨k, hk, rfl, rfl⟩
theorem Grf.edge {n : Nat} {es : List (Int × Int)} (hG : Grf n es) {u v : Nat} (h : Edge es u v) : u < n ∧ v < n := by
  obtain ⟨k, hk, rfl, rfl⟩ := h
  exact hG.lt k hk
theorem bit_lt_of {n s v : Nat} (hn : n ≤ 8) (hs : s < bit n) (h : s.testBit v = true) : v < n := by
  have hb := bit_le n hn
  have h8 : s < 256 := by omega
  exact (lt_pow_iff n s hn h8).1 hs v (lt_of_testBit h8 h) h
theorem Grf.rch {n : Nat} {es : List (Int × Int)} (hG : Grf n es) {fr gone v : Nat} (hfr : fr < bit n) (h : Rch (Edge es) fr gone v) : v < n :=
  h.lt (fun v hv => bit_lt_of (by have := hG.n7; omega) hfr hv) (fun u v e => (hG.edge e).2)
theorem rchS_bit {n : Nat} {es : List (Int × Int)} (hG : Grf n es) {fr gone : Nat} (hfr : fr < bit n) : rchS es fr gone < bit n := by
  have := hG.n7
  refine (lt_pow_iff n _ (by omega) (rchS_lt es fr gone)).2 fun i hi h => hG.rch hfr ((rchS_mem es fr gone hi).1 h)

/-- a set that lies within what is reached and has where it begins -/
structure Rin (n : Nat) (es : List (Int × Int)) (fr gone s : Nat) : Prop where
  lt : s < bit n
  sub : ∀ v, s.testBit v = true → Rch (Edge es) fr gone v
  base : ∀ v, fr.testBit v = true → gone.testBit v = false → s.testBit v = true
def closedR (es : List (Int × Int)) (gone s : Nat) : Prop := ∀ u v, Edge es u v → s.testBit u = true → gone.testBit v = false → s.testBit v = true
theorem Rin.start {n : Nat} {es : List (Int × Int)} {fr gone : Nat} (hfr : fr < bit n) : Rin n es fr gone (nand fr gone) where
  lt := by have := nand_le fr gone; omega
  sub := fun v h => by rw [nand_testBit] at h; simp at h; exact Rch.base h.1 h.2
  base := fun v h g => by rw [nand_testBit, h, g]; rfl
theorem Rin.last {n : Nat} {es : List (Int × Int)} {fr gone s : Nat} (h : Rin n es fr gone s) (hG : Grf n es) (hfr : fr < bit n) (hc : closedR es gone s) : s = rchS es fr gone := by
  have hn := hG.n7
  have hb := bit_le n (by omega)
  have hlt := h.lt
  refine eq_of_bits (by omega) (rchS_lt es fr gone) (fun v hv => ?_)
  rw [Bool.eq_iff_iff, rchS_mem es fr gone hv]
  constructor
  · exact h.sub v
  · intro g
    clear hv
    induction g with
    | base h1 h2 => exact h.base _ h1 h2
    | step hu he hg ih => exact hc _ _ he ih hg
theorem Rin.add {n : Nat} {es : List (Int × Int)} {fr gone s : Nat} (h : Rin n es fr gone s) (hG : Grf n es) {v : Nat} (hv : v < n) (hr : Rch (Edge es) fr gone v) : Rin n es fr gone (s ||| bit v) where
  lt := by
    have hn := hG.n7
    have hb := bit_le n (by omega)
    have hlt := h.lt
    have hbv := bit_lt v (by omega)
    refine (lt_pow_iff n _ (by omega) (or_lt s (bit v) (by omega) (by omega))).2 fun i hi hb => ?_
    rw [Nat.testBit_or, testBit_bit] at hb
    simp at hb
    rcases hb with hb | hb
    · exact bit_lt_of (by omega) hlt hb
    · omega
  sub := fun w hw => by
    rw [Nat.testBit_or, testBit_bit] at hw
    simp at hw
    rcases hw with hw | rfl
    · exact h.sub w hw
    · exact hr
  base := fun w h1 h2 => by rw [Nat.testBit_or, h.base w h1 h2]; rfl

/-- rotaref: one round: what the first k edges add -/
def passT (es : List (Int × Int)) (s gone : Nat) : Nat → Nat
  | 0 => s
  | k + 1 => if s.testBit (vA es k) = true ∧ gone.testBit (vB es k) = false then passT es s gone k ||| bit (vB es k) else passT es s gone k
theorem passT_rin {n : Nat} {es : List (Int × Int)} {fr gone s : Nat} (hG : Grf n es) (h : Rin n es fr gone s) : ∀ k, k ≤ es.length → Rin n es fr gone (passT es s gone k) := by
  intro k
  induction k with
  | zero => intro _; exact h
  | succ k ih =>
    intro hk
    have hi := ih (by omega)
    show Rin n es fr gone (if _ then _ else _)
    split
    case isTrue c => exact hi.add hG (hG.lt k (by omega)).2 (Rch.step (h.sub _ c.1) (edge_at es (by omega)) c.2)
    case isFalse c => exact hi
theorem passT_up (es : List (Int × Int)) (s gone : Nat) : ∀ k v, s.testBit v = true → (passT es s gone k).testBit v = true := by
  intro k
  induction k with
  | zero => intro v h; exact h
  | succ k ih =>
    intro v h
    show (if _ then _ else _ : Nat).testBit v = true
    split
    · rw [Nat.testBit_or, ih v h]; rfl
    · exact ih v h
theorem passT_has (es : List (Int × Int)) (s gone : Nat) : ∀ k i, i < k → s.testBit (vA es i) = true → gone.testBit (vB es i) = false → (passT es s gone k).testBit (vB es i) = true := by
  intro k
  induction k with
  | zero => intro i hi; omega
  | succ k ih =>
    intro i hi h1 h2
    show (if _ then _ else _ : Nat).testBit _ = true
    by_cases e : i = k
    · subst e
      rw [if_pos ⟨h1, h2⟩, Nat.testBit_or, testBit_bit]
      simp
    · have := ih i (by omega) h1 h2
      split
      · rw [Nat.testBit_or, this]; rfl
      · exact this
theorem passT_closed {es : List (Int × Int)} {s gone : Nat} (h : passT es s gone es.length = s) : closedR es gone s := by
  rintro u v ⟨k, hk, rfl, rfl⟩ h1 h2
  have := passT_has es s gone es.length k hk h1 h2
  rwa [h] at this
theorem le_of_bits {a b : Nat} (h : ∀ v, a.testBit v = true → b.testBit v = true) : a ≤ b := by
  have e : a ||| b = b := or_eq_iff.2 h
  have h2 : a ≤ a ||| b := Nat.left_le_or
  omega
theorem passT_lt {es : List (Int × Int)} {s gone : Nat} (h : ¬ passT es s gone es.length = s) : s < passT es s gone es.length := by
  have := le_of_bits (passT_up es s gone es.length)
  omega

/-- links: one round in place -/
def swpT (es : List (Int × Int)) (s gone : Nat) : Nat → Nat
  | 0 => s
  | k + 1 => if (swpT es s gone k).testBit (vA es k) = true then swpT es s gone k ||| nand (bit (vB es k)) gone else swpT es s gone k
theorem nand_bit_gone {v gone : Nat} : nand (bit v) gone = if gone.testBit v = true then 0 else bit v := by
  apply Nat.eq_of_testBit_eq
  intro i
  rw [nand_testBit, testBit_bit]
  by_cases e : v = i
  · subst e
    cases h : gone.testBit v
    · simp [testBit_bit]
    · simp
  · cases h : gone.testBit v
    · simp [testBit_bit, e]
    · simp [e]
theorem swpT_rin {n : Nat} {es : List (Int × Int)} {fr gone s : Nat} (hG : Grf n es) (h : Rin n es fr gone s) : ∀ k, k ≤ es.length → Rin n es fr gone (swpT es s gone k) := by
  intro k
  induction k with
  | zero => intro _; exact h
  | succ k ih =>
    intro hk
    have hi := ih (by omega)
    show Rin n es fr gone (if _ then _ else _)
    split
    case isTrue c =>
      rw [nand_bit_gone]
      cases hg : gone.testBit (vB es k)
      · rw [if_neg (by decide)]
        exact hi.add hG (hG.lt k (by omega)).2 (Rch.step (hi.sub _ c) (edge_at es (by omega)) hg)
      · rw [if_pos rfl, Nat.or_zero]; exact hi
    case isFalse c => exact hi
theorem swpT_up (es : List (Int × Int)) (s gone : Nat) : ∀ j k v, (swpT es s gone j).testBit v = true → (swpT es s gone (j + k)).testBit v = true := by
  intro j k
  induction k with
  | zero => intro v h; exact h
  | succ k ih =>
    intro v h
    have e : swpT es s gone (j + (k + 1)) = if (swpT es s gone (j + k)).testBit (vA es (j + k)) = true then swpT es s gone (j + k) ||| nand (bit (vB es (j + k))) gone else swpT es s gone (j + k) := rfl
    rw [e]
    split
    · rw [Nat.testBit_or, ih v h]; rfl
    · exact ih v h
theorem swpT_closed {n : Nat} {es : List (Int × Int)} {fr s gone : Nat} (hG : Grf n es) (hR : Rin n es fr gone s) (h : swpT es s gone es.length = s) : closedR es gone s := by
  have hn := hG.n7
  have hb := bit_le n (by omega)
  -- nothing was added on the way
  have hall : ∀ k, k ≤ es.length → swpT es s gone k = s := fun k hk => by
    have h1 := (swpT_rin hG hR k hk).lt
    have h2 := hR.lt
    refine eq_of_bits (by omega) (by omega) fun i hi => ?_
    rw [Bool.eq_iff_iff]
    constructor
    · intro g
      have := swpT_up es s gone k (es.length - k) i g
      rwa [show k + (es.length - k) = es.length by omega, h] at this
    · intro g
      have := swpT_up es s gone 0 k i g
      rwa [Nat.zero_add] at this
  rintro u v ⟨k, hk, rfl, rfl⟩ h1 h2
  have e := hall (k + 1) (by omega)
  have e2 : swpT es s gone (k + 1) = if (swpT es s gone k).testBit (vA es k) = true then swpT es s gone k ||| nand (bit (vB es k)) gone else swpT es s gone k := rfl
  have h1' : s.testBit (vA es k) = true := h1
  have h2' : gone.testBit (vB es k) = false := h2
  rw [e2, hall k (by omega), if_pos h1', nand_bit_gone, h2', if_neg (by decide)] at e
  show s.testBit (vB es k) = true
  rw [← e, Nat.testBit_or, testBit_bit]
  simp
/-- r rounds -/
def swpR (es : List (Int × Int)) (s gone : Nat) : Nat → Nat
  | 0 => s
  | r + 1 => swpT es (swpR es s gone r) gone es.length
theorem swpR_rin {n : Nat} {es : List (Int × Int)} {fr gone s : Nat} (hG : Grf n es) (h : Rin n es fr gone s) : ∀ r, Rin n es fr gone (swpR es s gone r)
  | 0 => h
  | r + 1 => swpT_rin hG (swpR_rin hG h r) _ (Nat.le_refl _)
theorem swpR_stay {es : List (Int × Int)} {s gone r : Nat} (h : swpR es s gone (r + 1) = swpR es s gone r) : ∀ k, swpR es s gone (r + k) = swpR es s gone r := by
  intro k
  induction k with
  | zero => rfl
  | succ k ih =>
    show swpT es (swpR es s gone (r + k)) gone es.length = _
    rw [ih]; exact h
theorem swpR_last {n : Nat} {es : List (Int × Int)} {fr gone s : Nat} (hG : Grf n es) (hfr : fr < bit n) (h : Rin n es fr gone s) : swpR es s gone n = rchS es fr gone := by
  have hn := hG.n7
  have hb := bit_le n (by omega)
  have key : ∀ r, (∃ q, q < r ∧ swpR es s gone (q + 1) = swpR es s gone q) ∨ r ≤ sz (swpR es s gone r) := by
    intro r
    induction r with
    | zero => exact .inr (Nat.zero_le _)
    | succ r ih =>
      rcases ih with ⟨q, hq, e⟩ | hs
      · exact .inl ⟨q, by omega, e⟩
      · by_cases e : swpR es s gone (r + 1) = swpR es s gone r
        · exact .inl ⟨r, by omega, e⟩
        · refine .inr ?_
          have h1 := (swpR_rin hG h r).lt
          have h2 := (swpR_rin hG h (r + 1)).lt
          have hsub : sub (swpR es s gone r) (swpR es s gone (r + 1)) := fun i hi => by
            have := swpT_up es (swpR es s gone r) gone 0 es.length i hi
            rwa [Nat.zero_add] at this
          apply Classical.byContradiction
          intro c
          exact e (eq_of_sub_sz (by omega) (by omega) hsub (by omega)).symm
  have hR := swpR_rin hG h n
  refine hR.last hG hfr ?_
  rcases key n with ⟨q, hq, e⟩ | hs
  · have e1 := swpR_stay e (n - q)
    rw [show q + (n - q) = n by omega] at e1
    rw [e1]
    exact swpT_closed hG (swpR_rin hG h q) e
  · intro u v he hu hg
    have hv := (hG.edge he).2
    -- all vertices are in it
    have hlt := hR.lt
    have ha : swpR es s gone n = bit n - 1 := by
      refine eq_of_sub_sz (by omega) (by omega) (fun i hi => ?_) ?_
      · rw [testBit_all]
        simpa using bit_lt_of (by omega) hlt hi
      · have : sz (bit n - 1) = n := by
          have : ∀ n : Fin 9, sz (bit n.val - 1) = n.val := by decide
          exact this ⟨n, by omega⟩
        omega
    rw [ha, testBit_all]
    simpa using hv

/-- the first of the fewest -/
def bst (ok : Nat → Bool) : Nat → Int
  | 0 => -1
  | k + 1 => if ok k = true ∧ (bst ok k < 0 ∨ sz k < sz (bst ok k).toNat) then (k : Int) else bst ok k
theorem bst_lo (ok : Nat → Bool) (k : Nat) : -1 ≤ bst ok k ∧ bst ok k < k := by
  induction k with
  | zero => simp only [bst]; omega
  | succ k ih => simp only [bst]; split <;> omega
theorem bst_spec (ok : Nat → Bool) (k : Nat) : (bst ok k < 0 ∧ ∀ s, s < k → ok s = false) ∨ (0 ≤ bst ok k ∧ ok (bst ok k).toNat = true ∧ ∀ s, s < k → ok s = true → sz (bst ok k).toNat ≤ sz s) := by
  induction k with
  | zero => exact .inl ⟨by simp only [bst]; omega, fun s hs => by omega⟩
  | succ k ih =>
    simp only [bst]
    split
    case isTrue c =>
      refine .inr ⟨by omega, by simpa using c.1, fun s hs h => ?_⟩
      rw [show ((k : Int)).toNat = k by omega]
      by_cases e : s = k
      · subst e; exact Nat.le_refl _
      · rcases ih with ⟨h1, h2⟩ | ⟨h1, h2, h3⟩
        · have := h2 s (by omega); rw [this] at h; cases h
        · have := h3 s (by omega) h
          omega
    case isFalse c =>
      rcases ih with ⟨h1, h2⟩ | ⟨h1, h2, h3⟩
      · refine .inl ⟨h1, fun s hs => ?_⟩
        by_cases e : s = k
        · subst e
          cases h : ok s
          · rfl
          · exact absurd ⟨h, .inl h1⟩ c
        · exact h2 s (by omega)
      · refine .inr ⟨h1, h2, fun s hs h => ?_⟩
        by_cases e : s = k
        · subst e
          apply Classical.byContradiction
          intro g
          exact c ⟨h, .inr (by omega)⟩
        · exact h3 s (by omega) h

/-- does a set of vertices bar all ways? -/
noncomputable def barO (es : List (Int × Int)) (fr tw s : Nat) : Bool := decide (rchS es fr s &&& tw = 0)
noncomputable def barr (n : Nat) (es : List (Int × Int)) (fr tw : Nat) : Nat := (bst (barO es fr tw) (bit n)).toNat
theorem barO_iff {n : Nat} {es : List (Int × Int)} (hG : Grf n es) {fr tw s : Nat} (hfr : fr < bit n) : barO es fr tw s = true ↔ Bars (Edge es) fr tw s := by
  have hn := hG.n7
  unfold barO
  rw [decide_eq_true_eq, and_eq_zero_iff]
  constructor
  · intro h v hv
    exact h v ((rchS_mem es fr s (by have := hG.rch hfr hv; omega)).2 hv)
  · intro h v hv
    exact h v ((rchS_mem es fr s (lt_of_testBit (rchS_lt es fr s) hv)).1 hv)
theorem barr_all {n : Nat} {es : List (Int × Int)} (hG : Grf n es) {fr tw : Nat} (hfr : fr < bit n) : barO es fr tw (bit n - 1) = true := by
  rw [barO_iff hG hfr]
  intro v hv
  exfalso
  have h1 := hv.free
  have h2 := hG.rch hfr hv
  rw [testBit_all] at h1
  simp at h1
  omega
theorem barr_spec {n : Nat} {es : List (Int × Int)} (hG : Grf n es) {fr tw : Nat} (hfr : fr < bit n) : bst (barO es fr tw) (bit n) = (barr n es fr tw : Int) ∧ barr n es fr tw < bit n ∧ barO es fr tw (barr n es fr tw) = true ∧ ∀ s, s < bit n → barO es fr tw s = true → sz (barr n es fr tw) ≤ sz s := by
  have hn := hG.n7
  have hb := bit_le n (by omega)
  have hl := bst_lo (barO es fr tw) (bit n)
  rcases bst_spec (barO es fr tw) (bit n) with ⟨h1, h2⟩ | ⟨h1, h2, h3⟩
  · have := h2 (bit n - 1) (by omega)
    rw [barr_all hG hfr] at this; cases this
  · unfold barr
    exact ⟨by omega, by omega, h2, h3⟩
/-- as many ways keep apart as vertices bar them -/
theorem ways_barr {n : Nat} {es : List (Int × Int)} (hG : Grf n es) {fr tw : Nat} (hfr : fr < bit n) {k : Int} (h : MinCut (2 + 2 * n) (net n es fr tw) k) : k = sz (barr n es fr tw) := by
  have hn := hG.n7
  have hb := bit_le n (by omega)
  obtain ⟨_, h1, h2, h3⟩ := barr_spec (tw := tw) hG hfr
  refine minCut_bars (by omega) (fun v hv => bit_lt_of (by omega) hfr hv) (fun u v e => hG.edge e) h (fun v hv => bit_lt_of (by omega) h1 hv) ((barO_iff hG hfr).1 h2) fun s hs hsn hB => ?_
  refine h3 s ((lt_pow_iff n s (by omega) hs).2 fun i _ hi => hsn i hi) ((barO_iff hG hfr).2 hB)
/-- links.Cut: the same, told in another way -/
theorem bst_cut (ok : Nat → Bool) {n k : Nat} (hs : sz k ≤ n) : (ok k = true ∧ (bst ok k < 0 ∨ sz k < sz (bst ok k).toNat)) ↔ (sz k < (if bst ok k < 0 then n + 1 else sz (bst ok k).toNat) ∧ ok k = true) := by
  split
  case isTrue c => constructor
                   · intro h; exact ⟨by omega, h.1⟩
                   · intro h; exact ⟨h.2, .inl c⟩
  case isFalse c => constructor
                    · intro h; exact ⟨h.2.resolve_left c, h.1⟩
                    · intro h; exact ⟨h.2, .inr h.1⟩

/-- a set that ways lead from to all of another one -/
noncomputable def gamB (n : Nat) (es : List (Int × Int)) (tw s : Nat) : Bool := decide (sz s = sz tw ∧ sz (barr n es s tw) = sz s)

end Go.Proofs.Ytpkjpmkmcffkhaa
