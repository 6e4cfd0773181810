
/-
  rotalaw.MinorsMakes, whatever it is handed.
  What is handed in, opened: a list of numbers, a graph, a matroid. Nothing of the program is proved here.
-/
import Derived.Test.YtefkhnibempibaaPk42
import Derived.Test.YtefkhnibempibaaPk02
import Derived.SizedLaws
import Derived.Carry
namespace Go.Proofs.Ytefkhnibempibaa
open Go.RowKit
set_option linter.unusedVariables false

theorem zif_no {e : Int} : ZIf e 0 [] := fun _ => ⟨rfl, rfl⟩
theorem zif_ok {n : Int} {xs : List Int} : ZIf 0 n xs := fun h => absurd rfl h
theorem those_len4 {q : Nat} (p : Nat → Bool) (hq : q ≤ 8) : (ints (those q p)).length ≤ 4611686018427387904 := by
  rw [ints_len]
  have h1 := thoseTo_len p (bit q)
  have h2 := bit_le q hq
  have e : those q p = thoseTo p (bit q) := rfl
  rw [e]; omega

theorem law_minorsMakes {B : Nat} {W : World} (u : Later B W) (n1 s n2 : Int) (l1 l2 : List Int) (a b : Option Addr) (cap capb : Nat) (hi1 : IntsAt B W a l1) (hi2 : IntsAt B W b l2) (hlen1 : l1.length ≤ 4611686018427387904) (hlen2 : l2.length ≤ 4611686018427387904) :
    Calls Try.prog 3 #[.agg #[.int .i64 n1, .slice a l1.length cap], .agg #[.int .i64 n2, .slice b l2.length capb], .int .i64 s] u.val (Ret B W (.bool true)) := by
  obtain ⟨e1, he1⟩ := MatIs.ex n1 l1
  obtain ⟨e2, he2⟩ := MatIs.ex n2 l2
  by_cases h0 : e1 = 0
  case neg =>
    have z4 : ([] : List Int).length ≤ 4611686018427387904 := Nat.zero_le _
    exact law_mk u n1 s n2 l1 l2 a b cap capb hi1 hi2 hlen1 hlen2 e1 e2 e1 e1 e1 0 e1 (decide (s ∈ ([] : List Int))) (decide (s ∈ ([] : List Int))) [] [] 0 0 0 0 [] [] [] [] [] []
      { m1 := he1, m2 := he2, f1y := fun c => absurd c h0, f1n := fun _ => rfl, fb := fun c => absurd c h0, fy := fun c => absurd c.1 h0, fn := fun _ => rfl, gn := fun _ => rfl, gy := fun c => absurd c h0, hn := fun _ => rfl, h0y := fun c => absurd c h0, h1 := fun c => absurd c h0, h2 := fun c => absurd c h0, lens := ⟨z4, z4, z4, z4, z4, z4⟩, lenc := ⟨z4, z4⟩, zS := zif_no, zF := zif_no, zR := zif_no, zZ := zif_no, zC := fun _ => ⟨rfl, rfl⟩, okc := rfl, okh := rfl, nR1 := fun c => absurd c h0,
        pS := fun B W v hI hJ => c_minSum_no v n1 n2 l1 l2 a b cap capb e1 e2 e1 hI hJ hlen1 hlen2 he1 he2 (.inl ⟨h0, rfl⟩),
        pF := fun B W v hI => c_minFree_no v n1 l1 a cap e1 e1 hI hlen1 he1 (.inl ⟨h0, rfl⟩),
        pR := fun B W v hI => c_minRelax_no v n1 s l1 a cap e1 hI h0 (fun B W v hI => c_right_no v n1 s l1 a cap e1 hI hlen1 he1 h0),
        pC := fun B W v hI => c_minClasses_no v n1 l1 a cap e1 hI hlen1 he1 h0,
        pP := fun B W v hI => c_minComps_no v n1 l1 a cap e1 hI hlen1 he1 h0,
        pZ := fun B W v hI => c_minSimple_no v n1 l1 a cap e1 hI hlen1 he1 h0,
        rCi := fun c => absurd c h0, rHy := fun c => absurd c h0, rC := fun c => absurd c h0, rP := fun c => absurd c h0, rZ := fun c => absurd c h0, rS := fun c => absurd c h0, rF := fun c => absurd c h0, rR := fun c => absurd c h0 }
  subst h0
  obtain ⟨m, L, rfl, hm, rfl, hTN⟩ := mat_open he1
  have hM := IsMat.of he1 hTN
  have hbm := bit_le m hm
  have h256 : ∀ b, b ∈ L → b < 256 := fun b hb => by have := hM.lt b hb; omega
  have hL2 : L.length ≤ 1024 := by have := fam_card hm hM.isfam; omega
  have hLl : L.length ≤ 4611686018427387904 := by omega
  have z4 : ([] : List Int).length ≤ 4611686018427387904 := Nat.zero_le _
  -- Sum
  obtain ⟨f, nS, xS, hfb, hfy, hfn, hlS, hzS, hpS, hrS⟩ : ∃ (f nS : Int) (xS : List Int), (e2 = 0 → 0 ≤ (m : Int) ∧ (m : Int) ≤ 8 ∧ 0 ≤ n2 ∧ n2 ≤ 8) ∧ (e2 = 0 ∧ 8 < (m : Int) + n2 → f = 2) ∧ (¬ (e2 = 0 ∧ 8 < (m : Int) + n2) → f = e2) ∧ xS.length ≤ 4611686018427387904 ∧ ZIf f nS xS ∧
      (∀ (B : Nat) (W : World) (v : Later B W), IntsAt B W a (ints L) → IntsAt B W b l2 → Calls Try.prog 17 #[.agg #[.int .i64 m, .slice a (ints L).length cap], .agg #[.int .i64 n2, .slice b l2.length capb]] v.val (RetP B W (MatTO B nS xS f))) ∧
      (f = 0 → ∀ (B : Nat) (W : World) (v : Later B W), IntsAt B W a (ints L) → IntsAt B W b l2 → Calls Try.prog 13 #[.agg #[.int .i64 m, .slice a (ints L).length cap], .agg #[.int .i64 n2, .slice b l2.length capb]] v.val (RetP B W (MatO B nS xS))) := by
    by_cases c2 : e2 = 0
    case neg =>
      exact ⟨e2, 0, [], fun c => absurd c c2, fun c => absurd c.1 c2, fun _ => rfl, z4, zif_no, fun B W v hI hJ => c_minSum_no v m n2 (ints L) l2 a b cap capb 0 e2 e2 hI hJ hlen1 hlen2 he1 he2 (.inr (.inl ⟨rfl, c2, rfl⟩)), fun c => absurd c c2⟩
    subst c2
    obtain ⟨k, L2, rfl, hk, rfl, hTN2⟩ := mat_open he2
    have hM2 := IsMat.of he2 hTN2
    have hbk := bit_le k hk
    have hL22 : L2.length ≤ 1024 := by have := fam_card hk hM2.isfam; omega
    by_cases c3 : m + k ≤ 8
    · refine ⟨0, ((m + k : Nat) : Int), ints (those (m + k) (memB (sumL m L L2))), fun _ => by omega, fun c => by omega, fun _ => rfl, those_len4 _ c3, zif_ok, fun B W v hI hJ => c_minSum v m k c3 L L2 hM.lt hM2.lt hL2 hL22 a b cap capb hI hJ he1 he2, fun _ B W v hI hJ => ?_⟩
      rw [sum_same c3 hM.ne hM2.ne hM.fam hM2.fam hM.lt hM2.lt]
      exact c_refSummed v m k c3 L L2 a b cap capb hI hJ hlen1 hlen2 hM.isfam hM2.isfam hTN hTN2
    · exact ⟨2, 0, [], fun _ => by omega, fun _ => rfl, fun c => absurd ⟨rfl, by omega⟩ c, z4, zif_no, fun B W v hI hJ => c_minSum_no v m k (ints L) (ints L2) a b cap capb 0 0 2 hI hJ hlen1 hlen2 he1 he2 (.inr (.inr ⟨rfl, rfl, by omega, by omega, by omega, by omega, by omega, rfl⟩)), fun c => absurd c (by decide)⟩
  -- Free
  obtain ⟨g, nF, xF, hg, hlF, hzF, hpF, hrF⟩ : ∃ (g nF : Int) (xF : List Int), g = errno (decide ((m : Int) < 8)) 2 ∧ xF.length ≤ 4611686018427387904 ∧ ZIf g nF xF ∧
      (∀ (B : Nat) (W : World) (v : Later B W), IntsAt B W a (ints L) → Calls Try.prog 18 #[.agg #[.int .i64 m, .slice a (ints L).length cap]] v.val (RetP B W (MatTO B nF xF g))) ∧
      (g = 0 → ∀ (B : Nat) (W : World) (v : Later B W), IntsAt B W a (ints L) → Calls Try.prog 14 #[.agg #[.int .i64 m, .slice a (ints L).length cap]] v.val (RetP B W (MatO B nF xF))) := by
    by_cases c : m < 8
    · refine ⟨0, ((m + 1 : Nat) : Int), ints (those (m + 1) (memB (freeL m L))), errno_ok (by omega), those_len4 _ (by omega), zif_ok, fun B W v hI => c_minFree v m c L hM.lt hL2 a cap hI he1, fun _ B W v hI => ?_⟩
      rw [free_same c hM.ne hM.fam hM.lt]
      exact c_refFreed v m c L a cap hI hlen1 hM.isfam hTN
    · exact ⟨2, 0, [], errno_bad (by omega), z4, zif_no, fun B W v hI => c_minFree_no v m (ints L) a cap 0 2 hI hlen1 he1 (.inr ⟨rfl, by omega, rfl⟩), fun c => absurd c (by decide)⟩
  -- Relax
  have eC := circ_same hm hM.ne
  have eH := hyp_same hm hM.ne hM.fam hM.lt
  obtain ⟨h0, h, nR, xR, hh0, hh1, hh2, hlR, hzR, hnR, hpR, hrR⟩ : ∃ (h0 h nR : Int) (xR : List Int), h0 = errno (decide (isSet (m : Int) s)) 1 ∧ (h0 ≠ 0 → h = h0) ∧ (h0 = 0 → h = errno (decide (s ∈ ints (those m (circB m L))) && decide (s ∈ ints (those m (mostB (those m (spanR L)))))) 3) ∧ xR.length ≤ 4611686018427387904 ∧ ZIf h nR xR ∧ (h = 0 → nR = (m : Int)) ∧
      (∀ (B : Nat) (W : World) (v : Later B W), IntsAt B W a (ints L) → Calls Try.prog 19 #[.agg #[.int .i64 m, .slice a (ints L).length cap], .int .i64 s] v.val (RetP B W (MatTO B nR xR h))) ∧
      (h = 0 → ∀ (B : Nat) (W : World) (v : Later B W), ∀ gs gm : Nat, gs < B → gm < B → W.cell? ⟨gs, 0, none⟩ = some (.int .i64 s) → W.cell? ⟨gm, 1, none⟩ = some (.slice a (ints L).length cap) → IntsAt B W a (ints L) → Calls Try.prog 15 #[.int .i64 m, .func (.func 16) #[] #[.pointer (some ⟨gs, 0, none⟩), .pointer (some ⟨gm, 0, none⟩)]] v.val (RetOwn B W xR)) := by
    by_cases hs : isSet (m : Int) s
    case neg =>
      have hR : ∀ (B : Nat) (W : World) (v : Later B W), IntsAt B W a (ints L) → Calls Try.prog 47 #[.agg #[.int .i64 m, .slice a (ints L).length cap], .int .i64 s] v.val (Ret B W (.int .i64 1)) := fun B W v hI => by
        have := c_right v m s (ints L) a cap hI hlen1 he1
        rwa [decide_eq_false hs] at this
      exact ⟨1, 1, 0, [], errno_bad hs, fun _ => rfl, fun c => absurd c (by decide), z4, zif_no, fun c => absurd c (by decide), fun B W v hI => c_minRelax_no v m s (ints L) a cap 1 hI (by decide) hR, fun c => absurd c (by decide)⟩
    obtain ⟨s', rfl⟩ := Int.eq_ofNat_of_zero_le hs.2.2.1
    have hs' : s' < bit m := by have := hs.2.2.2; rw [all_nat] at this; omega
    have m1 : ((s' : Int) ∈ ints (those m (circB m L))) ↔ s' ∈ those m (circP L) := by rw [mem_ints, eC]
    have m2 : ((s' : Int) ∈ ints (those m (mostB (those m (spanR L))))) ↔ s' ∈ those m (hypP m L) := by rw [mem_ints, eH]
    by_cases hb : s' ∈ those m (circP L) ∧ s' ∈ those m (hypP m L)
    · refine ⟨0, 0, m, ints (those m (memB (L ++ [s']))), errno_ok hs, fun c => absurd rfl c, fun _ => by rw [decide_eq_true (m1.2 hb.1), decide_eq_true (m2.2 hb.2)]; rfl, those_len4 _ hm, zif_ok, fun _ => rfl, fun B W v hI => c_minRelax v m hm s' hs' L hM.lt hL2 a cap hI he1 m _ 0 (.inl ⟨hb.1, hb.2, rfl, rfl, rfl⟩), fun _ B W v gs gm h1 h2 h3 h4 hI => ?_⟩
      refine c_those_own v m hm 16 _ (memB (L ++ [s'])) (fun args w => by kernel_rfl) (fun x y t ht => ?_)
      have hx := x.size
      exact c_relTell y L t s' m a cap gs gm (by omega) (by omega) (by rw [x.cell (a := ⟨gs, 0, none⟩) h1]; exact h3) (by rw [x.cell (a := ⟨gm, 1, none⟩) h2]; exact h4) hlen1 (hI.to x)
    · refine ⟨0, 3, 0, [], errno_ok hs, fun c => absurd rfl c, fun _ => ?_, z4, zif_no, fun c => absurd c (by decide), fun B W v hI => c_minRelax v m hm s' hs' L hM.lt hL2 a cap hI he1 0 [] 3 (.inr ⟨hb, rfl, rfl, rfl⟩), fun c => absurd c (by decide)⟩
      have e : (decide ((s' : Int) ∈ ints (those m (circB m L))) && decide ((s' : Int) ∈ ints (those m (mostB (those m (spanR L)))))) = false := by
        rw [Bool.eq_false_iff]; intro c
        rw [Bool.and_eq_true, decide_eq_true_eq, decide_eq_true_eq] at c
        exact hb ⟨m1.1 c.1, m2.1 c.2⟩
      rw [e]; rfl
  have hcn := cnt_le (rgT L m) m
  have hrg := rgT_lt L (m := m) m (Nat.le_refl _)
  exact law_mk u m s n2 (ints L) l2 a b cap capb hi1 hi2 hlen1 hlen2 0 e2 e2 f g h0 h _ _ (ints (those m (circB m L))) (ints (those m (mostB (those m (spanR L))))) nS nF nR (cnt (rgT L m) m : Nat) xS xF xR (ints (those (cnt (rgT L m) m) (memB (delL m L (rgT L m))))) (ints (those m (clsP m L))) (ints (those m (memB (cmpL m L))))
      { m1 := he1, m2 := he2, f1y := fun _ => rfl, f1n := fun c => absurd rfl c, fb := hfb, fy := hfy, fn := hfn, gn := fun c => absurd rfl c, gy := fun _ => hg, hn := fun c => absurd rfl c, h0y := fun _ => hh0, h1 := fun _ => hh1, h2 := fun _ => hh2, lens := ⟨hlS, hlF, hlR, those_len4 _ (by omega), those_len4 _ hm, those_len4 _ hm⟩, lenc := ⟨those_len4 _ hm, those_len4 _ hm⟩, zS := hzS, zF := hzF, zR := hzR, zZ := zif_ok, zC := fun c => absurd rfl c, okc := rfl, okh := rfl, nR1 := hnR,
        pS := hpS, pF := hpF, pR := hpR,
        pC := fun B W v hI => listE_of (c_minClasses v m _ hm L hM.ne hM.fam hM.exch a cap hI hlen1 he1),
        pP := fun B W v hI => listE_of (c_minComps v m _ hm L hM.ne hM.fam hM.exch hM.lt a cap hI hlen1 he1),
        pZ := fun B W v hI => c_minSimple v m _ hm L hM.ne hM.fam hM.exch hM.lt hL2 a cap hI he1,
        rCi := fun _ B W v hI => c_circuits v m hm L h256 hLl a cap hI,
        rHy := fun _ B W v hI => c_refHyper v m hm L h256 hLl a cap hI,
        rC := fun _ B W v hI => c_refClasses v m hm L a cap hI hlen1 hM.isfam hTN,
        rP := fun _ B W v hI => by rw [comp_same hm hM.ne hM.fam hM.exch hM.lt]; exact c_refComps v m hm L a cap hI hlen1 hM.isfam hTN,
        rZ := fun _ B W v hI => by rw [del_same hm hM.ne hM.fam hM.lt hrg]; exact c_refSimple v m hm L a cap hI hlen1 hM.isfam hTN,
        rS := hrS, rF := hrF, rR := hrR }

end Go.Proofs.Ytefkhnibempibaa

namespace Go.Proofs.Ytefkhnibempibaa
open Go.ChangeShapes Go.WideShapes Go.ChangeAt Go.RowKit Go.Deep Go.Joins
set_option linter.unusedVariables false

theorem prog_own : ownKnob Try.prog.godebug = none := by kernel_rfl
theorem prog_laid : laidOutB Try.prog = true := by kernel_rfl
theorem prog_int8 : Try.prog.bytesOf 3 = 8 := by kernel_rfl

theorem weighs {H : Type} {P : Program} {ts : List TypeId} {ds : List (DataW H)} (h : (DataW.weightsEach P ts ds).all (· ≤ reachBytes) = true) {j : Nat} {t : TypeId} {d : DataW H} (ht : ts[j]? = some t) (hd : ds[j]? = some d) : ∀ n ∈ d.weights P t, n ≤ reachBytes := fun n hn => by
  simpa using List.all_eq_true.1 h _ (DataW.weights_mem_each ht hd n hn)

section
variable {H : Type} {enc : TypeId × Value → H} {W : World}

theorem cells_ints {fuel : Nat} {cs : List Value} {x : DataW H × List MemPlace} (h : DataW.trod enc Try.prog W 0 (fun _ => true) true fuel 22 cs = some x) (hw : ∀ n ∈ x.1.weights Try.prog 22, n ≤ reachBytes) :
    ∃ (xs : List Int) (ad : Option Addr) (cap : Nat), cs = [.slice ad xs.length cap] ∧ IntsAt W.heap.size W ad xs ∧ xs.length ≤ 17592186044416 ∧ (ad = none → cap = 0) ∧ xs.length ≤ cap := by
  have hlt := DataW.trod_lt fuel _ _ _ h
  rcases open_ints Try.underlying22 Try.underlying3 (by kernel_rfl) h with ⟨rfl, rfl⟩ | ⟨a, l, c, zs, rfl, _, hl, hm, hz, rfl, hcell, hwz⟩
  · exact ⟨[], none, 0, rfl, IntsAt.nil, by simp, fun _ => rfl, Nat.le_refl _⟩
  · simp only [if_true] at hz
    have hreach := hw ((lits IntKind.i64 (zs.take l)).length * 8 + (lits IntKind.i64 (zs.drop l)).length * 8) (by
      simp only [DataW.weights, Try.underlying22, prog_int8]
      rw [← Nat.add_mul]
      exact List.mem_cons_self)
    simp only [lits, List.length_map, List.length_take, List.length_drop, reachBytes] at hreach
    have hlen : (zs.take l).length = l := by simp; omega
    refine ⟨zs.take l, some a, c, by rw [hlen], IntsAt.of_cells (ps := []) (by simpa using hlt) hz hcell, by rw [hlen]; omega, (fun h => by cases h), by rw [hlen]; exact hl⟩


set_option maxRecDepth 100000 in
/-- an argument: a list of numbers -/
theorem arg_ints {base : Nat} {v : Value} {d : DataW H} {ps : List MemPlace} (hv : Value.okWide Try.prog W .any base 22 v) (h : DataW.Trod enc Try.prog W 0 (fun _ => true) true 22 v d ps) (hw : ∀ n ∈ d.weights Try.prog 22, n ≤ reachBytes) :
    ∃ (xs : List Int) (ad : Option Addr) (cap : Nat), v = .slice ad xs.length cap ∧ IntsAt W.heap.size W ad xs ∧ xs.length ≤ 17592186044416 ∧ xs.length ≤ cap := by
  obtain ⟨a1, len1, cap1, rfl⟩ := okWide_slice Try.underlying22 hv
  obtain ⟨fuel, hf⟩ := h
  obtain ⟨xs, ad, cap, e, h1, h2, _, h3⟩ := cells_ints hf hw
  simp only [Value.cells, List.cons.injEq, and_true] at e
  exact ⟨xs, ad, cap, e, h1, h2, h3⟩



set_option maxRecDepth 100000 in
/-- an argument: a matroid -/
theorem arg_matroid {base : Nat} {v : Value} {d : DataW H} {ps : List MemPlace} (hv : Value.okWide Try.prog W .any base 24 v) (h : DataW.Trod enc Try.prog W 0 (fun _ => true) true 24 v d ps) (hw : ∀ n ∈ d.weights Try.prog 24, n ≤ reachBytes) :
    ∃ (n : Int) (xs : List Int) (ad : Option Addr) (cap : Nat), v = .agg #[.int .i64 n, .slice ad xs.length cap] ∧ IntsAt W.heap.size W ad xs ∧ xs.length ≤ 17592186044416 := by
  obtain ⟨v0, v1, y0, y1, n, rfl, rfl, rfl, h0, h1⟩ := open_agg2 Try.underlying24 (by kernel_rfl) (by kernel_rfl) hv h
  obtain ⟨z0, e0, _, _⟩ := DataW.trod_int Try.underlying3 h0
  obtain ⟨xs, ad, cap, e1, h2, h3, _⟩ := cells_ints h1 (fun m hm => hw m (by
    simp only [DataW.weights, Try.underlying24, DataW.weightsEach, List.map_cons, List.map_nil, List.mem_append]
    exact .inr (.inl hm)))
  simp only [List.cons.injEq, and_true] at e0 e1
  exact ⟨z0, xs, ad, cap, by rw [e0, e1], h2, h3⟩

end
/-- a whole number that is well formed is below 2^63 -/
theorem wf_lt {a : Int} (h : (Lit.int .i64 a).wf = true) : a < 9223372036854775808 := by
  simp only [Lit.wf, Bool.and_eq_true, decide_eq_true_eq] at h
  have hm : IntKind.i64.max = 9223372036854775807 := by decide
  omega

end Go.Proofs.Ytefkhnibempibaa
