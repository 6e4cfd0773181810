
/-
  rotalaw.GreedySays: the walk.
-/
import Derived.Deep.CutRange
import Derived.Deep.CutBlock
import Derived.Test.YtjpcelldbhdneaaGrLaw
import Derived.Test.YtjpcelldbhdneaaThread
import Derived.Test.YtjpcelldbhdneaaOnes
import Derived.Deep.RegionHeld3
namespace Go.Proofs.Ytjpcelldbhdneaa
open Go.RowKit
set_option linter.unusedVariables false

theorem thread_listG {B : Nat} {W : World} (v : Later B W) (xs : List Int) (er : Int) (a b : Option Addr) (ca cb : Nat) {ls : List (Option Addr × List Int)} (hl : Lists v.val ls) (ha : (a, xs) ∈ ls) (hb : (b, xs) ∈ ls) (hlen : xs.length ≤ 4611686018427387904) (h : er ≠ 0 → xs = []) :
    Calls Try.prog 29 #[.slice a xs.length ca, .int .i64 er, .slice b xs.length cb, .int .i64 er] v.val (Thread0 B W (.bool true) ls) :=
  thread0 v (c_list (Later.self v.val) xs xs a b ca cb er er (hl _ ha) (hl _ hb) hlen rfl (by
    split
    · rfl
    · rename_i hne; exact h hne)) hl
def GrCut (V : World) (bv nv : Int) (Sl : List Int) (ls : List (Option Addr × List Int)) (x y z : Value) (w : World) : Prop := ∃ (v : Later V.heap.size V) (ad : Option Addr) (cp : Nat), w = v.val ∧ x = .int .i64 bv ∧ y = .int .i64 nv ∧ z = .slice ad Sl.length cp ∧ Lists v.val ((ad, Sl) :: ls)

set_option maxRecDepth 100000 in
set_option maxHeartbeats 40000000 in
theorem law_greedySays {B : Nat} {W : World} (u : Later B W) (n : Int) (l ws p : List Int) (a b d : Option Addr) (cap capb capd : Nat) (h : IntsAt B W a l) (hw : IntsAt B W b ws) (hp : IntsAt B W d p) (hlen : l.length ≤ 4611686018427387904) (hwl : ws.length ≤ 4611686018427387904) (hpl : p.length ≤ 4611686018427387904) :
    Calls Try.prog 9 #[.agg #[.int .i64 n, .slice a l.length cap], .slice b ws.length capb, .slice d p.length capd] u.val (Ret B W (.bool true)) := by
  obtain ⟨e, he⟩ := MatIs.ex n l
  obtain ⟨bv, nv, Sl, g, hSl, hz1, hBe, hSt, hPr, hR1⟩ := gr_pack1 n l ws a b cap capb hlen hwl e he
  obtain ⟨tv, hh, io, hz2, hhe, hh0, hFi, hIo, hG2⟩ := gr_pack2 n l p a d cap capd hlen hpl e he
  have T0 : Hid (Two (u.val.alloc (.cells #[.int .i64 n, .slice a l.length cap] 24)) u.val.heap.size 24 (.int .i64 n) (.slice a l.length cap)) := Lib.hid (Two.new _ _ _ _)
  have hrr : u.val.heap.size < (u.val.alloc (.cells #[.int .i64 n, .slice a l.length cap] 24)).heap.size := by simp
  have hI : IntsAt (u.val.alloc (.cells #[.int .i64 n, .slice a l.length cap] 24)).heap.size (u.val.alloc (.cells #[.int .i64 n, .slice a l.length cap] 24)) a l := h.to (u.alloc _)
  have HV : Hid (∀ v : Later (u.val.alloc (.cells #[.int .i64 n, .slice a l.length cap] 24)).heap.size (u.val.alloc (.cells #[.int .i64 n, .slice a l.length cap] 24)), ∃ w : Later B W, w.val = v.val) := Lib.hid (fun v => ⟨(u.alloc _).up v, rfl⟩)
  have q0 : ∀ w : Later (u.val.alloc (.cells #[.int .i64 n, .slice a l.length cap] 24)).heap.size (u.val.alloc (.cells #[.int .i64 n, .slice a l.length cap] 24)), w.val.cell? ⟨u.val.heap.size, 0, none⟩ = some (.int .i64 n) := fun w => (T0.out.keep w.below).c0
  have q1 : ∀ w : Later (u.val.alloc (.cells #[.int .i64 n, .slice a l.length cap] 24)).heap.size (u.val.alloc (.cells #[.int .i64 n, .slice a l.length cap] 24)), w.val.cell? ⟨u.val.heap.size, 1, none⟩ = some (.slice a l.length cap) := fun w => (T0.out.keep w.below).c1
  have p0 : (u.val.alloc (.cells #[.int .i64 n, .slice a l.length cap] 24)).cell? ⟨u.val.heap.size, 0, none⟩ = some (.int .i64 n) := T0.out.c0
  have p1 : (u.val.alloc (.cells #[.int .i64 n, .slice a l.length cap] 24)).cell? ⟨u.val.heap.size, 1, none⟩ = some (.slice a l.length cap) := T0.out.c1
  have hIw : IntsAt (u.val.alloc (.cells #[.int .i64 n, .slice a l.length cap] 24)).heap.size (u.val.alloc (.cells #[.int .i64 n, .slice a l.length cap] 24)) b ws := hw.to (u.alloc _)
  have hIp : IntsAt (u.val.alloc (.cells #[.int .i64 n, .slice a l.length cap] 24)).heap.size (u.val.alloc (.cells #[.int .i64 n, .slice a l.length cap] 24)) d p := hp.to (u.alloc _)
  have P1 : Hid (∀ v : Later (u.val.alloc (.cells #[.int .i64 n, .slice a l.length cap] 24)).heap.size (u.val.alloc (.cells #[.int .i64 n, .slice a l.length cap] 24)), Calls Try.prog 82 #[.agg #[.int .i64 n, .slice a l.length cap], .slice b ws.length capb] v.val (Ret v.val.heap.size v.val (.tuple #[.int .i64 bv, .int .i64 nv, .int .i64 g]))) := Lib.hid (fun v => hBe _ _ (Later.self v.val) (hI.to v) (hIw.to v))
  have P2 : Hid (∀ v : Later (u.val.alloc (.cells #[.int .i64 n, .slice a l.length cap] 24)).heap.size (u.val.alloc (.cells #[.int .i64 n, .slice a l.length cap] 24)), Calls Try.prog 83 #[.agg #[.int .i64 n, .slice a l.length cap], .slice b ws.length capb] v.val (RetP v.val.heap.size v.val (ListE Sl g))) := Lib.hid (fun v => hSt _ _ (Later.self v.val) (hI.to v) (hIw.to v))
  have P3 : Hid (∀ v : Later (u.val.alloc (.cells #[.int .i64 n, .slice a l.length cap] 24)).heap.size (u.val.alloc (.cells #[.int .i64 n, .slice a l.length cap] 24)), Calls Try.prog 84 #[.agg #[.int .i64 n, .slice a l.length cap], .slice b ws.length capb] v.val (Ret v.val.heap.size v.val (.int .i64 g))) := Lib.hid (fun v => hPr _ _ (Later.self v.val) (hI.to v) (hIw.to v))
  have P4 : Hid (g = 0 → ∃ RK : List Int, (∀ v : Later (u.val.alloc (.cells #[.int .i64 n, .slice a l.length cap] 24)).heap.size (u.val.alloc (.cells #[.int .i64 n, .slice a l.length cap] 24)), Calls Try.prog 86 #[.slice b ws.length capb] v.val (RetInts v.val.heap.size v.val RK)) ∧
      (∀ (v : Later (u.val.alloc (.cells #[.int .i64 n, .slice a l.length cap] 24)).heap.size (u.val.alloc (.cells #[.int .i64 n, .slice a l.length cap] 24))) (c : Option Addr) (cc : Nat), IntsAt v.val.heap.size v.val c RK → Calls Try.prog 85 #[.agg #[.int .i64 n, .slice a l.length cap], .slice c RK.length cc] v.val (Ret v.val.heap.size v.val (.int .i64 bv))) ∧
      (∀ v : Later (u.val.alloc (.cells #[.int .i64 n, .slice a l.length cap] 24)).heap.size (u.val.alloc (.cells #[.int .i64 n, .slice a l.length cap] 24)), Calls Try.prog 87 #[.agg #[.int .i64 n, .slice a l.length cap], .slice b ws.length capb] v.val (RetInts v.val.heap.size v.val Sl)) ∧
      (∀ v : Later (u.val.alloc (.cells #[.int .i64 n, .slice a l.length cap] 24)).heap.size (u.val.alloc (.cells #[.int .i64 n, .slice a l.length cap] 24)), Calls Try.prog 88 #[.slice b ws.length capb, .int .i64 bv] v.val (Ret v.val.heap.size v.val (.int .i64 nv)))) := Lib.hid (fun hg => by
    obtain ⟨RK, k1, k2, k3, k4⟩ := hR1 hg
    exact ⟨RK, fun v => k1 _ _ (Later.self v.val) (hIw.to v), fun v c cc hc => k2 _ _ (Later.self v.val) c cc (hI.to v) hc, fun v => k3 _ _ (Later.self v.val) (hI.to v) (hIw.to v), fun v => k4 _ _ (Later.self v.val) (hIw.to v)⟩)
  have Q1 : Hid (∀ v : Later (u.val.alloc (.cells #[.int .i64 n, .slice a l.length cap] 24)).heap.size (u.val.alloc (.cells #[.int .i64 n, .slice a l.length cap] 24)), Calls Try.prog 89 #[.agg #[.int .i64 n, .slice a l.length cap], .slice d p.length capd] v.val (Ret v.val.heap.size v.val (.tuple #[.int .i64 tv, .int .i64 hh]))) := Lib.hid (fun v => hFi _ _ (Later.self v.val) (hI.to v) (hIp.to v))
  have Q2 : Hid (∀ v : Later (u.val.alloc (.cells #[.int .i64 n, .slice a l.length cap] 24)).heap.size (u.val.alloc (.cells #[.int .i64 n, .slice a l.length cap] 24)), Calls Try.prog 13 #[.agg #[.int .i64 n, .slice a l.length cap]] v.val (Ret v.val.heap.size v.val (.int .i64 e))) := Lib.hid (fun v => c_refMatroid (Later.self v.val) n l a cap e (hI.to v) hlen he)
  have Q3 : Hid (e = 0 → ∀ v : Later (u.val.alloc (.cells #[.int .i64 n, .slice a l.length cap] 24)).heap.size (u.val.alloc (.cells #[.int .i64 n, .slice a l.length cap] 24)), Calls Try.prog 90 #[.slice d p.length capd, .int .i64 n] v.val (Ret v.val.heap.size v.val (.bool io))) := Lib.hid (fun h v => hIo h _ _ (Later.self v.val) (hIp.to v))
  have Q4 : Hid (hh = 0 → ∀ v : Later (u.val.alloc (.cells #[.int .i64 n, .slice a l.length cap] 24)).heap.size (u.val.alloc (.cells #[.int .i64 n, .slice a l.length cap] 24)), Calls Try.prog 85 #[.agg #[.int .i64 n, .slice a l.length cap], .slice d p.length capd] v.val (Ret v.val.heap.size v.val (.int .i64 tv))) := Lib.hid (fun h v => hG2 h _ _ (Later.self v.val) (hI.to v) (hIp.to v))
  have Q5 : Hid (∀ v : Later (u.val.alloc (.cells #[.int .i64 n, .slice a l.length cap] 24)).heap.size (u.val.alloc (.cells #[.int .i64 n, .slice a l.length cap] 24)), Calls Try.prog 19 #[.bool io, .int .i64 1] v.val (Ret v.val.heap.size v.val (.int .i64 (errno io 1)))) := Lib.hid (fun v => c_bad (Later.self v.val) io 1)
  have O1 : Hid (∀ v : Later (u.val.alloc (.cells #[.int .i64 n, .slice a l.length cap] 24)).heap.size (u.val.alloc (.cells #[.int .i64 n, .slice a l.length cap] 24)), Calls Try.prog 30 #[.int .i64 bv, .int .i64 g, .int .i64 bv, .int .i64 g] v.val (Ret v.val.heap.size v.val (.bool true))) := Lib.hid (fun v => c_one (Later.self v.val) bv g bv g rfl (by
    split
    · rfl
    · rename_i hne; exact (hz1 hne).1))
  have O2 : Hid (∀ v : Later (u.val.alloc (.cells #[.int .i64 n, .slice a l.length cap] 24)).heap.size (u.val.alloc (.cells #[.int .i64 n, .slice a l.length cap] 24)), Calls Try.prog 30 #[.int .i64 nv, .int .i64 g, .int .i64 nv, .int .i64 g] v.val (Ret v.val.heap.size v.val (.bool true))) := Lib.hid (fun v => c_one (Later.self v.val) nv g nv g rfl (by
    split
    · rfl
    · rename_i hne; exact (hz1 hne).2.1))
  have O3 : Hid (∀ (v : Later (u.val.alloc (.cells #[.int .i64 n, .slice a l.length cap] 24)).heap.size (u.val.alloc (.cells #[.int .i64 n, .slice a l.length cap] 24))) (y : Int), (hh = 0 → y = tv) → Calls Try.prog 30 #[.int .i64 tv, .int .i64 hh, .int .i64 y, .int .i64 hh] v.val (Ret v.val.heap.size v.val (.bool true))) := Lib.hid (fun v y hy => c_one (Later.self v.val) tv hh y hh rfl (by
    split
    · rename_i h0; exact (hy h0).symm
    · rename_i hne; exact hz2 hne))
  have HZ1 := Lib.hid hz1
  have HZe := Lib.hid hhe
  have HZ0 := Lib.hid hh0
  clear h hw hp hI hIw hIp hBe hSt hPr hR1 hFi hIo hG2 T0 hz1 hz2 hhe hh0 he hrr
  generalize l.length = ll at *
  generalize ws.length = lw at *
  generalize p.length = lp at *
  go_enter Try.func9, Try.ntmps9
  go_upto_region 1 with fail
  generalize u.val.heap.size = gu at *
  generalize u.val.alloc (.cells #[.int .i64 n, .slice a ll cap] 24) = V at *
  obtain ⟨v, hv⟩ : ∃ v : Later V.heap.size V, v.val = V := ⟨Later.self _, rfl⟩
  have hl : Lists v.val [] := Lists.nil _
  rw [← hv]
  clear hv p0 p1
  go_upto_region 4 with (first | (go_at_call 82; (with_reducible refine (thread0 v (P1.out v) hl).mono ?_); rintro e _ ⟨v, rfl, rfl, hl⟩) | (go_at_call 83; (with_reducible refine (threadE v (P2.out v) hl).mono ?_); rintro e _ ⟨v, adS, cpS, rfl, rfl, hl⟩) | (go_at_call 84; (with_reducible refine (thread0 v (P3.out v) hl).mono ?_); rintro e _ ⟨v, rfl, rfl, hl⟩))
  clear P1 P2 P3
  have HLs := Lib.hid hl
  go_upto_if 37 with fail
  go_cut [13, 14, 15] from 36 to 47 (fun x y z w => GrCut V bv nv Sl [(adS, Sl)] x y z w)
  case first => as_aux_lemma =>
    clear Q1 Q2 Q3 Q4 Q5 O1 O2 O3 HZe HZ0 HV
    by_cases hg : g = 0
    · obtain ⟨RK, k1, k2, k3, k4⟩ := P4.out hg
      have K1 : Hid (Calls Try.prog 86 #[.slice b lw capb] v.val.drew (ThreadL V.heap.size V RK [(adS, Sl)])) := Lib.hid (threadL v.drew (k1 v.drew) (HLs.out.later ((Later.self v.val).drew)))
      have K2 := Lib.hid k2
      have K3 := Lib.hid k3
      have K4 := Lib.hid k4
      subst hg
      have s0 : v.val.drew.cell? ⟨gu, 0, none⟩ = some (.int .i64 n) ∧ v.val.drew.cell? ⟨gu, 1, none⟩ = some (.slice a ll cap) := ⟨q0 v.drew, q1 v.drew⟩
      have r0 := q0
      have r1 := q1
      clear P4 k1 k2 k3 k4 HZ1 hl HLs
      go_upto_region 7 with fail
      go_region_held3 (fun w' => w'.cell? ⟨gu, 0, none⟩ = some (.int .i64 n) ∧ w'.cell? ⟨gu, 1, none⟩ = some (.slice a ll cap)) (first | exact s0 | exact ⟨r0 v2, r1 v2⟩ | exact ⟨r0 v3, r1 v3⟩ | exact ⟨r0 v4, r1 v4⟩) (first | (go_at_call 86; (with_reducible refine (K1.out).mono ?_); rintro e _ ⟨v2, ad2, cp2, rfl, rfl, hl⟩) | (go_at_call 85; (refine (thread0 v2 (K2.out v2 ad2 cp2 (hl (ad2, RK) (by simp))) hl).mono ?_); rintro e _ ⟨v3, rfl, rfl, hl⟩) | (go_at_call 87; (with_reducible refine (threadL v3 (K3.out v3) hl).mono ?_); rintro e _ ⟨v4, ad4, cp4, rfl, rfl, hl⟩))
      all_goals
        go_wp2_with (first | (go_at_call 88; (with_reducible refine (thread0 v4 (K4.out v4) hl).mono ?_); rintro e _ ⟨v5, rfl, rfl, hl⟩))
        go_meet
        case rel => exact ⟨v5, ad4, cp4, rfl, rfl, rfl, rfl, fun q hq => hl q (by
          rcases List.mem_cons.1 hq with rfl | hq
          · simp
          · have : q = (adS, Sl) := by simpa using hq
            subst this; simp)⟩
    · obtain ⟨rfl, rfl, rfl⟩ := HZ1.out hg
      have d0 : (g == 0) = false := by rw [beq_eq_false_iff_ne]; exact hg
      clear P4 HZ1 hg
      go_wp2
      go_meet
      case rel => exact ⟨v, none, 0, rfl, rfl, rfl, rfl, HLs.out.more IntsAt.nil⟩
  case rest => as_aux_lemma =>
    obtain ⟨v, adR, cpR, rfl, rfl, rfl, rfl, hl⟩ := hcut
    have hz := fun h => (HZ1.out h).2.2
    clear P4 HLs HZ1
    by_cases he : e = 0
    · subst he
      have hh0 := HZ0.out rfl
      have K3 := Lib.hid (Q3.out rfl)
      cases io
      · have hh1 : hh = 1 := hh0
        subst hh1
        have K5 : Hid (∀ v : Later V.heap.size V, Calls Try.prog 19 #[.bool false, .int .i64 1] v.val (Ret v.val.heap.size v.val (.int .i64 1))) := Q5
        have O4 := Lib.hid (fun v => O3.out v 0 (fun h => absurd h (by decide)))
        clear hh0 Q3 Q4 Q5 HZ0 HZe O3
        go_wp2_with (first | (go_at_call 30; (with_reducible refine (thread0 v (O1.out v) hl).mono ?_); rintro e _ ⟨v, rfl, rfl, hl⟩) | (go_at_call 30; (with_reducible refine (thread0 v (O2.out v) hl).mono ?_); rintro e _ ⟨v, rfl, rfl, hl⟩) | (go_at_call 29; (with_reducible refine (thread_listG v _ _ _ _ _ _ hl (by simp) (by simp) (by assumption) (by assumption)).mono ?_); rintro e _ ⟨v, rfl, rfl, hl⟩) | (go_at_call 89; (with_reducible refine (thread0 v (Q1.out v) hl).mono ?_); rintro e _ ⟨v, rfl, rfl, hl⟩) | (go_at_call 13; (with_reducible refine (thread0 v (Q2.out v) hl).mono ?_); rintro e _ ⟨v, rfl, rfl, hl⟩) | (go_at_call 90; (with_reducible refine (thread0 v (K3.out v) hl).mono ?_); rintro e _ ⟨v, rfl, rfl, hl⟩) | (go_at_call 19; (with_reducible refine (thread0 v (K5.out v) hl).mono ?_); rintro e _ ⟨v, rfl, rfl, hl⟩) | (go_at_call 30; (with_reducible refine (thread0 v (O4.out v) hl).mono ?_); rintro e _ ⟨v, rfl, rfl, hl⟩))
        go_ret
        exact Ret.of (HV.out v) rfl
      · have hh1 : hh = 0 := hh0
        subst hh1
        have K5 : Hid (∀ v : Later V.heap.size V, Calls Try.prog 19 #[.bool true, .int .i64 1] v.val (Ret v.val.heap.size v.val (.int .i64 0))) := Q5
        have K4 := Lib.hid (Q4.out rfl)
        have O4 := Lib.hid (fun v => O3.out v tv (fun _ => rfl))
        clear hh0 Q3 Q4 Q5 HZ0 HZe O3
        go_wp2_with (first | (go_at_call 30; (with_reducible refine (thread0 v (O1.out v) hl).mono ?_); rintro e _ ⟨v, rfl, rfl, hl⟩) | (go_at_call 30; (with_reducible refine (thread0 v (O2.out v) hl).mono ?_); rintro e _ ⟨v, rfl, rfl, hl⟩) | (go_at_call 29; (with_reducible refine (thread_listG v _ _ _ _ _ _ hl (by simp) (by simp) (by assumption) (by assumption)).mono ?_); rintro e _ ⟨v, rfl, rfl, hl⟩) | (go_at_call 89; (with_reducible refine (thread0 v (Q1.out v) hl).mono ?_); rintro e _ ⟨v, rfl, rfl, hl⟩) | (go_at_call 13; (with_reducible refine (thread0 v (Q2.out v) hl).mono ?_); rintro e _ ⟨v, rfl, rfl, hl⟩) | (go_at_call 90; (with_reducible refine (thread0 v (K3.out v) hl).mono ?_); rintro e _ ⟨v, rfl, rfl, hl⟩) | (go_at_call 19; (with_reducible refine (thread0 v (K5.out v) hl).mono ?_); rintro e _ ⟨v, rfl, rfl, hl⟩) | (go_at_call 85; (with_reducible refine (thread0 v (K4.out v) hl).mono ?_); rintro e _ ⟨v, rfl, rfl, hl⟩) | (go_at_call 30; (with_reducible refine (thread0 v (O4.out v) hl).mono ?_); rintro e _ ⟨v, rfl, rfl, hl⟩))
        go_ret
        exact Ret.of (HV.out v) rfl
    · have hh1 := HZe.out he
      have d0 : (e == 0) = false := by rw [beq_eq_false_iff_ne]; exact he
      have O4 := Lib.hid (fun v => O3.out v 0 (fun h => absurd (hh1.symm.trans h) he))
      subst hh1
      clear Q3 Q4 Q5 HZ0 HZe O3 he
      go_wp2_with (first | (go_at_call 30; (with_reducible refine (thread0 v (O1.out v) hl).mono ?_); rintro e _ ⟨v, rfl, rfl, hl⟩) | (go_at_call 30; (with_reducible refine (thread0 v (O2.out v) hl).mono ?_); rintro e _ ⟨v, rfl, rfl, hl⟩) | (go_at_call 29; (with_reducible refine (thread_listG v _ _ _ _ _ _ hl (by simp) (by simp) (by assumption) (by assumption)).mono ?_); rintro e _ ⟨v, rfl, rfl, hl⟩) | (go_at_call 89; (with_reducible refine (thread0 v (Q1.out v) hl).mono ?_); rintro e _ ⟨v, rfl, rfl, hl⟩) | (go_at_call 13; (with_reducible refine (thread0 v (Q2.out v) hl).mono ?_); rintro e _ ⟨v, rfl, rfl, hl⟩) | (go_at_call 30; (with_reducible refine (thread0 v (O4.out v) hl).mono ?_); rintro e _ ⟨v, rfl, rfl, hl⟩))
      go_ret
      exact Ret.of (HV.out v) rfl

end Go.Proofs.Ytjpcelldbhdneaa
