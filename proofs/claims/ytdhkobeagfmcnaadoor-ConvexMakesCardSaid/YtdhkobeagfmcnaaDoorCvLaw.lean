
/-
  rotalaw.ConvexMakes returns true, whatever it is handed, where the library's table lies as it is laid.
-/
import Derived.Test.YtdhkobeagfmcnaaDoorCvN
import Derived.Test.YtdhkobeagfmcnaaDoorIsGraph
import Derived.Deep.CutRange
import Derived.Deep.CutBlock
namespace Go.Proofs.YtdhkobeagfmcnaaDoor
open Go.RowKit
set_option linter.unusedVariables false

def edgeErr (n : Int) (es : List (Int × Int)) (k : Nat) : Int := if (0 ≤ n ∧ n ≤ 8) ∧ edgesTo n es k then 0 else 1
theorem edgeErr_zero (n : Int) (es : List (Int × Int)) : edgeErr n es 0 = errno (decide (0 ≤ n ∧ n ≤ 8)) 1 := by
  unfold edgeErr
  by_cases h : 0 ≤ n ∧ n ≤ 8
  · rw [if_pos ⟨h, fun i hi => by omega⟩, decide_eq_true h]; rfl
  · rw [if_neg (fun c => h c.1), decide_eq_false h]; rfl
theorem edgeErr_more (n : Int) (es : List (Int × Int)) (k : Nat) (h1 : 0 ≤ (es.getD k (0,0)).1) (h2 : 0 ≤ (es.getD k (0,0)).2) (h3 : (es.getD k (0,0)).1 < n) (h4 : (es.getD k (0,0)).2 < n) : edgeErr n es (k+1) = edgeErr n es k := by
  unfold edgeErr
  by_cases h : (0 ≤ n ∧ n ≤ 8) ∧ edgesTo n es k
  · rw [if_pos h, if_pos ⟨h.1, edgesTo_step h.2 h1 h2 h3 h4⟩]
  · rw [if_neg h, if_neg (fun c => h ⟨c.1, fun i hi => c.2 i (by omega)⟩)]
theorem edgeErr_bad (n : Int) (es : List (Int × Int)) (k : Nat) (h : ¬ (0 ≤ (es.getD k (0,0)).1 ∧ 0 ≤ (es.getD k (0,0)).2 ∧ (es.getD k (0,0)).1 < n ∧ (es.getD k (0,0)).2 < n)) : edgeErr n es (k+1) = 1 := by
  unfold edgeErr
  rw [if_neg (fun c => h (c.2 k (by omega)))]

/-- a number, in a later world -/
def EAt (V : World) (e : Int) (y : Value) (w : World) : Prop := y = .int .i64 e ∧ ∃ v : Later V.heap.size V, w = v.val
/-- a reference's list and an error: where the error is none, the list is this -/
def LAtE (V : World) (L : List Int) (e : Int) (x y : Value) (w : World) : Prop := y = .int .i64 e ∧ ∃ (M : List Int) (ad : Option Addr) (cp : Nat) (v : Later V.heap.size V), (e = 0 → M = L) ∧ x = .slice ad M.length cp ∧ w = v.val ∧ IntsAt v.val.heap.size v.val ad M
def LAt (V : World) (L : List Int) (e : Int) (x : Value) (w : World) : Prop := LAtE V L e x (.int .i64 e) w

set_option maxRecDepth 100000 in
set_option maxHeartbeats 40000000 in
theorem law_convexMakes {B : Nat} {W : World} (u : Later B W) (hD : Dbr B W) (n gn : Int) (es gs : List (Int × Int)) (a b : Option Addr) (cap capb : Nat) (he : EdgesAt B W a es) (hg : EdgesAt B W b gs) (hlen : es.length ≤ 4611686018427387904) (hgl : gs.length ≤ 4611686018427387904) :
    Calls Tryd.prog 3 #[.int .i64 n, .slice a es.length cap, .agg #[.int .i64 gn, .slice b gs.length capb]] u.val (Ret B W (.bool true)) := by
  obtain ⟨CL, e, hce, hcl, hc0, hKC, hRC⟩ := line_any n
  obtain ⟨AL, ok, f, hal, ha0, ha1, hfe, hKA, hRA⟩ := ord_any (es := es) n hlen
  obtain ⟨BL, h, hbl, hb0, hb1, hKB, hRB, hIB⟩ := tree_any (es := gs) gn hgl
  have T0 : Two (u.val.alloc (.cells #[.int .i64 gn, .slice b gs.length capb] 24)) u.val.heap.size 24 (.int .i64 gn) (.slice b gs.length capb) := Two.new _ _ _ _
  have HV : Hid (∀ v : Later (u.val.alloc (.cells #[.int .i64 gn, .slice b gs.length capb] 24)).heap.size (u.val.alloc (.cells #[.int .i64 gn, .slice b gs.length capb] 24)), ∃ w : Later B W, w.val = v.val) := Lib.hid (fun v => ⟨(u.alloc _).up v, rfl⟩)
  have HE : Hid (EdgesAt (u.val.alloc (.cells #[.int .i64 gn, .slice b gs.length capb] 24)).heap.size (u.val.alloc (.cells #[.int .i64 gn, .slice b gs.length capb] 24)) a es) := Lib.hid (he.to (u.alloc _))
  have HG : Hid (EdgesAt (u.val.alloc (.cells #[.int .i64 gn, .slice b gs.length capb] 24)).heap.size (u.val.alloc (.cells #[.int .i64 gn, .slice b gs.length capb] 24)) b gs) := Lib.hid (hg.to (u.alloc _))
  have HD : Hid (Dbr (u.val.alloc (.cells #[.int .i64 gn, .slice b gs.length capb] 24)).heap.size (u.val.alloc (.cells #[.int .i64 gn, .slice b gs.length capb] 24))) := Lib.hid ⟨Nat.lt_of_lt_of_le hD.1 (u.alloc _).size, fun i hi => hD.cell (u.alloc _) hi⟩
  have Q0 : Hid (∀ w : Later (u.val.alloc (.cells #[.int .i64 gn, .slice b gs.length capb] 24)).heap.size (u.val.alloc (.cells #[.int .i64 gn, .slice b gs.length capb] 24)), w.val.cell? ⟨u.val.heap.size, 0, none⟩ = some (.int .i64 gn)) := Lib.hid (fun w => (T0.keep w.below).c0)
  have Q1 : Hid (∀ w : Later (u.val.alloc (.cells #[.int .i64 gn, .slice b gs.length capb] 24)).heap.size (u.val.alloc (.cells #[.int .i64 gn, .slice b gs.length capb] 24)), w.val.cell? ⟨u.val.heap.size, 1, none⟩ = some (.slice b gs.length capb)) := Lib.hid (fun w => (T0.keep w.below).c1)
  have KB0 : Hid (∀ (v : Later (u.val.alloc (.cells #[.int .i64 gn, .slice b gs.length capb] 24)).heap.size (u.val.alloc (.cells #[.int .i64 gn, .slice b gs.length capb] 24))), Calls Tryd.prog 4 #[.bool (decide (0 ≤ n ∧ n ≤ 8)), .int .i64 1] v.val (Ret (u.val.alloc (.cells #[.int .i64 gn, .slice b gs.length capb] 24)).heap.size (u.val.alloc (.cells #[.int .i64 gn, .slice b gs.length capb] 24)) (.int .i64 e))) := Lib.hid (fun v => by rw [hce]; exact c_bad v _ 1)
  obtain ⟨F, hF⟩ : ∃ F, F = (if f = 0 then errno ok 3 else f) := ⟨_, rfl⟩
  rw [← hF] at hKA
  have HF0 : Hid (f = 0 → F = errno ok 3) := Lib.hid (fun c => by rw [hF, if_pos c])
  have HF1 : Hid (f ≠ 0 → F = f) := Lib.hid (fun c => by rw [hF, if_neg c])
  have HFA : Hid (F ≠ 0 → AL = []) := Lib.hid (fun c => by
    by_cases c0 : f = 0
    · rw [hF, if_pos c0] at c
      cases ok
      · exact ha1 rfl
      · exact absurd rfl c
    · exact (ha0 c0).2)
  clear hF
  have HCL := Lib.hid hcl
  have HAL := Lib.hid hal
  have HBL := Lib.hid hbl
  have HC0 := Lib.hid hc0
  have HA0 := Lib.hid ha0
  have HA1 := Lib.hid ha1
  have HB0 := Lib.hid hb0
  have HB1 := Lib.hid hb1
  have KC := Lib.hid hKC
  have KA := Lib.hid hKA
  have KT := Lib.hid hKB
  have RC := Lib.hid hRC
  have RA := Lib.hid hRA
  have RB := Lib.hid hRB
  have HIB := Lib.hid hIB
  have HE0 : Hid (edgeErr n es 0 = e) := Lib.hid (by rw [edgeErr_zero, hce])
  have HE1 : Hid (edgeErr n es es.length = f) := Lib.hid hfe.symm
  have HEm := Lib.hid (edgeErr_more n es)
  have HEb := Lib.hid (edgeErr_bad n es)
  have HGl := Lib.hid hgl
  have HEl := Lib.hid hlen
  clear hcl hal hbl hc0 ha0 ha1 hb0 hb1 hKC hKA hKB hRC hRA hRB hIB hD he hg T0 hfe hce hlen hgl
  generalize edgeErr n es = fT at *
  go_enter Tryd.func3, Tryd.ntmps3
  go_upto_region 1 with fail
  obtain ⟨y, hy⟩ : ∃ y : Later (u.val.alloc (.cells #[.int .i64 gn, .slice b gs.length capb] 24)).heap.size (u.val.alloc (.cells #[.int .i64 gn, .slice b gs.length capb] 24)), y.val = (u.val.alloc (.cells #[.int .i64 gn, .slice b gs.length capb] 24)) := ⟨Later.self _, rfl⟩
  rw [← hy]
  clear hy
  generalize (u.val.alloc (.cells #[.int .i64 gn, .slice b gs.length capb] 24)) = W1 at *
  generalize u.val.heap.size = g0 at *
  clear u
  go_cut [7] from 21 to 27 (fun e7 w => EAt W1 e e7 w)
  case first => as_aux_lemma =>
    clear HE HG HD Q0 Q1 KC KA KT RC RA RB HIB HE0 HE1 HEm HEb HCL HAL HBL HC0 HA0 HA1 HB0 HB1 HGl HEl HV
    rcases ile 0 n with ⟨g1, d1⟩ | ⟨g1, d1⟩
    · rcases ile n 8 with ⟨g2, d2⟩ | ⟨g2, d2⟩
      · have hd : decide (0 ≤ n ∧ n ≤ 8) = true := decide_eq_true ⟨g1, g2⟩
        rw [hd] at KB0
        go_wp2_with (first | (go_at_call 4; (with_reducible refine (KB0.out _).mono ?_); rintro e _ ⟨rfl, v1, rfl⟩))
        go_meet
        case rel => exact ⟨rfl, v1, rfl⟩
      · have hd : decide (0 ≤ n ∧ n ≤ 8) = false := decide_eq_false (by omega)
        rw [hd] at KB0
        go_wp2_with (first | (go_at_call 4; (with_reducible refine (KB0.out _).mono ?_); rintro e _ ⟨rfl, v1, rfl⟩))
        go_meet
        case rel => exact ⟨rfl, v1, rfl⟩
    · have hd : decide (0 ≤ n ∧ n ≤ 8) = false := decide_eq_false (by omega)
      rw [hd] at KB0
      go_wp2_with (first | (go_at_call 4; (with_reducible refine (KB0.out _).mono ?_); rintro e _ ⟨rfl, v1, rfl⟩))
      go_meet
      case rel => exact ⟨rfl, v1, rfl⟩
  case rest => as_aux_lemma =>
  obtain ⟨rfl, v1, rfl⟩ := hcut
  clear KB0 y
  go_wp2
  go_loopw [8, 31] (fun f8 i wr => ∃ (k : Nat) (v : Later W1.heap.size W1), k ≤ es.length ∧ i = .int .i64 k ∧ f8 = .int .i64 (fT k) ∧ wr = v.val) (fun _ i _ => es.length - (intOf i).toNat)
  case atStart => exact ⟨0, v1, by omega, rfl, by rw [HE0.out], rfl⟩
  case round =>
    clear v1
    obtain ⟨k, v, hk, rfl, rfl, rfl⟩ := hrel
    by_cases hlt : k < es.length
    ·
      clear HG HD Q0 Q1 KC KA KT RC RA RB HIB HE0 HE1 HCL HAL HBL HC0 HA0 HA1 HB0 HB1 HGl
      obtain ⟨be, offe, rfl, hbe, hce⟩ := HE.out.at (k := k) hlt
      have c0 : ∀ w : Later W1.heap.size W1, w.val.cell? ⟨be, offe + k * 2, none⟩ = some (.int .i64 (es.getD k (0,0)).1) := fun w => (hce w k hlt).1
      have c1 : ∀ w : Later W1.heap.size W1, w.val.cell? ⟨be, offe + k * 2 + 1, none⟩ = some (.int .i64 (es.getD k (0,0)).2) := fun w => (hce w k hlt).2
      have HM := Lib.hid (HEm.out k)
      have HB := Lib.hid (HEb.out k)
      have HEl2 := HEl.out
      clear hce HE HEm HEb
      generalize (es.getD k (0,0)).1 = x at *
      generalize (es.getD k (0,0)).2 = y at *
      go_upto_region 6 with fail
      rcases ilt x 0 with ⟨g1, d1⟩ | ⟨g1, d1⟩ <;> rcases ilt y 0 with ⟨g3, d3⟩ | ⟨g3, d3⟩ <;> rcases ile n x with ⟨g2, d2⟩ | ⟨g2, d2⟩ <;> rcases ile n y with ⟨g4, d4⟩ | ⟨g4, d4⟩ <;> rcases ilt x y with ⟨g5, d5⟩ | ⟨g5, d5⟩ <;> rcases ilt y x with ⟨g6, d6⟩ | ⟨g6, d6⟩
      all_goals first | (exfalso; omega) | skip
      all_goals
        refine wp_region_later v (by kernel_rfl) (by kernel_rfl) (fun _ => ?_)
        repeat (first | go_big_quiet_step ((fail)) | (refine wpQuiet_step (fun K hK => ?_); go_simp; refine ⟨_, fun _ => rfl, ?_⟩; refine hK _ ?_; clear hK K))
        refine wpQuiet_nil ?_
        intro v
        go_wp2
        go_roundw
        case rel =>
          first
          | exact ⟨k+1, v, by omega, by go_num, vint (HB.out (by omega)).symm, rfl⟩
          | exact ⟨k+1, v, by omega, by go_num, vint (HM.out (by omega) (by omega) (by omega) (by omega)).symm, rfl⟩
        case measure => simp [intOf]; omega
    · have hke : k = es.length := by omega
      have HF : Hid (fT k = f) := Lib.hid (by rw [hke, HE1.out])
      rw [HF.out]
      clear HE0 HE1 HEm HEb HF hke
      go_upto_if 63 with fail
      clear hlt hk
      go_cut [12] from 62 to 65 (fun x w => LAt W1 CL e x w)
      case first => as_aux_lemma =>
        clear HE HG HD Q0 Q1 KC KA KT RA RB HIB HCL HAL HBL HA0 HA1 HB0 HB1 HGl HEl HV
        by_cases h0 : e = 0
        · have K1 : Hid (Calls Tryd.prog 5 #[.int .i64 n] v.val (GivesL W1.heap.size W1 CL)) := Lib.hid (RC.out h0 _ _ v)
          subst h0
          clear RC HC0
          go_wp2_with (first | (go_at_call 5; (with_reducible refine (K1.out).mono ?_); rintro e _ ⟨_, rfl, ⟨ad, cp, rfl, hI⟩, v1, rfl⟩))
          go_meet
          case rel => exact ⟨rfl, CL, ad, cp, v1, fun _ => rfl, rfl, rfl, hI⟩
        · have d0 : (e == 0) = false := by rw [beq_eq_false_iff_ne]; exact h0
          have HN := Lib.hid h0
          clear RC HC0 h0
          go_wp2
          go_meet
          case rel => exact ⟨rfl, [], none, 0, v, fun c => absurd c HN.out, rfl, rfl, IntsAt.nil⟩
      case rest => as_aux_lemma =>
      obtain ⟨_, M1, ad1, cp1, v, hM1, rfl, rfl, hI1⟩ := hcut
      have HM1 := Lib.hid hM1
      have HI1 := Lib.hid hI1
      clear RC hM1 hI1
      go_upto_if 67 with fail
      go_cut [8, 10, 13] from 66 to 75 (fun f8 x _ w => LAtE v.val AL F x f8 w)
      case first => as_aux_lemma =>
        clear HG HD Q0 Q1 KC KA KT RB HIB HCL HAL HBL HC0 HA1 HB0 HB1 HGl HEl HM1 HI1
        by_cases h0 : f = 0
        · have h1 := Lib.hid (HF0.out h0)
          obtain ⟨RL, hRL, hK⟩ := RA.out h0
          have HRL : Hid (errno ok 3 = 0 → RL = AL) := Lib.hid (fun c => hRL (by
            cases ok
            · exact absurd c (by decide)
            · rfl))
          have K1 := Lib.hid (hK _ _ (Later.self v.val) a cap (HE.out.to v))
          dsimp only [Later.self] at K1
          have KB : Hid (∀ w : World, Calls Tryd.prog 4 #[.bool ok, .int .i64 3] w (Ret w.heap.size w (.int .i64 (errno ok 3)))) := Lib.hid (fun w => c_bad (Later.self w) ok 3)
          subst h0
          clear RA HA0 hK hRL HF0 HF1 HFA
          go_wp2_with (first | (go_at_call 6; (with_reducible refine (K1.out).mono ?_); rintro e _ ⟨_, rfl, ⟨ad, cp, rfl, hI⟩, v1, rfl⟩; have HI := Lib.hid hI; clear hI) | (go_at_call 4; (with_reducible refine (KB.out _).mono ?_); rintro e _ ⟨rfl, v2, rfl⟩))
          go_meet
          case rel => exact ⟨vint h1.out.symm, RL, ad, cp, v1.up v2, fun c => HRL.out (h1.out.symm.trans c), rfl, rfl, HI.out.to v2⟩
        · have h1 := Lib.hid (HF1.out h0)
          have d0 : (f == 0) = false := by rw [beq_eq_false_iff_ne]; exact h0
          have HN := Lib.hid h0
          clear RA HA0 h0 HF0 HF1 HFA
          go_wp2
          go_meet
          case rel => exact ⟨vint h1.out.symm, [], none, 0, Later.self _, fun c => absurd (h1.out.symm.trans c) HN.out, rfl, rfl, IntsAt.nil⟩
      case rest => as_aux_lemma =>
      obtain ⟨rfl, M2, ad2, cp2, v2, hM2, rfl, rfl, hI2⟩ := hcut
      have HM2 := Lib.hid hM2
      have HI2 := Lib.hid hI2
      have HI1b : Hid (IntsAt v2.val.heap.size v2.val ad1 M1) := Lib.hid (HI1.out.to v2)
      have HV2 : Hid (∀ w : Later v2.val.heap.size v2.val, ∃ w' : Later B W, w'.val = w.val) := Lib.hid (fun w => HV.out ((v.up v2).up w))
      have HE2 : Hid (EdgesAt v2.val.heap.size v2.val a es) := Lib.hid (HE.out.to (v.up v2))
      have HG2 : Hid (EdgesAt v2.val.heap.size v2.val b gs) := Lib.hid (HG.out.to (v.up v2))
      have HD2 : Hid (Dbr v2.val.heap.size v2.val) := Lib.hid ⟨Nat.lt_of_lt_of_le HD.out.1 (v.up v2).size, fun i hi => HD.out.cell (v.up v2) hi⟩
      have Q02 : Hid (∀ w : Later v2.val.heap.size v2.val, w.val.cell? ⟨g0, 0, none⟩ = some (.int .i64 gn)) := Lib.hid (fun w => Q0.out ((v.up v2).up w))
      have Q12 : Hid (∀ w : Later v2.val.heap.size v2.val, w.val.cell? ⟨g0, 1, none⟩ = some (.slice b gs.length capb)) := Lib.hid (fun w => Q1.out ((v.up v2).up w))
      obtain ⟨y, hy⟩ : ∃ y : Later v2.val.heap.size v2.val, y.val = v2.val := ⟨Later.self _, rfl⟩
      rw [← hy]
      clear RA hM2 hI2 HI1 hy HF0 HF1 HA0 HA1 HE HG HD Q0 Q1 HV
      generalize v2.val = W2 at *
      clear v2 v
      have KG : Hid (∀ w : Later W2.heap.size W2, Calls Tryd.prog 7 #[.agg #[.int .i64 gn, .slice b gs.length capb]] w.val (Ret W2.heap.size W2 (.bool (decide (isGraph gn gs))))) := Lib.hid (fun w => c_isGraph w gn gs b capb HG2.out HGl.out)
      obtain ⟨hg, hhg⟩ : ∃ hg, hg = errno (decide (isGraph gn gs)) 1 := ⟨_, rfl⟩
      have KB : Hid (∀ w : Later W2.heap.size W2, Calls Tryd.prog 4 #[.bool (decide (isGraph gn gs)), .int .i64 1] w.val (Ret W2.heap.size W2 (.int .i64 hg))) := Lib.hid (fun w => by rw [hhg]; exact c_bad w _ 1)
      have Hh1 : Hid (¬ isGraph gn gs → hg = 1) := Lib.hid (fun c => by rw [hhg, decide_eq_false c]; rfl)
      have Hh0 : Hid (isGraph gn gs → hg = 0) := Lib.hid (fun c => by rw [hhg, decide_eq_true c]; rfl)
      have q0 := Q02.out
      have q1 := Q12.out
      clear hhg
      go_upto_if 80 with (first | (go_at_call 7; (with_reducible refine (KG.out _).mono ?_); rintro e _ ⟨rfl, y1, rfl⟩) | (go_at_call 4; (with_reducible refine (KB.out _).mono ?_); rintro e _ ⟨rfl, y2, rfl⟩))
      clear KG KB
      go_cut [14] from 79 to 97 (fun x w => EAt W2 h x w)
      case first => as_aux_lemma =>
        by_cases hG : isGraph gn gs
        · obtain ⟨R, hR, hI⟩ := HIB.out hG
          have hg0 := Hh0.out hG
          subst hg0
          obtain ⟨m, rfl⟩ := Int.eq_ofNat_of_zero_le (show 0 ≤ gn by have := hG.1; omega)
          have m1 : 1 ≤ m := by have := hG.1; omega
          have m8 : m ≤ 8 := by have := hG.2.1; omega
          have hl8 := hG.2.2.1
          have KI : Hid (∀ w : Later W2.heap.size W2, Calls Tryd.prog 8 #[.agg #[.int .i64 m, .slice b gs.length capb], .int .i64 ((bit gs.length - 1 : Nat) : Int)] w.val (Ret W2.heap.size W2 (.int .i64 (sz R)))) := Lib.hid (fun w => hI _ _ w b capb HG2.out)
          have KAl : Hid (∀ w : Later W2.heap.size W2, Calls Tryd.prog 9 #[.int .i64 gs.length] w.val (Ret W2.heap.size W2 (.int .i64 ((bit gs.length - 1 : Nat) : Int)))) := Lib.hid (fun w => by
            have := c_all w (gs.length : Int) (by omega) (by omega)
            rwa [all_nat] at this)
          have w1 : IntKind.i64.wrap ((m : Int) - 1) = (m : Int) - 1 := IntWalk.i64_in _ (by omega)
          clear HE2 HG2 HD2 Q02 Q12 KC KA KT RB HIB HCL HAL HBL HC0 HB0 HB1 HGl HEl HM1 HM2 HI1b HI2 HV2 Hh0 Hh1 hI hG
          rcases ieq (gs.length : Int) ((m : Int) - 1) with ⟨g1, d1, _⟩ | ⟨g1, d1, _⟩
          · rcases ieq (sz R : Int) 1 with ⟨g2, d2, _⟩ | ⟨g2, d2, _⟩
            · have e0 : h = 0 := by rw [hR]; unfold errno; rw [decide_eq_true ⟨by omega, by omega⟩]; rfl
              have KB : Hid (∀ w : Later W2.heap.size W2, Calls Tryd.prog 4 #[.bool true, .int .i64 3] w.val (Ret W2.heap.size W2 (.int .i64 0))) := Lib.hid (fun w => c_bad w true 3)
              subst e0
              clear hR g1 g2
              go_upto_region 18 with fail
              refine wp_region_later y2 (by kernel_rfl) (by kernel_rfl) (fun _ => ?_)
              repeat (first | go_big_quiet_step ((first | (go_at_call 9; exact KAl.out _) | (go_at_call 8; exact KI.out _) | (go_at_call 4; exact KB.out _))) | (refine wpQuiet_step (fun K hK => ?_); go_simp; refine ⟨_, fun _ => rfl, ?_⟩; refine hK _ ?_; clear hK K))
              refine wpQuiet_nil ?_
              intro y2
              go_wp2
              go_meet
              case rel => exact ⟨rfl, y2, rfl⟩
            · have e0 : h = 3 := by rw [hR]; unfold errno; rw [decide_eq_false (by omega)]; rfl
              have KB : Hid (∀ w : Later W2.heap.size W2, Calls Tryd.prog 4 #[.bool false, .int .i64 3] w.val (Ret W2.heap.size W2 (.int .i64 3))) := Lib.hid (fun w => c_bad w false 3)
              subst e0
              clear hR g1 g2
              go_upto_region 18 with fail
              refine wp_region_later y2 (by kernel_rfl) (by kernel_rfl) (fun _ => ?_)
              repeat (first | go_big_quiet_step ((first | (go_at_call 9; exact KAl.out _) | (go_at_call 8; exact KI.out _) | (go_at_call 4; exact KB.out _))) | (refine wpQuiet_step (fun K hK => ?_); go_simp; refine ⟨_, fun _ => rfl, ?_⟩; refine hK _ ?_; clear hK K))
              refine wpQuiet_nil ?_
              intro y2
              go_wp2
              go_meet
              case rel => exact ⟨rfl, y2, rfl⟩
          · have e0 : h = 3 := by rw [hR]; unfold errno; rw [decide_eq_false (by omega)]; rfl
            have KB : Hid (∀ w : Later W2.heap.size W2, Calls Tryd.prog 4 #[.bool false, .int .i64 3] w.val (Ret W2.heap.size W2 (.int .i64 3))) := Lib.hid (fun w => c_bad w false 3)
            subst e0
            clear hR g1
            go_upto_region 18 with fail
            refine wp_region_later y2 (by kernel_rfl) (by kernel_rfl) (fun _ => ?_)
            repeat (first | go_big_quiet_step ((first | (go_at_call 9; exact KAl.out _) | (go_at_call 8; exact KI.out _) | (go_at_call 4; exact KB.out _))) | (refine wpQuiet_step (fun K hK => ?_); go_simp; refine ⟨_, fun _ => rfl, ?_⟩; refine hK _ ?_; clear hK K))
            refine wpQuiet_nil ?_
            intro y2
            go_wp2
            go_meet
            case rel => exact ⟨rfl, y2, rfl⟩
        · have e1 := Hh1.out hG
          have e2 := HB1.out hG
          subst e1 e2
          clear HE2 HG2 HD2 Q02 Q12 KC KA KT RB HIB HCL HAL HBL HC0 HB0 HB1 HGl HEl HM1 HM2 HI1b HI2 HV2 Hh0 Hh1 hG
          go_wp2
          go_meet
          case rel => exact ⟨rfl, y2, rfl⟩
      case rest => as_aux_lemma =>
      obtain ⟨rfl, y3, rfl⟩ := hcut
      clear Hh0 Hh1 HIB HB1 y2 y1 y
      go_upto_if 99 with fail
      go_cut [11] from 98 to 101 (fun x w => LAt y3.val BL h x w)
      case first => as_aux_lemma =>
        clear HE2 HD2 Q02 Q12 KC KA KT HCL HAL HBL HC0 HB0 HGl HEl HM1 HM2 HI1b HI2 HV2
        by_cases h0 : h = 0
        · have K1 : Hid (Calls Tryd.prog 10 #[.agg #[.int .i64 gn, .slice b gs.length capb]] y3.val (GivesL y3.val.heap.size y3.val BL)) := Lib.hid (RB.out h0 _ _ (Later.self y3.val) b capb (HG2.out.to y3))
          subst h0
          clear RB HG2
          go_wp2_with (first | (go_at_call 10; (with_reducible refine (K1.out).mono ?_); rintro e _ ⟨_, rfl, ⟨ad, cp, rfl, hI⟩, v1, rfl⟩))
          go_meet
          case rel => exact ⟨rfl, BL, ad, cp, v1, fun _ => rfl, rfl, rfl, hI⟩
        · have d0 : (h == 0) = false := by rw [beq_eq_false_iff_ne]; exact h0
          have HN := Lib.hid h0
          clear RB HG2 h0
          go_wp2
          go_meet
          case rel => exact ⟨rfl, [], none, 0, Later.self y3.val, fun c => absurd c HN.out, rfl, rfl, IntsAt.nil⟩
      case rest => as_aux_lemma =>
      obtain ⟨_, M3, ad3, cp3, z, hM3, rfl, rfl, hI3⟩ := hcut
      have HM3 := Lib.hid hM3
      have HI3 : Hid (IntsAt z.val.heap.size z.val ad3 M3) := Lib.hid hI3
      have HI1c : Hid (IntsAt z.val.heap.size z.val ad1 M1) := Lib.hid ((HI1b.out.to y3).to z)
      have HI2c : Hid (IntsAt z.val.heap.size z.val ad2 M2) := Lib.hid ((HI2.out.to y3).to z)
      have HV3 : Hid (∀ w : Later z.val.heap.size z.val, ∃ w' : Later B W, w'.val = w.val) := Lib.hid (fun w => HV2.out ((y3.up z).up w))
      have HE3 : Hid (EdgesAt z.val.heap.size z.val a es) := Lib.hid (HE2.out.to (y3.up z))
      have HG3 : Hid (EdgesAt z.val.heap.size z.val b gs) := Lib.hid (HG2.out.to (y3.up z))
      have HD3 : Hid (Dbr z.val.heap.size z.val) := Lib.hid ⟨Nat.lt_of_lt_of_le HD2.out.1 (y3.up z).size, fun i hi => HD2.out.cell (y3.up z) hi⟩
      have q03 : ∀ w : Later z.val.heap.size z.val, w.val.cell? ⟨g0, 0, none⟩ = some (.int .i64 gn) := fun w => Q02.out ((y3.up z).up w)
      have q13 : ∀ w : Later z.val.heap.size z.val, w.val.cell? ⟨g0, 1, none⟩ = some (.slice b gs.length capb) := fun w => Q12.out ((y3.up z).up w)
      clear hM3 hI3 RB HI1b HI2 HE2 HG2 HD2 Q02 Q12 q0 q1 HV2
      have K1 : Hid (Calls Tryd.prog 11 #[.int .i64 n, .slice a es.length cap] z.val (GivesLE z.val.heap.size z.val AL F)) := Lib.hid (KA.out _ _ (Later.self z.val) a cap HE3.out)
      have K2 : Hid (∀ w : Later z.val.heap.size z.val, Calls Tryd.prog 12 #[.agg #[.int .i64 gn, .slice b gs.length capb]] w.val (GivesLE w.val.heap.size w.val BL h)) := Lib.hid (fun w => KT.out _ _ (Later.self w.val) b capb (HG3.out.to w))
      have K3 : Hid (∀ w : Later z.val.heap.size z.val, Calls Tryd.prog 13 #[.int .i64 n] w.val (GivesLE w.val.heap.size w.val CL e)) := Lib.hid (fun w => KC.out _ _ (Later.self w.val) ⟨Nat.lt_of_lt_of_le HD3.out.1 w.size, fun i hi => HD3.out.cell w hi⟩)
      clear KA KT KC
      go_upto_region 22 with (first | (go_at_call 11; (with_reducible refine (K1.out).mono ?_); rintro e _ ⟨_, rfl, ⟨pa, qa, rfl, hJ1⟩, x1, rfl⟩))
      have HJ1 : Hid (IntsAt x1.val.heap.size x1.val pa AL) := Lib.hid hJ1
      clear hJ1
      go_upto_region 23 with (first | (go_at_call 12; (with_reducible refine ((K2.out x1)).mono ?_); rintro e _ ⟨_, rfl, ⟨pb, qb, rfl, hJ2⟩, x2, rfl⟩))
      have HJ2 : Hid (IntsAt x2.val.heap.size x2.val pb BL) := Lib.hid hJ2
      clear hJ2
      have K4 : Hid (Calls Tryd.prog 13 #[.int .i64 n] x2.val (GivesLE x2.val.heap.size x2.val CL e)) := Lib.hid (K3.out (x1.up x2))
      go_upto_region 24 with (first | (go_at_call 13; (with_reducible refine (K4.out).mono ?_); rintro e _ ⟨_, rfl, ⟨pc, qc, rfl, hJ3⟩, x3, rfl⟩))
      have L1 : Hid (Calls Tryd.prog 14 #[.slice pa AL.length qa, .int .i64 F, .slice ad2 M2.length cp2, .int .i64 F] x3.val (Ret x3.val.heap.size x3.val (.bool true))) := Lib.hid (c_list (Later.self x3.val) AL M2 pa ad2 qa cp2 F F ((HJ1.out.to x2).to x3) (HI2c.out.to ((x1.up x2).up x3)) (by have := HAL.out; omega) rfl (by
        split
        · rename_i c; exact (HM2.out c).symm
        · rename_i c; exact HFA.out c))
      have L2 : Hid (∀ w : Later x3.val.heap.size x3.val, Calls Tryd.prog 14 #[.slice pb BL.length qb, .int .i64 h, .slice ad3 M3.length cp3, .int .i64 h] w.val (Ret x3.val.heap.size x3.val (.bool true))) := Lib.hid (fun w => c_list w BL M3 pb ad3 qb cp3 h h (HJ2.out.to x3) (HI3.out.to ((x1.up x2).up x3)) (by have := HBL.out; omega) rfl (by
        split
        · rename_i c; exact (HM3.out c).symm
        · rename_i c; exact HB0.out c))
      have L3 : Hid (∀ w : Later x3.val.heap.size x3.val, Calls Tryd.prog 14 #[.slice pc CL.length qc, .int .i64 e, .slice ad1 M1.length cp1, .int .i64 e] w.val (Ret x3.val.heap.size x3.val (.bool true))) := Lib.hid (fun w => c_list w CL M1 pc ad1 qc cp1 e e hJ3 (HI1c.out.to ((x1.up x2).up x3)) (by have := HCL.out; omega) rfl (by
        split
        · rename_i c; exact (HM1.out c).symm
        · rename_i c; exact HC0.out c))
      have HVx : Hid (∀ w : Later x3.val.heap.size x3.val, ∃ w' : Later B W, w'.val = w.val) := Lib.hid (fun w => HV3.out (((x1.up x2).up x3).up w))
      clear hJ3 HJ1 HJ2 HI1c HI2c HI3 HV3 K1 K2 K3 K4 HM1 HM2 HM3 HCL HAL HBL
      go_wp2_with (first | (go_at_call 14; (with_reducible refine (L1.out).mono ?_); rintro e _ ⟨rfl, t1, rfl⟩) | (go_at_call 14; (with_reducible refine (L2.out _).mono ?_); rintro e _ ⟨rfl, t2, rfl⟩) | (go_at_call 14; (with_reducible refine (L3.out _).mono ?_); rintro e _ ⟨rfl, t3, rfl⟩))
      go_ret
      exact Ret.of (HVx.out t3) rfl

end Go.Proofs.YtdhkobeagfmcnaaDoor
