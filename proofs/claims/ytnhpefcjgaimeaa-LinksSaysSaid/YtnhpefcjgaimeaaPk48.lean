
/-
  rotalaw.LinksSays returns true, whatever it is handed.
  What is handed in, opened: a list of numbers, a graph, a matroid. Nothing of the program is proved here.
-/
import Derived.Test.YtnhpefcjgaimeaaPk46
import Derived.Test.YtnhpefcjgaimeaaPk17
import Derived.Test.YtnhpefcjgaimeaaPk47
import Derived.Deep.CutRange
import Derived.Test.YtnhpefcjgaimeaaPk02
import Derived.SizedLaws
import Derived.Carry
namespace Go.Proofs.Ytnhpefcjgaimeaa
open Go.RowKit
set_option linter.unusedVariables false

theorem RowsR.mono {B B' : Nat} {w : World} {ad : Option Addr} {rows : Rws} (h : RowsR B w ad rows) (hb : B ≤ B') : RowsR B' w ad rows := fun i hi => by
  obtain ⟨b, off, ad', cp', e, hl, hc, hI⟩ := h i hi
  exact ⟨b, off, ad', cp', e, by omega, hc, hI.mono hb⟩
theorem isSet_bitL {n t : Int} (h0 : 0 ≤ n) (h8 : n ≤ 8) : isSet n t ↔ 0 ≤ t ∧ t < bit n.toNat := by
  obtain ⟨m, rfl⟩ := Int.eq_ofNat_of_zero_le h0
  have hb := bit_le m (by omega)
  unfold isSet
  rw [all_nat, show ((m : Int)).toNat = m by omega]
  omega
theorem lk_key (n f t : Int) (es : List (Int × Int)) : (decide (isGraph n es) && decide (isSet n f) && decide (isSet n t)) = decide (lkOk n es [f, t]) := by
  rw [Bool.eq_iff_iff, Bool.and_eq_true, Bool.and_eq_true, decide_eq_true_eq, decide_eq_true_eq, decide_eq_true_eq, decide_eq_true_eq, lk_two]
  constructor
  · rintro ⟨⟨h1, h2⟩, h3⟩
    exact ⟨h1, (isSet_bitL (by have := h1.1; omega) (by have := h1.2.1; omega)).1 h2, (isSet_bitL (by have := h1.1; omega) (by have := h1.2.1; omega)).1 h3⟩
  · rintro ⟨h1, h2, h3⟩
    exact ⟨⟨h1, (isSet_bitL (by have := h1.1; omega) (by have := h1.2.1; omega)).2 h2⟩, (isSet_bitL (by have := h1.1; omega) (by have := h1.2.1; omega)).2 h3⟩

set_option maxRecDepth 100000 in
set_option maxHeartbeats 20000000 in
theorem law_linksSays {B : Nat} {W : World} (u : Later B W) (n f t : Int) (es : List (Int × Int)) (a : Option Addr) (cap : Nat) (h : EdgesAt B W a es) (hlen : es.length ≤ 4611686018427387904) :
    Calls Try.prog 3 #[.agg #[.int .i64 n, .slice a es.length cap], .int .i64 f, .int .i64 t] u.val (Ret B W (.bool true)) := by
  have T0 : Hid (Two (u.val.alloc (.cells #[.int .i64 n, .slice a es.length cap] 24)) u.val.heap.size 24 (.int .i64 n) (.slice a es.length cap)) := Lib.hid (Two.new _ _ _ _)
  have HE : Hid (EdgesAt (u.val.alloc (.cells #[.int .i64 n, .slice a es.length cap] 24)).heap.size (u.val.alloc (.cells #[.int .i64 n, .slice a es.length cap] 24)) a es) := Lib.hid (h.to (u.alloc _))
  have HV : Hid (∀ v : Later (u.val.alloc (.cells #[.int .i64 n, .slice a es.length cap] 24)).heap.size (u.val.alloc (.cells #[.int .i64 n, .slice a es.length cap] 24)), ∃ w : Later B W, w.val = v.val) := Lib.hid (fun v => ⟨(u.alloc _).up v, rfl⟩)
  have HK := Lib.hid (lk_key n f t es)
  clear h
  go_enter Try.func3, Try.ntmps3
  go_upto_region 1 with fail
  generalize (u.val.alloc (.cells #[.int .i64 n, .slice a es.length cap] 24)) = W1 at *
  generalize u.val.heap.size = g0 at *
  clear u
  have q0 : ∀ w : Later W1.heap.size W1, w.val.cell? ⟨g0, 0, none⟩ = some (.int .i64 n) := fun w => (T0.out.keep w.below).c0
  have q1 : ∀ w : Later W1.heap.size W1, w.val.cell? ⟨g0, 1, none⟩ = some (.slice a es.length cap) := fun w => (T0.out.keep w.below).c1
  have KG := Lib.hid (fun w : Later W1.heap.size W1 => c_isGraph w n es a cap HE.out hlen)
  have KS := Lib.hid (fun w : Later W1.heap.size W1 => c_isSet w n f)
  have KT := Lib.hid (fun w : Later W1.heap.size W1 => c_isSet w n t)
  have KB := Lib.hid (fun (b : Bool) (w : Later W1.heap.size W1) => c_bad w b 1)
  have KBt := Lib.hid (fun w : Later W1.heap.size W1 => (show Calls Try.prog 4 #[.bool true, .int .i64 1] w.val (Ret W1.heap.size W1 (.int .i64 0)) from c_bad w true 1))
  have KBf := Lib.hid (fun w : Later W1.heap.size W1 => (show Calls Try.prog 4 #[.bool false, .int .i64 1] w.val (Ret W1.heap.size W1 (.int .i64 1)) from c_bad w false 1))
  obtain ⟨z, hzz⟩ : ∃ z : Later W1.heap.size W1, z.val = W1 := ⟨Later.self _, rfl⟩
  rw [← hzz]
  clear hzz
  have q0z := q0 z
  have q1z := q1 z
  obtain ⟨e, he⟩ : ∃ e, e = errno (decide (lkOk n es [f, t])) 1 := ⟨_, rfl⟩
  have HEe := Lib.hid he
  clear he KB
  go_cut [7] from 19 to 33 (fun x_ w_ => x_ = .int .i64 e ∧ ∃ v : Later W1.heap.size W1, w_ = v.val)
  case first => as_aux_lemma =>
    rw [← HK.out] at HEe
    clear HK
    generalize decide (isGraph n es) = bg at *
    generalize decide (isSet n f) = bs at *
    generalize decide (isSet n t) = bt at *
    cases bg <;> cases bs <;> cases bt
    all_goals
      have HEf := Lib.hid HEe.out
      dsimp only [errno, Bool.and_true, Bool.and_false, Bool.true_and, Bool.false_and] at HEf
      clear HEe
      go_wp2_with (first | (go_at_call 5; (with_reducible refine (KG.out z).mono ?_); rintro e _ ⟨rfl, v1, rfl⟩) | (go_at_call 6; (with_reducible refine (KS.out v1).mono ?_); rintro e _ ⟨rfl, v2, rfl⟩) | (go_at_call 6; (with_reducible refine (KT.out v2).mono ?_); rintro e _ ⟨rfl, v3, rfl⟩) | (go_at_call 4; (with_reducible refine (KBf.out _).mono ?_); rintro e _ ⟨rfl, v4, rfl⟩) | (go_at_call 4; (with_reducible refine (KBt.out _).mono ?_); rintro e _ ⟨rfl, v4, rfl⟩) | fail)
      go_meet
      case rel => exact ⟨by rw [HEf.out]; rfl, v4, rfl⟩
  case rest => as_aux_lemma =>
    obtain ⟨rfl, v, rfl⟩ := hcut
    clear q0z q1z z KG KS KT KBt KBf HK
    have q0v := q0 v
    have q1v := q1 v
    have sK : ∀ w : Later v.val.heap.size v.val, w.val.cell? ⟨g0, 0, none⟩ = some (.int .i64 n) ∧ w.val.cell? ⟨g0, 1, none⟩ = some (.slice a es.length cap) := fun w => ⟨q0 (v.up w), q1 (v.up w)⟩
    by_cases hok : lkOk n es [f, t]
    case neg =>
      have e1 : e = 1 := by rw [HEe.out, decide_eq_false hok]; rfl
      subst e1
      have HAb : Hid (∀ m s0 s1 : Nat, n = (m : Int) → f = (s0 : Int) → t = (s1 : Int) → isGraph (m : Int) es → s0 < bit m → s1 < bit m → False) := Lib.hid (fun m s0 s1 e1 e2 e3 hg h0 h1 => hok (lk_two.2 ⟨by rw [e1]; exact hg, by rw [e1, e2, show ((m : Int)).toNat = m by omega]; omega, by rw [e1, e3, show ((m : Int)).toNat = m by omega]; omega⟩))
      have KM := Lib.hid (fun w : Later W1.heap.size W1 => c_linksMost w n f t es a cap 1 0 HE.out hlen HEe.out (fun _ => rfl) (fun m s0 s1 e1 e2 e3 hg h0 h1 => (HAb.out m s0 s1 e1 e2 e3 hg h0 h1).elim))
      have KC := Lib.hid (fun w : Later W1.heap.size W1 => c_linksCut w n f t es a cap 1 0 HE.out hlen HEe.out (fun _ => rfl) (fun m s0 s1 e1 e2 e3 hg h0 h1 => (HAb.out m s0 s1 e1 e2 e3 hg h0 h1).elim))
      have KW := Lib.hid (fun w : Later W1.heap.size W1 => c_linksWays w n f t es a cap 1 [] HE.out hlen (fun _ => ⟨rfl, rfl⟩) (fun m s0 s1 e1 e2 e3 hg h0 h1 => (HAb.out m s0 s1 e1 e2 e3 hg h0 h1).elim))
      have KO := Lib.hid (fun w : Later W1.heap.size W1 => c_one_no w 0 1 (by decide))
      clear HEe HAb hok
      go_wp2_with (first | (go_at_call 10; (with_reducible refine (KM.out v).mono ?_); rintro e _ ⟨rfl, v1, rfl⟩; have q0a := q0 v1; have q1a := q1 v1) | (go_at_call 11; (with_reducible refine (KC.out v1).mono ?_); rintro e _ ⟨rfl, v2, rfl⟩; have q0b := q0 v2; have q1b := q1 v2) | (go_at_call 12; (with_reducible refine (KW.out v2).mono ?_); rintro e _ ⟨_, rfl, ⟨ad, cp, rfl, hR⟩, v3, rfl⟩) | (go_at_call 13; (with_reducible refine (KO.out v3).mono ?_); rintro e _ ⟨rfl, v4, rfl⟩) | (go_at_call 13; (with_reducible refine (KO.out v4).mono ?_); rintro e _ ⟨rfl, v5, rfl⟩) | fail)
      go_ret
      obtain ⟨w, hw⟩ := HV.out v5
      exact Ret.of ⟨w, hw⟩ rfl
    have e1 : e = 0 := by rw [HEe.out, decide_eq_true hok]; rfl
    subst e1
    obtain ⟨hG, ⟨hf0, hf1⟩, ht0, ht1⟩ := lk_two.1 hok
    obtain ⟨m, rfl⟩ := Int.eq_ofNat_of_zero_le (show 0 ≤ n by have := hG.1; omega)
    obtain ⟨s0, rfl⟩ := Int.eq_ofNat_of_zero_le hf0
    obtain ⟨s1, rfl⟩ := Int.eq_ofNat_of_zero_le ht0
    rw [show ((m : Int)).toNat = m by omega] at hf1 ht1
    have hfr : s0 < bit m := by omega
    have htw : s1 < bit m := by omega
    have hm7 : m ≤ 7 := by have := hG.2.1; omega
    have hbm := bit_le m (by omega)
    have hbar := (barr_spec (tw := s1) (Grf.of hG) hfr).2.1
    have KBa := Lib.hid (fun w : Later W1.heap.size W1 => c_barrier w m s0 s1 es a cap HE.out hG hfr htw)
    have KSz := Lib.hid (fun w : Later W1.heap.size W1 => c_size w (barr m es s0 s1) (by omega))
    have key : ∃ (ok : Bool) (r : Rws), ((waysF m (edB es) s1 (elems s0) 0 = some r ∧ ok = true) ∨ (waysF m (edB es) s1 (elems s0) 0 = none ∧ ok = false ∧ r = [])) ∧ r.length ≤ 8 ∧ (∀ i, i < r.length → (r.getD i []).length ≤ 9) := by
      cases hr : waysF m (edB es) s1 (elems s0) 0 with
      | none => exact ⟨false, [], .inr ⟨rfl, rfl, rfl⟩, by simp, fun i hi => by simp at hi⟩
      | some r =>
        obtain ⟨hl1, hl2⟩ := waysF_len _ _ _ hr
        exact ⟨true, r, .inl ⟨rfl, rfl⟩, by rw [hl1]; exact sz_le s0, rows_get hl2⟩
    obtain ⟨ok, r, hr, hl8, hrg⟩ := key
    have KF := Lib.hid (fun w : Later W1.heap.size W1 => c_firstWays w m s0 s1 es a cap ok r HE.out hG hfr htw hr)
    have HWs : Hid (∀ m' s0' s1' : Nat, (m : Int) = (m' : Int) → (s0 : Int) = (s0' : Int) → (s1 : Int) = (s1' : Int) → isGraph (m' : Int) es → s0' < bit m' → s1' < bit m' → (∃ r', waysF m' (edB es) s1' (elems s0') 0 = some r' ∧ errno ok 5 = 0 ∧ r = r') ∨ (waysF m' (edB es) s1' (elems s0') 0 = none ∧ errno ok 5 = 5 ∧ r = [])) := Lib.hid (fun m' s0' s1' e1 e2 e3 hg h0 h1 => by
      have := Int.ofNat.inj e1
      have := Int.ofNat.inj e2
      have := Int.ofNat.inj e3
      subst_vars
      rcases hr with ⟨h1, h2⟩ | ⟨h1, h2, h3⟩
      · exact .inl ⟨r, h1, by rw [h2]; rfl, rfl⟩
      · exact .inr ⟨h1, by rw [h2]; rfl, h3⟩)
    have HLk := Lib.hid hok
    have HL8 := Lib.hid hl8
    have HLg := Lib.hid hrg
    have HNo : Hid (ok = false → r = []) := Lib.hid (fun h => by
      rcases hr with ⟨_, h2⟩ | ⟨_, _, h3⟩
      · rw [h] at h2; cases h2
      · exact h3)
    clear hr hok hG hl8 hrg hf0 hf1 ht0 ht1
    go_upto_region 10 with (first | (go_at_call 7; (with_reducible refine (KBa.out v).mono ?_); rintro e _ ⟨rfl, v1, rfl⟩) | (go_at_call 8; (with_reducible refine (KSz.out v1).mono ?_); rintro e _ ⟨rfl, v2, rfl⟩; have q0a := q0 v2; have q1a := q1 v2) | (go_at_call 9; (with_reducible refine (KF.out v2).mono ?_); rintro e _ ⟨_, rfl, ⟨ad1, cp1, rfl, hR1⟩, v3, rfl⟩) | fail)
    have HV3 : Hid (∀ x : Later v3.val.heap.size v3.val, ∃ w : Later B W, w.val = x.val) := Lib.hid (fun x => HV.out (v3.up x))
    have HE3 := Lib.hid (HE.out.to v3)
    have r0 : ∀ x : Later v3.val.heap.size v3.val, x.val.cell? ⟨g0, 0, none⟩ = some (.int .i64 m) := fun x => q0 (v3.up x)
    have r1 : ∀ x : Later v3.val.heap.size v3.val, x.val.cell? ⟨g0, 1, none⟩ = some (.slice a es.length cap) := fun x => q1 (v3.up x)
    have HR1 := Lib.hid hR1
    obtain ⟨y, hy⟩ : ∃ y : Later v3.val.heap.size v3.val, y.val = v3.val := ⟨Later.self _, rfl⟩
    rw [← hy]
    clear hy KBa KSz KF hR1 q0a q1a q0v q1v sK q0 q1 HV HE T0 v2 v1 v
    generalize v3.val = Y at *
    clear v3
    have KBo := Lib.hid (fun w : Later Y.heap.size Y => c_bad w ok 5)
    have KM := Lib.hid (fun w : Later Y.heap.size Y => c_linksMost w m s0 s1 es a cap 0 (sz (barr m es s0 s1)) HE3.out hlen HEe.out (fun h => absurd rfl h) (fun m' s0' s1' e1 e2 e3 hg h0 h1 => by
      have := Int.ofNat.inj e1
      have := Int.ofNat.inj e2
      have := Int.ofNat.inj e3
      subst_vars; rfl))
    have KC := Lib.hid (fun w : Later Y.heap.size Y => c_linksCut w m s0 s1 es a cap 0 (barr m es s0 s1) HE3.out hlen HEe.out (fun h => absurd rfl h) (fun m' s0' s1' e1 e2 e3 hg h0 h1 => by
      have := Int.ofNat.inj e1
      have := Int.ofNat.inj e2
      have := Int.ofNat.inj e3
      subst_vars; rfl))
    have KW := Lib.hid (fun w : Later Y.heap.size Y => c_linksWays w m s0 s1 es a cap (errno ok 5) r HE3.out hlen (fun h => absurd HLk.out h) HWs.out)
    generalize heo : errno ok 5 = eo at *
    have q0y := r0 y
    have q1y := r1 y
    have HLr : Hid (∀ (Z : World) (w : Later Z.heap.size Z) (a1 a2 : Option Addr) (c1 c2 : Nat), RowsR Z.heap.size Z a1 r → RowsR Z.heap.size Z a2 r → Calls Try.prog 14 #[.slice a1 r.length c1, .slice a2 r.length c2] w.val (Ret Z.heap.size Z (.bool true))) := Lib.hid (fun Z w a1 a2 c1 c2 h1 h2 => c_rowsI w r a1 a2 c1 c2 h1 h2 (by have := HL8.out; omega) (fun i hi => by have := HLg.out i hi; omega))
    go_upto_region 14 with (first | (go_at_call 4; (with_reducible refine (KBo.out y).mono ?_); rintro e _ ⟨rfl, v4, rfl⟩; have q0b := r0 v4; have q1b := r1 v4) | (go_at_call 10; (with_reducible refine (KM.out v4).mono ?_); rintro e _ ⟨rfl, v5, rfl⟩; have q0c := r0 v5; have q1c := r1 v5) | (go_at_call 11; (with_reducible refine (KC.out v5).mono ?_); rintro e _ ⟨rfl, v6, rfl⟩; have q0d := r0 v6; have q1d := r1 v6) | (go_at_call 12; (with_reducible refine (KW.out v6).mono ?_); rintro e _ ⟨_, rfl, ⟨ad2, cp2, rfl, hR2⟩, v7, rfl⟩) | fail)
    have HV7 : Hid (∀ x : Later v7.val.heap.size v7.val, ∃ w : Later B W, w.val = x.val) := Lib.hid (fun x => HV3.out (v7.up x))
    have HR2 := Lib.hid hR2
    have HR3 : Hid (RowsR v7.val.heap.size v7.val ad1 r) := Lib.hid ((HR1.out.keep v7.below).mono v7.size)
    obtain ⟨x, hx⟩ : ∃ x : Later v7.val.heap.size v7.val, x.val = v7.val := ⟨Later.self _, rfl⟩
    rw [← hx]
    clear hx hR2 KBo KM KC KW q0b q1b q0c q1c q0d q1d q0y q1y r0 r1 HE3 HR1 HV3 HWs HL8 HLg v6 v5 v4 y
    generalize v7.val = Z at *
    clear v7
    have KO := Lib.hid (fun w : Later Z.heap.size Z => c_one_yes w (sz (barr m es s0 s1)))
    have KP := Lib.hid (fun w : Later Z.heap.size Z => c_one_yes w (barr m es s0 s1))
    have KR := Lib.hid (fun w : Later Z.heap.size Z => HLr.out Z w ad2 ad1 cp2 cp1 HR2.out HR3.out)
    clear HLr HR2 HR3
    generalize barr m es s0 s1 = ba at *
    generalize sz ba = sa at *
    cases ok with
    | true =>
      have e5 : eo = 0 := by rw [← heo]; rfl
      subst e5
      clear heo HNo
      go_wp2_with (first | (go_at_call 13; (with_reducible refine (KO.out x).mono ?_); rintro e _ ⟨rfl, x1, rfl⟩) | (go_at_call 13; (with_reducible refine (KP.out x1).mono ?_); rintro e _ ⟨rfl, x2, rfl⟩) | (go_at_call 14; (with_reducible refine (KR.out x2).mono ?_); rintro e _ ⟨rfl, x3, rfl⟩) | fail)
      go_ret
      obtain ⟨w, hw⟩ := HV7.out x3
      exact Ret.of ⟨w, hw⟩ rfl
    | false =>
      have e5 : eo = 5 := by rw [← heo]; rfl
      subst e5
      have hrn := HNo.out rfl
      subst hrn
      clear heo HNo
      go_wp2_with (first | (go_at_call 13; (with_reducible refine (KO.out x).mono ?_); rintro e _ ⟨rfl, x1, rfl⟩) | (go_at_call 13; (with_reducible refine (KP.out x1).mono ?_); rintro e _ ⟨rfl, x2, rfl⟩) | fail)
      go_ret
      obtain ⟨w, hw⟩ := HV7.out x2
      exact Ret.of ⟨w, hw⟩ rfl

end Go.Proofs.Ytnhpefcjgaimeaa

namespace Go.Proofs.Ytnhpefcjgaimeaa
open Go.ChangeShapes Go.WideShapes Go.ChangeAt Go.RowKit Go.Deep Go.Joins
set_option linter.unusedVariables false

theorem prog_own : ownKnob Try.prog.godebug = none := by kernel_rfl
theorem prog_laid : laidOutB Try.prog = true := by kernel_rfl
theorem prog_int8 : Try.prog.bytesOf 3 = 8 := by kernel_rfl

theorem weighs {H : Type} {P : Program} {ts : List TypeId} {ds : List (DataW H)} (h : (DataW.weightsEach P ts ds).all (· ≤ reachBytes) = true) {j : Nat} {t : TypeId} {d : DataW H} (ht : ts[j]? = some t) (hd : ds[j]? = some d) : ∀ n ∈ d.weights P t, n ≤ reachBytes := fun n hn => by
  simpa using List.all_eq_true.1 h _ (DataW.weights_mem_each ht hd n hn)

section
variable {H : Type} {enc : TypeId × Value → H} {W : World}

theorem cells_ints {fuel : Nat} {cs : List Value} {x : DataW H × List MemPlace} (h : DataW.trod enc Try.prog W 0 (fun _ => true) true fuel 43 cs = some x) (hw : ∀ n ∈ x.1.weights Try.prog 43, n ≤ reachBytes) :
    ∃ (xs : List Int) (ad : Option Addr) (cap : Nat), cs = [.slice ad xs.length cap] ∧ IntsAt W.heap.size W ad xs ∧ xs.length ≤ 17592186044416 ∧ (ad = none → cap = 0) ∧ xs.length ≤ cap := by
  have hlt := DataW.trod_lt fuel _ _ _ h
  rcases open_ints Try.underlying43 Try.underlying3 (by kernel_rfl) h with ⟨rfl, rfl⟩ | ⟨a, l, c, zs, rfl, _, hl, hm, hz, rfl, hcell, hwz⟩
  · exact ⟨[], none, 0, rfl, IntsAt.nil, by simp, fun _ => rfl, Nat.le_refl _⟩
  · simp only [if_true] at hz
    have hreach := hw ((lits IntKind.i64 (zs.take l)).length * 8 + (lits IntKind.i64 (zs.drop l)).length * 8) (by
      simp only [DataW.weights, Try.underlying43, prog_int8]
      rw [← Nat.add_mul]
      exact List.mem_cons_self)
    simp only [lits, List.length_map, List.length_take, List.length_drop, reachBytes] at hreach
    have hlen : (zs.take l).length = l := by simp; omega
    refine ⟨zs.take l, some a, c, by rw [hlen], IntsAt.of_cells (ps := []) (by simpa using hlt) hz hcell, by rw [hlen]; omega, (fun h => by cases h), by rw [hlen]; exact hl⟩

theorem cells_edges {fuel : Nat} {cs : List Value} {x : DataW H × List MemPlace} (h : DataW.trod enc Try.prog W 0 (fun _ => true) true fuel 22 cs = some x) (hw : ∀ n ∈ x.1.weights Try.prog 22, n ≤ reachBytes) :
    ∃ (es : List (Int × Int)) (ad : Option Addr) (cap : Nat), cs = [.slice ad es.length cap] ∧ EdgesAt W.heap.size W ad es ∧ es.length ≤ 17592186044416 := by
  have hlt := DataW.trod_lt fuel _ _ _ h
  rcases open_slice_pairs Try.underlying22 Try.underlying42 (by kernel_rfl) rfl rfl (by kernel_rfl) (by kernel_rfl) h with ⟨rfl, rfl⟩ | ⟨a, l, c, m, n, V0, V1, D0, D1, P0, P1, rfl, hb, hl, hm, hmm, rfl, hx⟩
  · exact ⟨[], none, 0, rfl, fun h => absurd rfl h, by simp⟩
  · simp only [if_true] at hmm
    subst hmm
    have hreach := hw (m * Try.prog.bytesOf 42) (by
      simp only [DataW.weights, Try.underlying22]
      have e : l + (m - l) = m := by omega
      simp only [List.length_map, List.length_range, e]
      exact List.mem_cons_self)
    have hbe : Try.prog.bytesOf 42 = 16 := by kernel_rfl
    rw [hbe] at hreach
    have hr47 := reachBytes_lt
    have each : ∀ i, i < m → ∃ q : Int × Int, W.cell? (a.add (i * 2)) = some (.int .i64 q.1) ∧ W.cell? (a.add (i * 2 + 1)) = some (.int .i64 q.2) := by
      intro i hi
      obtain ⟨h1, h2, h3, h4⟩ := hx i hi
      obtain ⟨z0, e0, _, _⟩ := DataW.trod_int Try.underlying3 h3
      obtain ⟨z1, e1, _, _⟩ := DataW.trod_int Try.underlying3 h4
      simp only [List.cons.injEq, and_true] at e0 e1
      exact ⟨(z0, z1), by rw [h1, e0], by rw [h2, e1]⟩
    obtain ⟨q, hq⟩ := choose_lt each
    refine ⟨(List.range l).map q, some a, m, by simp, ?_, by simp; omega⟩
    intro hne
    have h0 : 0 < l := by
      rcases Nat.eq_zero_or_pos l with h | h
      · subst h; simp at hne
      · exact h
    obtain ⟨b, off, spot⟩ := a
    have hspot : spot = none := by simpa [Addr.add] using World.cell?_spot (hq 0 (by omega)).1
    subst hspot
    refine ⟨b, off, rfl, hlt (.cell b off) (List.mem_append_left _ (MemPlace.mem_row.2 ⟨0, by omega, by simp⟩)), fun k hk => ?_⟩
    simp at hk
    obtain ⟨g0, g1⟩ := hq k (by omega)
    have a0 : (⟨b, off, none⟩ : Addr).add (k * 2) = ⟨b, off + k * 2, none⟩ := by unfold Addr.add; split <;> simp_all
    have a1 : (⟨b, off, none⟩ : Addr).add (k * 2 + 1) = ⟨b, off + k * 2 + 1, none⟩ := by unfold Addr.add; split <;> simp_all [Nat.add_assoc]
    rw [a0] at g0
    rw [a1] at g1
    have : ((List.range l).map q).getD k (0, 0) = q k := by simp [hk]
    rw [this]
    exact ⟨g0, g1⟩

set_option maxRecDepth 100000 in
/-- an argument: a list of numbers -/
theorem arg_ints {base : Nat} {v : Value} {d : DataW H} {ps : List MemPlace} (hv : Value.okWide Try.prog W .any base 43 v) (h : DataW.Trod enc Try.prog W 0 (fun _ => true) true 43 v d ps) (hw : ∀ n ∈ d.weights Try.prog 43, n ≤ reachBytes) :
    ∃ (xs : List Int) (ad : Option Addr) (cap : Nat), v = .slice ad xs.length cap ∧ IntsAt W.heap.size W ad xs ∧ xs.length ≤ 17592186044416 ∧ xs.length ≤ cap := by
  obtain ⟨a1, len1, cap1, rfl⟩ := okWide_slice Try.underlying43 hv
  obtain ⟨fuel, hf⟩ := h
  obtain ⟨xs, ad, cap, e, h1, h2, _, h3⟩ := cells_ints hf hw
  simp only [Value.cells, List.cons.injEq, and_true] at e
  exact ⟨xs, ad, cap, e, h1, h2, h3⟩

set_option maxRecDepth 100000 in
/-- an argument, with what nil is: a list of numbers -/
theorem arg_intsN {base : Nat} {v : Value} {d : DataW H} {ps : List MemPlace} (hv : Value.okWide Try.prog W .any base 43 v) (h : DataW.Trod enc Try.prog W 0 (fun _ => true) true 43 v d ps) (hw : ∀ n ∈ d.weights Try.prog 43, n ≤ reachBytes) :
    ∃ (xs : List Int) (ad : Option Addr) (cap : Nat), v = .slice ad xs.length cap ∧ IntsAt W.heap.size W ad xs ∧ xs.length ≤ 17592186044416 ∧ xs.length ≤ cap ∧ (ad = none → cap = 0) := by
  obtain ⟨a1, len1, cap1, rfl⟩ := okWide_slice Try.underlying43 hv
  obtain ⟨fuel, hf⟩ := h
  obtain ⟨xs, ad, cap, e, h1, h2, h4, h3⟩ := cells_ints hf hw
  simp only [Value.cells, List.cons.injEq, and_true] at e
  exact ⟨xs, ad, cap, e, h1, h2, h3, h4⟩

set_option maxRecDepth 100000 in
/-- an argument: a graph -/
theorem arg_graph {base : Nat} {v : Value} {d : DataW H} {ps : List MemPlace} (hv : Value.okWide Try.prog W .any base 24 v) (h : DataW.Trod enc Try.prog W 0 (fun _ => true) true 24 v d ps) (hw : ∀ n ∈ d.weights Try.prog 24, n ≤ reachBytes) :
    ∃ (n : Int) (es : List (Int × Int)) (ad : Option Addr) (cap : Nat), v = .agg #[.int .i64 n, .slice ad es.length cap] ∧ EdgesAt W.heap.size W ad es ∧ es.length ≤ 17592186044416 := by
  obtain ⟨v0, v1, y0, y1, n, rfl, rfl, rfl, h0, h1⟩ := open_agg2 Try.underlying24 (by kernel_rfl) (by kernel_rfl) hv h
  obtain ⟨z0, e0, _, _⟩ := DataW.trod_int Try.underlying3 h0
  obtain ⟨es, ad, cap, e1, h2, h3⟩ := cells_edges h1 (fun m hm => hw m (by
    simp only [DataW.weights, Try.underlying24, DataW.weightsEach, List.map_cons, List.map_nil, List.mem_append]
    exact .inr (.inl hm)))
  simp only [List.cons.injEq, and_true] at e0 e1
  exact ⟨z0, es, ad, cap, by rw [e0, e1], h2, h3⟩

set_option maxRecDepth 100000 in
/-- an argument: a list of pairs -/
theorem arg_edges {base : Nat} {v : Value} {d : DataW H} {ps : List MemPlace} (hv : Value.okWide Try.prog W .any base 22 v) (h : DataW.Trod enc Try.prog W 0 (fun _ => true) true 22 v d ps) (hw : ∀ n ∈ d.weights Try.prog 22, n ≤ reachBytes) :
    ∃ (es : List (Int × Int)) (ad : Option Addr) (cap : Nat), v = .slice ad es.length cap ∧ EdgesAt W.heap.size W ad es ∧ es.length ≤ 17592186044416 := by
  obtain ⟨a1, len1, cap1, rfl⟩ := okWide_slice Try.underlying22 hv
  obtain ⟨fuel, hf⟩ := h
  obtain ⟨es, ad, cap, e, h1, h2⟩ := cells_edges hf hw
  simp only [Value.cells, List.cons.injEq, and_true] at e
  exact ⟨es, ad, cap, e, h1, h2⟩

end
/-- a whole number that is well formed is below 2^63 -/
theorem wf_lt {a : Int} (h : (Lit.int .i64 a).wf = true) : a < 9223372036854775808 := by
  simp only [Lit.wf, Bool.and_eq_true, decide_eq_true_eq] at h
  have hm : IntKind.i64.max = 9223372036854775807 := by decide
  omega

end Go.Proofs.Ytnhpefcjgaimeaa
