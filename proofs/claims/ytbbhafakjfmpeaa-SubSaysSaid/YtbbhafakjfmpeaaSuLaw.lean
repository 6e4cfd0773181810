
/-
  rotalaw.SubSays returns true, whatever it is handed.
-/
import Derived.Test.YtbbhafakjfmpeaaSuC
import Derived.Test.YtbbhafakjfmpeaaSuD
import Derived.Deep.CutRange
import Derived.Deep.CutBlock
namespace Go.Proofs.Ytbbhafakjfmpeaa
open Go.RowKit
set_option linter.unusedVariables false

theorem verL_len (m : Nat) (f p : List Int) : (verL m f p).length ≤ m := by
  unfold verL
  split
  · rw [tabL_len]; exact Nat.le_refl _
  · exact Nat.zero_le _

theorem vertex_any {B : Nat} {W : World} (n : Int) (f p : List Int) (a b : Option Addr) (cap capb : Nat) (e : Int) (h : IntsAt B W a f) (hlen : f.length ≤ 4611686018427387904) (he : SlwIs n f e) (hp : IntsAt B W b p) (hpl : p.length ≤ 4611686018427387904) :
    ∃ (VL : List Int) (E1 : Int), (∀ v : Later B W, Calls Try.prog 5 #[.int .i64 n, .slice a f.length cap, .slice b p.length capb] v.val (RetP B W (fun v w => ∃ ad cp, v = .tuple #[.slice ad VL.length cp, .int .i64 E1] ∧ IntsAt w.heap.size w ad VL))) ∧
      (e ≠ 0 → E1 = e ∧ VL = []) ∧ (E1 ≠ 0 → VL = []) ∧ VL.length ≤ 8 ∧
      (e = 0 → ∃ m : Nat, n = m ∧ m ≤ 8 ∧ isFun (m : Int) f ∧ E1 = errno (decide (isOrd m p)) 1 ∧ VL = verL m f p) := by
  by_cases h0 : e = 0
  · subst h0
    have hf := he.zero.1
    obtain ⟨m, rfl⟩ := Int.eq_ofNat_of_zero_le hf.1
    have hm : m ≤ 8 := by have := hf.2.1; omega
    refine ⟨verL m f p, errno (decide (isOrd m p)) 1, fun v => c_vertex v m hm f p a b cap capb h hlen he hp hpl, fun c => absurd rfl c, fun c => ?_, ?_, fun _ => ⟨m, rfl, hm, hf, rfl, rfl⟩⟩
    · unfold verL
      rw [if_neg]
      intro ho
      exact c (by rw [decide_eq_true ho]; rfl)
    · exact Nat.le_trans (verL_len m f p) hm
  · refine ⟨[], e, fun v => (c_vertex_no v n f a cap e h hlen he h0 _).mono ?_, fun _ => ⟨rfl, rfl⟩, fun _ => rfl, by simp, fun c => absurd c h0⟩
    rintro _ _ ⟨rfl, v, rfl⟩
    exact RetP.mk v ⟨none, 0, rfl, IntsAt.nil⟩

theorem ext_any {B : Nat} {W : World} (n : Int) (f ws : List Int) (a b : Option Addr) (cap capb : Nat) (h : IntsAt B W a f) (hlen : f.length ≤ 4611686018427387904) (hw : IntsAt B W b ws) (hwl : ws.length ≤ 4611686018427387904) :
    ∃ X E2 : Int, (∀ v : Later B W, Calls Try.prog 6 #[.int .i64 n, .slice a f.length cap, .slice b ws.length capb] v.val (Ret B W (.tuple #[.int .i64 X, .int .i64 E2]))) ∧
      (¬ isFun n f → X = 0 ∧ E2 = 1) ∧
      (isFun n f → ∃ m : Nat, n = m ∧ m ≤ 8 ∧ isFun (m : Int) f ∧ PrcIs m ws E2 ∧ X = extV m f ws E2) := by
  by_cases hf : isFun n f
  · obtain ⟨m, rfl⟩ := Int.eq_ofNat_of_zero_le hf.1
    have hm : m ≤ 8 := by have := hf.2.1; omega
    obtain ⟨e2, hp⟩ := PrcIs.ex m ws
    exact ⟨extV m f ws e2, e2, fun v => c_ext v m hm f ws a b cap capb h hlen hf e2 hw hwl hp, fun c => absurd hf c, fun _ => ⟨m, rfl, hm, hf, hp, rfl⟩⟩
  · exact ⟨0, 1, fun v => c_ext_no v n f a b cap ws.length capb h hlen hf, fun _ => ⟨rfl, rfl⟩, fun c => absurd c hf⟩

/-- what the law wants behind its first half -/
def SubOne (V : World) (E1 : Int) (i : Value) (w : World) : Prop := i = .int .i64 E1 ∧ ∃ v : Later V.heap.size V, w = v.val
def SubMid (V : World) (VL : List Int) (want : Value) (w : World) : Prop := ∃ ad cp, ∃ v : Later V.heap.size V, want = .slice ad VL.length cp ∧ w = v.val ∧ IntsAt v.val.heap.size v.val ad VL

set_option maxRecDepth 100000 in
set_option maxHeartbeats 40000000 in
theorem law_subSays {B : Nat} {W : World} (u : Later B W) (n : Int) (f p ws : List Int) (a b c : Option Addr) (cap capb capc : Nat) (h : IntsAt B W a f) (hp : IntsAt B W b p) (hw : IntsAt B W c ws) (hlen : f.length ≤ 4611686018427387904) (hpl : p.length ≤ 4611686018427387904) (hwl : ws.length ≤ 4611686018427387904) (hcap : p.length ≤ capb) :
    Calls Try.prog 3 #[.int .i64 n, .slice a f.length cap, .slice b p.length capb, .slice c ws.length capc] u.val (Ret B W (.bool true)) := by
  obtain ⟨e, he⟩ := SlwIs.ex n f
  obtain ⟨VL, E1, KV0, hI1, hI0, hVl, hI2⟩ := vertex_any n f p a b cap capb e h hlen he hp hpl
  have KV := Lib.hid KV0
  have K1 := Lib.hid (c_slower u n f a cap e h hlen he)
  have HI1 := Lib.hid hI1
  have HI0 := Lib.hid hI0
  have HI2 := Lib.hid hI2
  have HS := Lib.hid he
  have HF := Lib.hid h
  have HP := Lib.hid hp
  have HW := Lib.hid hw
  clear KV0 hI1 hI0 hI2 he h hp hw
  go_enter Try.func3, Try.ntmps3
  go_upto_region 3 with (first | (go_at_call 4; (with_reducible refine (K1.out).mono ?_); rintro e _ ⟨rfl, y1, rfl⟩) | (go_at_call 5; (with_reducible refine (KV.out _).mono ?_); rintro e _ ⟨_, rfl, ⟨ad, cp, rfl, hI⟩, v1, rfl⟩))
  have HI : Hid (IntsAt v1.val.heap.size v1.val ad VL) := Lib.hid hI
  have HF1 : Hid (IntsAt v1.val.heap.size v1.val a f) := Lib.hid (HF.out.to v1)
  have HP1 : Hid (IntsAt v1.val.heap.size v1.val b p) := Lib.hid (HP.out.to v1)
  have HW1 : Hid (IntsAt v1.val.heap.size v1.val c ws) := Lib.hid (HW.out.to v1)
  have HV : Hid (∀ y : Later v1.val.heap.size v1.val, ∃ w : Later B W, w.val = y.val) := Lib.hid (fun y => ⟨v1.up y, rfl⟩)
  obtain ⟨y, hy⟩ : ∃ y : Later v1.val.heap.size v1.val, y.val = v1.val := ⟨Later.self _, rfl⟩
  rw [← hy]
  clear hy hI K1 KV HF HP HW y1 u
  generalize v1.val = V at *
  clear v1
  obtain ⟨X, E2, KX0, hJ1, hJ2⟩ := ext_any n f ws a c cap capc HF1.out hlen HW1.out hwl
  have KX := Lib.hid KX0
  have HJ1 := Lib.hid hJ1
  have HJ2 := Lib.hid hJ2
  have KF := Lib.hid (fun v : Later V.heap.size V => c_isFunction v n f a cap HF1.out hlen)
  have KB := Lib.hid (fun (v : Later V.heap.size V) (ok : Bool) (x : Int) => c_bad v ok x)
  obtain ⟨J, hJ⟩ : ∃ J, J = errno (decide (isFun n f)) 1 := ⟨_, rfl⟩
  have HJn : Hid (¬ isFun n f → J = 1) := Lib.hid (fun h => by rw [hJ, decide_eq_false h]; rfl)
  have HJy : Hid (isFun n f → J = 0) := Lib.hid (fun h => by rw [hJ, decide_eq_true h]; rfl)
  have KB1 := Lib.hid (fun v : Later V.heap.size V => KB.out v (decide (isFun n f)) 1)
  rw [← hJ] at KB1
  clear KX0 hJ1 hJ2 hJ
  generalize hfl2 : f.length = fl at *
  have HFn := Lib.hid hfl2
  clear hfl2
  generalize hpl2 : p.length = pl at *
  have HPn := Lib.hid hpl2
  clear hpl2
  generalize hwl2 : ws.length = wl at *
  have HWn := Lib.hid hwl2
  clear hwl2
  go_upto_if 42 with (first | (go_at_call 6; (with_reducible refine (KX.out _).mono ?_); rintro e _ ⟨rfl, y1, rfl⟩) | (go_at_call 8; (with_reducible refine (KF.out _).mono ?_); rintro e _ ⟨rfl, y2, rfl⟩) | (go_at_call 7; (with_reducible refine (KB1.out _).mono ?_); rintro e _ ⟨rfl, y3, rfl⟩))
  clear KX KF KB1
  go_cut [14] from 41 to 46 (fun i w => SubOne V E1 i w)
  case first => as_aux_lemma =>
    clear HJ1 HJ2 HJn HJy HW1 HWn HI
    by_cases h0 : e = 0
    case neg =>
      obtain ⟨hE, hVL⟩ := HI1.out h0
      have HE := Lib.hid hE
      have d0 : (e == 0) = false := by rw [beq_eq_false_iff_ne]; exact h0
      clear HI1 HI0 HI2 HS h0 hE hVL
      go_wp2
      go_meet
      case rel => exact ⟨vint HE.out.symm, y3, rfl⟩
    subst h0
    obtain ⟨m, rfl, hm, hf, hE, hVL⟩ := HI2.out rfl
    have KO : Hid (∀ v : Later V.heap.size V, Calls Try.prog 9 #[.slice b pl capb, .int .i64 m] v.val (Ret V.heap.size V (.bool (decide (isOrd m p))))) := Lib.hid (fun v => by
      have := c_isOrder v m hm p b capb HP1.out (by rw [HPn.out]; exact hpl)
      rwa [HPn.out] at this)
    have HE := Lib.hid hE
    have KB2 := Lib.hid (fun v : Later V.heap.size V => KB.out v (decide (isOrd m p)) 1)
    rw [← hE] at KB2
    clear HI1 HI0 HI2 HS hE hVL hf KB
    go_wp2_with (first | (go_at_call 9; (with_reducible refine (KO.out _).mono ?_); rintro e _ ⟨rfl, y4, rfl⟩) | (go_at_call 7; (with_reducible refine (KB2.out _).mono ?_); rintro e _ ⟨rfl, y5, rfl⟩))
    go_meet
    case rel => exact ⟨rfl, y5, rfl⟩
  case rest => as_aux_lemma =>
    obtain ⟨rfl, y3, rfl⟩ := hcut
    go_upto_if 48 with fail
    go_cut [16] from 47 to 78 (fun want w => SubMid V VL want w)
    case first => as_aux_lemma =>
      clear HJ1 HJ2 HJn HJy HW1 HWn HI
      by_cases h1 : E1 = 0
      case neg =>
        have HVL := Lib.hid (HI0.out h1)
        have d0 : (E1 == 0) = false := by rw [beq_eq_false_iff_ne]; exact h1
        clear HI1 HI0 HI2 HS h1
        go_wp2
        go_meet
        case rel => exact ⟨none, 0, y3, by rw [HVL.out]; rfl, rfl, by rw [HVL.out]; exact IntsAt.nil⟩
      have h0 : e = 0 := Classical.byContradiction fun c => c (by rw [← (HI1.out c).1, h1])
      subst h0
      subst h1
      obtain ⟨m, rfl, hm, hf, hE, hVL⟩ := HI2.out rfl
      --dev{
      have ho : isOrd m p := Classical.byContradiction fun c => by
        rw [decide_eq_false c] at hE
        exact absurd hE (by decide)
      have HVL := Lib.hid hVL
      obtain ⟨O, hO, hOl, hO2, _, _⟩ := isOrd_open hm ho
      have e1 : toN p = O := by
        rw [hO]; apply ints_inj; rw [ints_toN]
        intro i hi; rw [ints_getD]; omega
      have hv : verL m f p = tabL m (verT (fun i => f.getD i 0) O m) := by unfold verL; rw [if_pos ho, e1]
      rw [hv] at HVL
      have HW : Hid (IntsAt V.heap.size V b (ints O)) := Lib.hid (by rw [← hO]; exact HP1.out)
      have hil : m = pl := by rw [← HPn.out, hO, ints_len, hOl]
      clear HPn
      subst hil
      have Hil : Hid ((ints O).length = m) := Lib.hid (by rw [ints_len, hOl])
      have hb := bit_le m hm
      have HBn := Lib.hid hf.bound
      have HFl := Lib.hid hf.len
      have HO2 := Lib.hid hO2
      have HOl := Lib.hid hOl
      have HLt := Lib.hid (prfT_lt hO2)
      have H0 : Hid (prfT O 0 = 0) := Lib.hid rfl
      have HV0 : Hid (∀ t, verT (fun i => f.getD i 0) O 0 t = 0) := Lib.hid (fun t => rfl)
      have HVs : Hid (∀ k t, verT (fun i => f.getD i 0) O (k + 1) t = if t = O.getD k 0 then f.getD (prfT O (k + 1)) 0 - f.getD (prfT O k) 0 else verT (fun i => f.getD i 0) O k t) := Lib.hid (fun k t => rfl)
      have KS : Hid (∀ (B : Nat) (W : World) (v : Later B W) (ad : Option Addr) (cp k : Nat), IntsAt B W ad (ints O) → k ≤ m → Calls Try.prog 10 #[.slice ad k cp] v.val (Ret B W (.int .i64 (prfT O k)))) := Lib.hid (fun B W v ad cp k h hk => c_setOf v O ad cp k h (by omega) (by omega) (fun j hj => by have := hO2 j (by omega); omega))
      clear HI1 HI0 HI2 HS hE hVL ho hf hO e1 hv hO2 hOl KB HP1
      generalize verT (fun i => f.getD i 0) O = vt at *
      generalize prfT O = pf at *
      have hmk := mk_tab m (by omega)
      go_upto_region 11 with fail
      clear hmk
      have HF2 : Hid (IntsAt y3.val.heap.size y3.val a f) := Lib.hid (HF1.out.to y3)
      have HW2 : Hid (IntsAt y3.val.heap.size y3.val b (ints O)) := Lib.hid (HW.out.to y3)
      have HVV : Hid (∀ y : Later y3.val.heap.size y3.val, ∃ w : Later V.heap.size V, w.val = y.val) := Lib.hid (fun y => ⟨y3.up y, rfl⟩)
      clear HF1 HW HV
      generalize y3.val = V2 at *
      clear y3
      have HT0 : Hid (ITab (V2.alloc (.cells (madeCells #[Value.int .i64 0] m) 3)) V2.heap.size m (vt 0)) := Lib.hid ((ITab.made V2 m).congr (fun t _ => by rw [HV0.out]))
      obtain ⟨y, hy⟩ : ∃ w : Later V2.heap.size V2, w.val = V2.alloc (.cells (madeCells #[Value.int .i64 0] m) 3) := ⟨(Later.self V2).alloc _, rfl⟩
      rw [← hy] at HT0 ⊢
      clear hy
      generalize hgd : V2.heap.size = gd at *
      clear hgd
      go_wp2
      go_loopw [53] (fun i wr => ∃ (k : Nat) (v : Later gd V2), k ≤ m ∧ i = .int .i64 k ∧ wr = v.val ∧ Hid (ITab v.val gd m (vt k))) (fun i _ => m - (intOf i).toNat)
      case atStart => exact ⟨0, y, by omega, rfl, rfl, HT0⟩
      case round =>
        clear y HT0
        obtain ⟨k, v, hk, rfl, rfl, HT⟩ := hrel
        by_cases hlt : k < m
        · obtain ⟨bb, off, rfl, hbB, hcell⟩ := HW2.out.at (k := k) (by rw [Hil.out]; exact hlt)
          have c0 : ∀ w : Later v.val.heap.size v.val, w.val.cell? ⟨bb, off + k, none⟩ = some (.int .i64 ((O.getD k 0 : Nat) : Int)) := fun w => by rw [← ints_getD]; exact hcell (v.up w) k (by rw [Hil.out]; exact hlt)
          have hx := HO2.out k hlt
          have ht : pf k < bit m := HLt.out k hk
          have ht1 : pf (k + 1) < bit m := HLt.out (k + 1) (by omega)
          obtain ⟨bf, of, rfl, hbf, hcf⟩ := HF2.out.at (k := 0) (by have := HFl.out; have := HFn.out; omega)
          have c1 : ∀ w : Later v.val.heap.size v.val, w.val.cell? ⟨bf, of + pf (k + 1), none⟩ = some (.int .i64 (f.getD (pf (k + 1)) 0)) := fun w => hcf (v.up w) _ (by have := HFl.out; have := HFn.out; omega)
          have c2 : ∀ w : Later v.val.heap.size v.val, w.val.cell? ⟨bf, of + pf k, none⟩ = some (.int .i64 (f.getD (pf k) 0)) := fun w => hcf (v.up w) _ (by have := HFl.out; have := HFn.out; omega)
          have c3 : ∀ w : Later v.val.heap.size v.val, w.val.frozen? ⟨gd, O.getD k 0, none⟩ = false := fun w => (HT.out.keep w.below).frozen _
          have c4 : ∀ w : Later v.val.heap.size v.val, w.val.cell? ⟨gd, O.getD k 0, none⟩ = some (.int .i64 (vt k (O.getD k 0))) := fun w => (HT.out.keep w.below).cell hx
          have HWv : Hid (IntsAt v.val.heap.size v.val (some ⟨bb, off, none⟩) (ints O)) := Lib.hid (HW2.out.to v)
          have KS1 := Lib.hid (fun (w : Later v.val.heap.size v.val) (j : Nat) (hj : j ≤ m) => KS.out _ _ w (some ⟨bb, off, none⟩) capb j HWv.out hj)
          have hB1 := HBn.out (pf (k + 1))
          have hB2 := HBn.out (pf k)
          have HSt : Hid (∀ w : World, ITab w gd m (vt k) → ITab (w.setCell ⟨gd, O.getD k 0, none⟩ (.int .i64 (f.getD (pf (k + 1)) 0 - f.getD (pf k) 0))) gd m (vt (k + 1))) := Lib.hid (fun w h => h.set _ _ (fun t _ => HVs.out k t))
          have hfz : ((pf (k + 1) : Nat) : Int) < (fl : Int) := by have := HFl.out; have := HFn.out; omega
          have hfz2 : ((pf k : Nat) : Int) < (fl : Int) := by have := HFl.out; have := HFn.out; omega
          obtain ⟨q, hq⟩ : ∃ q, q = k + 1 := ⟨_, rfl⟩
          have w4 : IntKind.i64.wrap ((k : Int) + 1) = (q : Int) := by rw [IntWalk.i64_in _ (by omega)]; omega
          rw [← hq] at c1 hB1 HSt hfz ht1
          have Hq := Lib.hid hq
          have hqc : (q : Int) ≤ (capb : Int) := by omega
          have hkc : (k : Int) ≤ (capb : Int) := by omega
          have hqm : q ≤ m := by omega
          have hk9 : k ≤ 8 := by omega
          clear hcell hcf hq
          generalize O.getD k 0 = x at *
          have hxz : (x : Int) < (m : Int) := by omega
          generalize f.getD (pf q) 0 = fa at *
          generalize f.getD (pf k) 0 = fb at *
          have w3 := IntWalk.i64_in (fa - fb) (by omega)
          go_wp2
          refine wp_region_later_qtail (Later.self v.val) 22 (by kernel_rfl) (by kernel_rfl) (fun _ => ?_)
          simp only [List.take_succ_cons, List.take_zero, List.drop_succ_cons, List.drop_zero]
          repeat (first | go_big_quiet_step (((go_at_call 10; exact KS1.out _ _ (by first | exact hqm | exact hk)))) | (refine wpQuiet_step (fun K hK => ?_); go_simp; refine ⟨_, fun _ => rfl, ?_⟩; refine hK _ ?_; clear hK K))
          refine wpQuiet_nil ?_
          intro v2
          go_wp2
          go_roundw
          case rel => exact ⟨q, (v.up v2).set ⟨gd, x, none⟩ (Nat.le_refl _) _, hqm, rfl, rfl, Lib.hid (HSt.out _ (HT.out.keep v2.below))⟩
          case measure => have := Hq.out; simp [intOf]; omega
        · have hke : k = m := by omega
          subst hke
          have HT2 := Lib.hid HT.out.ints
          obtain ⟨v', hv'⟩ := HVV.out v
          rw [← hv'] at HT2
          go_wp2
          go_meet
          case rel => exact ⟨some ⟨gd, 0, none⟩, k, v', by rw [HVL.out, tabL_len], hv'.symm, by rw [HVL.out]; exact HT2.out⟩
      --}dev
    case rest => as_aux_lemma =>
      obtain ⟨ad2, cp2, v, rfl, rfl, hI2⟩ := hcut
      --dev{
      have HL1 : Hid (IntsAt v.val.heap.size v.val ad VL) := Lib.hid (HI.out.to v)
      have HL2 := Lib.hid hI2
      have KL : Hid (∀ w : Later v.val.heap.size v.val, Calls Try.prog 14 #[.slice ad VL.length cp, .int .i64 E1, .slice ad2 VL.length cp2, .int .i64 E1] w.val (Ret v.val.heap.size v.val (.bool true))) := Lib.hid (fun w => c_list w VL VL ad ad2 cp cp2 E1 E1 HL1.out HL2.out (by omega) rfl (by
        split
        · rfl
        · rename_i hc; exact HI0.out hc))
      have KC : Hid (∀ w : Later v.val.heap.size v.val, Calls Try.prog 13 #[.int .i64 n, .slice a fl cap] w.val (Ret v.val.heap.size v.val (.int .i64 e))) := Lib.hid (fun w => by
        have := c_subCheck w n f a cap e (HF1.out.to v) (by rw [HFn.out]; exact hlen) HS.out
        rwa [HFn.out] at this)
      have HVv : Hid (∀ y : Later v.val.heap.size v.val, ∃ w : Later B W, w.val = y.val) := Lib.hid (fun y => HV.out (v.up y))
      have HFv := Lib.hid (HF1.out.to v)
      have HWv := Lib.hid (HW1.out.to v)
      obtain ⟨y, hy⟩ : ∃ y : Later v.val.heap.size v.val, y.val = v.val := ⟨Later.self _, rfl⟩
      have KB' : Hid (True) := Lib.hid trivial
      rw [← hy]
      clear hI2 HI0 HI1 HI2 HI HL1 HL2 HV HP1 HS KB HF1 HW1 hy
      generalize v.val = V3 at *
      clear v
      generalize VL.length = vl at *
      by_cases hf : isFun n f
      case neg =>
        have hJ := HJn.out hf
        subst hJ
        obtain ⟨rfl, rfl⟩ := HJ1.out hf
        have KO := Lib.hid (fun w : Later V3.heap.size V3 => c_one w 0 1 0 1 rfl (by rw [if_neg (by decide)]))
        clear HJ1 HJ2 HJn HJy hf HFv HWv
        go_wp2_with (first | (go_at_call 13; (with_reducible refine (KC.out _).mono ?_); rintro e _ ⟨rfl, z1, rfl⟩) | (go_at_call 14; (with_reducible refine (KL.out _).mono ?_); rintro e _ ⟨rfl, z2, rfl⟩) | (go_at_call 15; (with_reducible refine (KO.out _).mono ?_); rintro e _ ⟨rfl, z3, rfl⟩))
        go_ret
        exact Ret.of (HVv.out z3) rfl
      have hJ := HJy.out hf
      subst hJ
      obtain ⟨m, rfl, hm, hf2, hp2, hX⟩ := HJ2.out hf
      have KP : Hid (∀ w : Later V3.heap.size V3, Calls Try.prog 11 #[.int .i64 m, .slice c wl capc] w.val (Ret V3.heap.size V3 (.int .i64 E2))) := Lib.hid (fun w => by
        have := c_refPriced w m ws c capc E2 HWv.out (by rw [HWn.out]; exact hwl) hm hp2
        rwa [HWn.out] at this)
      by_cases h2 : E2 = 0
      · subst h2
        have hX2 : X = extT (fun i => ws.getD i 0) (fun i => f.getD i 0) (rkd (fun i => ws.getD i 0) m) m := by rw [hX]; unfold extV; rw [if_pos rfl]
        have KZ : Hid (∀ w : Later V3.heap.size V3, Calls Try.prog 12 #[.slice a fl cap, .slice c wl capc] w.val (Ret V3.heap.size V3 (.int .i64 X))) := Lib.hid (fun w => by
          have := c_lovasz w m hm f ws a c cap capc HFv.out (by rw [HFn.out]; exact hlen) hf2 HWv.out hp2
          rwa [HFn.out, HWn.out, ← hX2] at this)
        have KO := Lib.hid (fun w : Later V3.heap.size V3 => c_one w X 0 X 0 rfl (by rw [if_pos rfl]))
        clear HJ1 HJ2 HJn HJy hf HFv HWv hX hX2 hf2 hp2
        go_wp2_with (first | (go_at_call 11; (with_reducible refine (KP.out _).mono ?_); rintro e _ ⟨rfl, z0, rfl⟩) | (go_at_call 12; (with_reducible refine (KZ.out _).mono ?_); rintro e _ ⟨rfl, z4, rfl⟩) | (go_at_call 13; (with_reducible refine (KC.out _).mono ?_); rintro e _ ⟨rfl, z1, rfl⟩) | (go_at_call 14; (with_reducible refine (KL.out _).mono ?_); rintro e _ ⟨rfl, z2, rfl⟩) | (go_at_call 15; (with_reducible refine (KO.out _).mono ?_); rintro e _ ⟨rfl, z3, rfl⟩))
        go_ret
        exact Ret.of (HVv.out z3) rfl
      · have hX2 : X = 0 := by rw [hX]; unfold extV; rw [if_neg h2]
        subst hX2
        have d2 : (E2 == 0) = false := by rw [beq_eq_false_iff_ne]; exact h2
        have KO := Lib.hid (fun w : Later V3.heap.size V3 => c_one w 0 E2 0 E2 rfl (by rw [if_neg h2]))
        clear HJ1 HJ2 HJn HJy hf HFv HWv hX hf2 hp2 h2
        go_wp2_with (first | (go_at_call 11; (with_reducible refine (KP.out _).mono ?_); rintro e _ ⟨rfl, z0, rfl⟩) | (go_at_call 13; (with_reducible refine (KC.out _).mono ?_); rintro e _ ⟨rfl, z1, rfl⟩) | (go_at_call 14; (with_reducible refine (KL.out _).mono ?_); rintro e _ ⟨rfl, z2, rfl⟩) | (go_at_call 15; (with_reducible refine (KO.out _).mono ?_); rintro e _ ⟨rfl, z3, rfl⟩))
        go_ret
        exact Ret.of (HVv.out z3) rfl
      --}dev

end Go.Proofs.Ytbbhafakjfmpeaa
