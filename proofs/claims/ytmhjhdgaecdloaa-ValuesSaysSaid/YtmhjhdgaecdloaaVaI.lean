
/-
  values.Best, walked.
-/
import Derived.Test.YtmhjhdgaecdloaaVaH
namespace Go.Proofs.Ytmhjhdgaecdloaa
open Go.RowKit
set_option linter.unusedVariables false

set_option maxRecDepth 100000 in
set_option maxHeartbeats 4000000 in
theorem c_best_no {B : Nat} {W : World} (u : Later B W) (n : Int) (vl : List (Int × Int)) (a : Option Addr) (cap : Nat) (h : EdgesAt B W a vl) (hlen : vl.length ≤ 17592186044416) (e : Int) (he : VlIs n vl e) (h0 : e ≠ 0) (x : Value) :
    Calls Try.prog 5 #[.int .i64 n, .slice a vl.length cap, x] u.val (Ret B W (.tuple #[.int .i64 0, .int .i64 0, .int .i64 e])) := by
  have K := Lib.hid (c_valCheck u n vl a cap h hlen e he)
  have d0 : (e != 0) = true := by rw [bne_iff_ne]; exact h0
  clear h he h0
  go_enter Try.func5, Try.ntmps5
  go_wp2_with (first | (go_at_call 9; (with_reducible refine (K.out).mono ?_); rintro e _ ⟨rfl, v1, rfl⟩))
  go_ret3
  exact Ret.mk v1 rfl

set_option maxRecDepth 100000 in
set_option maxHeartbeats 4000000 in
theorem c_best_pr {B : Nat} {W : World} (u : Later B W) (m : Nat) (hm : m ≤ 8) (vl : List (Int × Int)) (a : Option Addr) (cap : Nat) (h : EdgesAt B W a vl) (hlen : vl.length ≤ 17592186044416) (he : VlIs (m : Int) vl 0) (ws : List Int) (b : Option Addr) (capb : Nat) (hw : IntsAt B W b ws) (hwl : ws.length ≤ 4611686018427387904) (pe : Int) (hp : PrcIs m ws pe) (h0 : pe ≠ 0) :
    Calls Try.prog 5 #[.int .i64 m, .slice a vl.length cap, .slice b ws.length capb] u.val (Ret B W (.tuple #[.int .i64 0, .int .i64 0, .int .i64 pe])) := by
  have K := Lib.hid (c_valCheck u (m : Int) vl a cap h hlen 0 he)
  have KP := Lib.hid (fun v : Later B W => c_prices v m ws b capb pe hw hwl hm hp)
  have d0 : (pe != 0) = true := by rw [bne_iff_ne]; exact h0
  clear h he h0 hw hp
  go_enter Try.func5, Try.ntmps5
  go_wp2_with (first | (go_at_call 9; (with_reducible refine (K.out).mono ?_); rintro e _ ⟨rfl, v1, rfl⟩) | (go_at_call 20; (with_reducible refine (KP.out _).mono ?_); rintro e _ ⟨rfl, v2, rfl⟩))
  go_ret3
  exact Ret.mk v2 rfl

def mvN : Value → Nat
  | .bool true => 1
  | _ => 0

set_option maxRecDepth 100000 in
set_option maxHeartbeats 40000000 in
theorem c_best {B : Nat} {W : World} (u : Later B W) (m : Nat) (hm : m ≤ 8) (vl : List (Int × Int)) (a : Option Addr) (cap : Nat) (h : EdgesAt B W a vl) (hlen : vl.length ≤ 17592186044416) (he : VlIs (m : Int) vl 0) (hok : VlOk (m : Int) vl) (hV : ExV (vlL vl) (valN vl)) (ws : List Int) (b : Option Addr) (capb : Nat) (hw : IntsAt B W b ws) (hwl : ws.length ≤ 4611686018427387904) (hp : PrcIs m ws 0) (it : Nat) (xt : Int) (htop : IsTop (fun j => wrth (valN vl) (fun i => ws.getD i 0) m ((vlL vl).getD j 0)) vl.length it xt) :
    Calls Try.prog 5 #[.int .i64 m, .slice a vl.length cap, .slice b ws.length capb] u.val (Ret B W (.tuple #[.int .i64 (((vlL vl).getD it 0 : Nat) : Int), .int .i64 xt, .int .i64 0])) := by
  have K := Lib.hid (c_valCheck u (m : Int) vl a cap h hlen 0 he)
  have KP := Lib.hid (fun v : Later B W => c_prices v m ws b capb 0 hw hwl hm hp)
  have HE := Lib.hid h
  have h256 := hok.len256
  have HL0 : Hid (0 < vl.length) := Lib.hid (by have := htop.lt; omega)
  have HAt := Lib.hid (fun i (hi : i < vl.length) => hok.at_ hi)
  have HLn : Hid ((vlL vl).length = vl.length) := Lib.hid hok.len
  have HBd : Hid (∀ b : Nat, -1000 ≤ valN vl b ∧ valN vl b ≤ 1000) := Lib.hid (fun b => hok.bd b)
  have HMem : Hid (∀ i, i < vl.length → (vlL vl).getD i 0 ∈ vlL vl) := Lib.hid (fun i hi => by simp [hok.len, hi])
  have HTop : Hid (∀ C, C ∈ vlL vl → (∀ j, j < vl.length → sz (nand ((vlL vl).getD j 0) C) = 1 → ¬ bett (wrth (valN vl) (fun i => ws.getD i 0) m) ((vlL vl).getD j 0) C) → ∀ j, j < vl.length → wrth (valN vl) (fun i => ws.getD i 0) m ((vlL vl).getD j 0) ≤ wrth (valN vl) (fun i => ws.getD i 0) m C) := Lib.hid (fun C hC h => hok.top hV _ m hC h)
  have KW : Hid (∀ (B : Nat) (W : World) (v : Later B W) (s : Nat), IntsAt B W b ws → s < 256 → Calls Try.prog 22 #[.agg #[.int .i64 s, .int .i64 (valN vl s)], .slice b ws.length capb] v.val (Ret B W (.int .i64 (wrth (valN vl) (fun i => ws.getD i 0) m s)))) := Lib.hid (fun B W v s hw hs => c_worth v m s (valN vl s) (hok.bd s).1 (hok.bd s).2 hm hs ws b capb hw hp)
  have HW := Lib.hid hw
  have HTp := Lib.hid htop
  clear h he hok hV hw hp htop
  generalize wrth (valN vl) (fun i => ws.getD i 0) m = F at *
  generalize valN vl = N at *
  generalize vlL vl = L at *
  go_enter Try.func5, Try.ntmps5
  go_upto_region 7 with (first | (go_at_call 9; (with_reducible refine (K.out).mono ?_); rintro e _ ⟨rfl, v1, rfl⟩) | (go_at_call 20; (with_reducible refine (KP.out _).mono ?_); rintro e _ ⟨rfl, v2, rfl⟩))
  clear K KP
  obtain ⟨e01, e02, _, h08⟩ := HAt.out 0 HL0.out
  obtain ⟨be, off, rfl, hbe, hce⟩ := HE.out.at HL0.out
  have HCe := Lib.hid hce
  have x0 := (hce v2 0 HL0.out).1
  have x1 := (hce v2 0 HL0.out).2
  rw [e01] at x0
  rw [e02] at x1
  simp only [Nat.zero_mul, Nat.add_zero] at x0 x1
  have HM0 := Lib.hid (HMem.out 0 HL0.out)
  have hl0 := HL0.out
  clear hce e01 e02
  generalize L.getD 0 0 = C0 at *
  go_upto_region 8 with fail
  have T0 : Hid (Two (v2.val.alloc (.cells #[.int .i64 C0, .int .i64 (N C0)] 36)) v2.val.heap.size 36 (.int .i64 C0) (.int .i64 (N C0))) := Lib.hid (Two.new _ _ _ _)
  have HV : Hid (∀ w : Later v2.val.heap.size v2.val, ∃ w' : Later B W, w'.val = w.val) := Lib.hid (fun w => ⟨v2.up w, rfl⟩)
  have HWv : Hid (IntsAt v2.val.heap.size v2.val b ws) := Lib.hid (HW.out.to v2)
  obtain ⟨y, hy⟩ : ∃ y : Later v2.val.heap.size v2.val, y.val = v2.val.alloc (.cells #[.int .i64 C0, .int .i64 (N C0)] 36) := ⟨(Later.self v2.val).alloc _, rfl⟩
  rw [← hy] at T0 ⊢
  have HCv : Hid (∀ (w : Later v2.val.heap.size v2.val) (i : Nat), i < vl.length → w.val.cell? ⟨be, off + i * 2, none⟩ = some (.int .i64 ((L.getD i 0 : Nat) : Int)) ∧ w.val.cell? ⟨be, off + i * 2 + 1, none⟩ = some (.int .i64 (N (L.getD i 0)))) := Lib.hid (fun w i hi => by
    obtain ⟨c1, c2⟩ := HCe.out (v2.up w) i hi
    obtain ⟨e1, e2, _, _⟩ := HAt.out i hi
    rw [e1] at c1
    rw [e2] at c2
    exact ⟨c1, c2⟩)
  clear hy x0 x1 HE HCe HW
  generalize hgd : v2.val.heap.size = g at *
  have Hg := Lib.hid hgd
  clear hgd
  have hBg : B ≤ g := by rw [← Hg.out]; exact v2.size
  generalize v2.val = V at *
  clear v1 v2 u
  go_wp2
  go_loopw [12] (fun o wr => ∃ (mv : Bool) (C : Nat) (v : Later g V), C < 256 ∧ o = .bool mv ∧ wr = v.val ∧ Hid (C ∈ L) ∧ Hid (Two v.val g 36 (.int .i64 C) (.int .i64 (N C))) ∧ Hid (mv = false → ∀ j, j < vl.length → sz (nand (L.getD j 0) C) = 1 → ¬ bett F (L.getD j 0) C)) (fun o w => 2 * cntB F L (intOf ((w.cell? ⟨g, 0, none⟩).getD undef)).toNat + mvN o)
  case atStart => exact ⟨true, C0, y, h08, rfl, rfl, HM0, T0, Lib.hid (fun c => by cases c)⟩
  case round =>
    clear y T0 HM0
    obtain ⟨mv, C, y, hC8, rfl, rfl, HM, HT, HN⟩ := hrel
    cases mv with
    | false =>
      have hall := HTop.out C HM.out (HN.out rfl)
      have hFC : F C = xt := by
        obtain ⟨j, hj, e⟩ := List.getElem_of_mem HM.out
        have hj2 : L.getD j 0 = C := by simp [hj, e]
        have h1 := hall it HTp.out.lt
        rw [HTp.out.eq] at h1
        have h2 := HTp.out.all j (by rw [← HLn.out]; exact hj)
        rw [hj2] at h2
        omega
      have HFC := Lib.hid hFC
      clear hall hFC HN
      go_wp2
      go_loopw [75] (fun o wr => ∃ (k : Nat) (v : Later g V), k ≤ it ∧ o = .int .i64 k ∧ wr = v.val ∧ Hid (Two v.val g 36 (.int .i64 C) (.int .i64 (N C)))) (fun o _ => it - (intOf o).toNat)
      case atStart => exact ⟨0, y, by omega, rfl, rfl, HT⟩
      case round =>
        clear HT
        obtain ⟨k, v, hk, rfl, rfl, HTv⟩ := hrel
        have hlt : k < vl.length := Nat.lt_of_le_of_lt hk HTp.out.lt
        obtain ⟨_, _, _, hA8⟩ := HAt.out k hlt
        obtain ⟨x0, x1⟩ := HCv.out v k hlt
        have HQ : Hid (k = it → F (L.getD k 0) = xt) := Lib.hid (fun c => by rw [c]; exact HTp.out.eq)
        have HQ2 : Hid (k ≠ it → F (L.getD k 0) < xt) := Lib.hid (fun c => HTp.out.first k (by omega))
        have HA : Hid (k = it → L.getD it 0 = L.getD k 0) := Lib.hid (fun c => by rw [c])
        have hgv : g < v.val.heap.size := HTv.out.lt
        generalize L.getD k 0 = A at *
        have TZ : Two (v.val.alloc (.cells #[.int .i64 A, .int .i64 (N A)] 36)) v.val.heap.size 36 (.int .i64 A) (.int .i64 (N A)) := Two.new _ _ _ _
        have HTz : Hid (∀ w : Later (v.val.alloc (.cells #[.int .i64 A, .int .i64 (N A)] 36)).heap.size (v.val.alloc (.cells #[.int .i64 A, .int .i64 (N A)] 36)), Two w.val g 36 (.int .i64 C) (.int .i64 (N C))) := Lib.hid (fun w => (HTv.out.keep ((Below.refl _ _).alloc (Nat.le_refl _) _)).keep w.below)
        have b0 : ∀ w : Later (v.val.alloc (.cells #[.int .i64 A, .int .i64 (N A)] 36)).heap.size (v.val.alloc (.cells #[.int .i64 A, .int .i64 (N A)] 36)), w.val.cell? ⟨v.val.heap.size, 0, none⟩ = some (.int .i64 A) := fun w => (TZ.keep w.below).c0
        have b1 : ∀ w : Later (v.val.alloc (.cells #[.int .i64 A, .int .i64 (N A)] 36)).heap.size (v.val.alloc (.cells #[.int .i64 A, .int .i64 (N A)] 36)), w.val.cell? ⟨v.val.heap.size, 1, none⟩ = some (.int .i64 (N A)) := fun w => (TZ.keep w.below).c1
        have n0 : ∀ w : Later (v.val.alloc (.cells #[.int .i64 A, .int .i64 (N A)] 36)).heap.size (v.val.alloc (.cells #[.int .i64 A, .int .i64 (N A)] 36)), w.val.cell? ⟨g, 0, none⟩ = some (.int .i64 C) := fun w => (HTz.out w).c0
        have n1 : ∀ w : Later (v.val.alloc (.cells #[.int .i64 A, .int .i64 (N A)] 36)).heap.size (v.val.alloc (.cells #[.int .i64 A, .int .i64 (N A)] 36)), w.val.cell? ⟨g, 1, none⟩ = some (.int .i64 (N C)) := fun w => (HTz.out w).c1
        have HVz : Hid (∀ w : Later (v.val.alloc (.cells #[.int .i64 A, .int .i64 (N A)] 36)).heap.size (v.val.alloc (.cells #[.int .i64 A, .int .i64 (N A)] 36)), ∃ w' : Later g V, w'.val = w.val) := Lib.hid (fun w => ⟨(v.alloc _).to w.val (w.below.mono (by have := (v.alloc (.cells #[.int .i64 A, .int .i64 (N A)] 36)).size; exact this)), rfl⟩)
        have KWz : Hid (∀ (w : Later (v.val.alloc (.cells #[.int .i64 A, .int .i64 (N A)] 36)).heap.size (v.val.alloc (.cells #[.int .i64 A, .int .i64 (N A)] 36))) (s : Nat), s < 256 → Calls Try.prog 22 #[.agg #[.int .i64 s, .int .i64 (N s)], .slice b ws.length capb] w.val (Ret (v.val.alloc (.cells #[.int .i64 A, .int .i64 (N A)] 36)).heap.size (v.val.alloc (.cells #[.int .i64 A, .int .i64 (N A)] 36)) (.int .i64 (F s)))) := Lib.hid (fun w s hs => KW.out _ _ w s ((HWv.out.to v).to ((Later.self v.val).alloc _)) hs)
        have HVB : Hid (∀ w : Later (v.val.alloc (.cells #[.int .i64 A, .int .i64 (N A)] 36)).heap.size (v.val.alloc (.cells #[.int .i64 A, .int .i64 (N A)] 36)), ∃ w' : Later B W, w'.val = w.val) := Lib.hid (fun w => by
          obtain ⟨w', hw'⟩ := HVz.out w
          obtain ⟨w2, hw2⟩ := HV.out w'
          exact ⟨w2, by rw [hw2, hw']⟩)
        obtain ⟨z, hz⟩ : ∃ z : Later (v.val.alloc (.cells #[.int .i64 A, .int .i64 (N A)] 36)).heap.size (v.val.alloc (.cells #[.int .i64 A, .int .i64 (N A)] 36)), z.val = (v.val.alloc (.cells #[.int .i64 A, .int .i64 (N A)] 36)) := ⟨Later.self _, rfl⟩
        go_upto_region 20 with fail
        rw [← hz]
        clear hz TZ x0 x1
        generalize v.val.heap.size = gz at *
        generalize (v.val.alloc (.cells #[.int .i64 A, .int .i64 (N A)] 36)) = Z at *
        by_cases hki : k = it
        · have hFA := HQ.out hki
          have d1 : (F A == F C) = true := by rw [beq_iff_eq, HFC.out]; exact hFA
          have HFA := Lib.hid hFA
          have HAe := Lib.hid (HA.out hki)
          clear hFA HQ HQ2 HA hki
          refine wp_region_later z (by kernel_rfl) (by kernel_rfl) (fun _ => ?_)
          repeat (first | go_big_quiet_step ((go_at_call 22; exact KWz.out _ _ (by first | exact hA8 | exact hC8))) | (refine wpQuiet_step (fun K hK => ?_); go_simp; refine ⟨_, fun _ => rfl, ?_⟩; refine hK _ ?_; clear hK K))
          refine wpQuiet_nil ?_
          intro z
          go_upto_region 21 with fail
          refine wp_region_later z (by kernel_rfl) (by kernel_rfl) (fun _ => ?_)
          repeat (first | go_big_quiet_step ((go_at_call 22; exact KWz.out _ _ (by first | exact hA8 | exact hC8))) | (refine wpQuiet_step (fun K hK => ?_); go_simp; refine ⟨_, fun _ => rfl, ?_⟩; refine hK _ ?_; clear hK K))
          refine wpQuiet_nil ?_
          intro z
          go_wp2
          go_ret3
          exact Ret.of (HVB.out z) (by rw [HAe.out, ← HFA.out]; rfl)
        · have hFA := HQ2.out hki
          have d1 : (F A == F C) = false := by rw [beq_eq_false_iff_ne, HFC.out]; omega
          clear hFA HQ HQ2 HA
          refine wp_region_later z (by kernel_rfl) (by kernel_rfl) (fun _ => ?_)
          repeat (first | go_big_quiet_step ((go_at_call 22; exact KWz.out _ _ (by first | exact hA8 | exact hC8))) | (refine wpQuiet_step (fun K hK => ?_); go_simp; refine ⟨_, fun _ => rfl, ?_⟩; refine hK _ ?_; clear hK K))
          refine wpQuiet_nil ?_
          intro z
          go_wp2
          go_roundw
          case rel =>
            obtain ⟨w', hw'⟩ := HVz.out z
            exact ⟨k+1, w', by omega, by go_num, hw'.symm, Lib.hid (by rw [hw']; exact HTz.out z)⟩
          case measure => simp [intOf]; omega
    | true =>
      go_wp2
      go_loopw [12, 35] (fun p o wr => ∃ (k : Nat) (v : Later g V), k ≤ vl.length ∧ p = .bool false ∧ o = .int .i64 k ∧ wr = v.val ∧ Hid (Two v.val g 36 (.int .i64 C) (.int .i64 (N C))) ∧ Hid (∀ j, j < k → sz (nand (L.getD j 0) C) = 1 → ¬ bett F (L.getD j 0) C)) (fun _ o _ => vl.length - (intOf o).toNat)
      case atStart => exact ⟨0, y, by omega, rfl, rfl, rfl, HT, Lib.hid (fun j hj => by omega)⟩
      case round =>
        obtain ⟨k, v, hk, rfl, rfl, rfl, HTv, hf⟩ := hrel
        by_cases hlt : k < vl.length
        case neg =>
          have hke : k = vl.length := by omega
          subst hke
          have HTy := Lib.hid HT.out.c0
          have HTw := Lib.hid HTv.out.c0
          go_wp2
          go_roundw
          case rel => exact ⟨false, C, v, hC8, rfl, rfl, HM, HTv, Lib.hid (fun _ => hf.out)⟩
          case measure => rw [HTy.out, HTw.out]; show 2 * _ + 0 < 2 * _ + 1; exact Nat.lt_succ_self _
        obtain ⟨_, _, _, hA8⟩ := HAt.out k hlt
        obtain ⟨x0, x1⟩ := HCv.out v k hlt
        have HMk := Lib.hid (HMem.out k hlt)
        have HFn : Hid ((sz (nand (L.getD k 0) C) = 1 → ¬ bett F (L.getD k 0) C) → ∀ j, j < k + 1 → sz (nand (L.getD j 0) C) = 1 → ¬ bett F (L.getD j 0) C) := Lib.hid (fun h j hj => by
          by_cases c : j = k
          · subst c; exact h
          · exact hf.out j (by omega))
        have hgv : g < v.val.heap.size := HTv.out.lt
        clear hf
        generalize L.getD k 0 = A at *
        have TZ : Two (v.val.alloc (.cells #[.int .i64 A, .int .i64 (N A)] 36)) v.val.heap.size 36 (.int .i64 A) (.int .i64 (N A)) := Two.new _ _ _ _
        have HTz : Hid (∀ w : Later (v.val.alloc (.cells #[.int .i64 A, .int .i64 (N A)] 36)).heap.size (v.val.alloc (.cells #[.int .i64 A, .int .i64 (N A)] 36)), Two w.val g 36 (.int .i64 C) (.int .i64 (N C))) := Lib.hid (fun w => (HTv.out.keep ((Below.refl _ _).alloc (Nat.le_refl _) _)).keep w.below)
        have b0 : ∀ w : Later (v.val.alloc (.cells #[.int .i64 A, .int .i64 (N A)] 36)).heap.size (v.val.alloc (.cells #[.int .i64 A, .int .i64 (N A)] 36)), w.val.cell? ⟨v.val.heap.size, 0, none⟩ = some (.int .i64 A) := fun w => (TZ.keep w.below).c0
        have b1 : ∀ w : Later (v.val.alloc (.cells #[.int .i64 A, .int .i64 (N A)] 36)).heap.size (v.val.alloc (.cells #[.int .i64 A, .int .i64 (N A)] 36)), w.val.cell? ⟨v.val.heap.size, 1, none⟩ = some (.int .i64 (N A)) := fun w => (TZ.keep w.below).c1
        have n0 : ∀ w : Later (v.val.alloc (.cells #[.int .i64 A, .int .i64 (N A)] 36)).heap.size (v.val.alloc (.cells #[.int .i64 A, .int .i64 (N A)] 36)), w.val.cell? ⟨g, 0, none⟩ = some (.int .i64 C) := fun w => (HTz.out w).c0
        have n1 : ∀ w : Later (v.val.alloc (.cells #[.int .i64 A, .int .i64 (N A)] 36)).heap.size (v.val.alloc (.cells #[.int .i64 A, .int .i64 (N A)] 36)), w.val.cell? ⟨g, 1, none⟩ = some (.int .i64 (N C)) := fun w => (HTz.out w).c1
        have HVz : Hid (∀ w : Later (v.val.alloc (.cells #[.int .i64 A, .int .i64 (N A)] 36)).heap.size (v.val.alloc (.cells #[.int .i64 A, .int .i64 (N A)] 36)), ∃ w' : Later g V, w'.val = w.val) := Lib.hid (fun w => ⟨(v.alloc _).to w.val (w.below.mono (by have := (v.alloc (.cells #[.int .i64 A, .int .i64 (N A)] 36)).size; exact this)), rfl⟩)
        have KS := Lib.hid (fun w : Later (v.val.alloc (.cells #[.int .i64 A, .int .i64 (N A)] 36)).heap.size (v.val.alloc (.cells #[.int .i64 A, .int .i64 (N A)] 36)) => c_size_values w (nand A C) (nand_lt _ _ 8 hA8))
        have KWz : Hid (∀ (w : Later (v.val.alloc (.cells #[.int .i64 A, .int .i64 (N A)] 36)).heap.size (v.val.alloc (.cells #[.int .i64 A, .int .i64 (N A)] 36))) (s : Nat), s < 256 → Calls Try.prog 22 #[.agg #[.int .i64 s, .int .i64 (N s)], .slice b ws.length capb] w.val (Ret (v.val.alloc (.cells #[.int .i64 A, .int .i64 (N A)] 36)).heap.size (v.val.alloc (.cells #[.int .i64 A, .int .i64 (N A)] 36)) (.int .i64 (F s)))) := Lib.hid (fun w s hs => KW.out _ _ w s ((HWv.out.to v).to ((Later.self v.val).alloc _)) hs)
        have o1 := i64_andNot A C (by omega) (by omega)
        have hsz := sz_le (nand A C)
        obtain ⟨z, hz⟩ : ∃ z : Later (v.val.alloc (.cells #[.int .i64 A, .int .i64 (N A)] 36)).heap.size (v.val.alloc (.cells #[.int .i64 A, .int .i64 (N A)] 36)), z.val = (v.val.alloc (.cells #[.int .i64 A, .int .i64 (N A)] 36)) := ⟨Later.self _, rfl⟩
        go_upto_region 14 with fail
        rw [← hz]
        clear hz TZ x0 x1
        generalize v.val.heap.size = gz at *
        generalize (v.val.alloc (.cells #[.int .i64 A, .int .i64 (N A)] 36)) = Z at *
        by_cases hb : sz (nand A C) = 1 ∧ bett F A C
        · have HB := Lib.hid hb
          obtain ⟨h1, h2⟩ := hb
          have e1 : ((sz (nand A C) : Nat) : Int) = 1 := by omega
          rw [e1] at KS
          have hcases : (decide (F C < F A) = true) ∨ (decide (F C < F A) = false ∧ (F A == F C) = true ∧ decide (A < C) = true) := by
            unfold bett at h2
            rcases h2 with h2 | ⟨h2, h3⟩
            · exact .inl (decide_eq_true h2)
            · exact .inr ⟨decide_eq_false (by omega), beq_iff_eq.2 h2, decide_eq_true h3⟩
          clear h1 h2 e1 hsz HFn
          rcases hcases with d1 | ⟨d1, d2, d3⟩
          all_goals
            refine wp_region_later z (by kernel_rfl) (by kernel_rfl) (fun _ => ?_)
            repeat (first | go_big_quiet_step ((first | (go_at_call 21; exact KS.out _) | (go_at_call 22; exact KWz.out _ _ (by first | exact hA8 | exact hC8)))) | (refine wpQuiet_step (fun K hK => ?_); go_simp; refine ⟨_, fun _ => rfl, ?_⟩; refine hK _ ?_; clear hK K))
            refine wpQuiet_nil ?_
            intro z
            have n0z := n0 z
            have n1z := n1 z
            have b0z := b0 z
            have b1z := b1 z
            have hTz := HTz.out z
            have f0 : z.val.frozen? ⟨g, 0, none⟩ = false := hTz.fz 0
            have f1 : (z.val.setCell ⟨g, 0, none⟩ (.int .i64 A)).frozen? ⟨g, 1, none⟩ = false := (hTz.set0 _).fz 1
            have n2z : (z.val.setCell ⟨g, 0, none⟩ (.int .i64 A)).cell? ⟨g, 1, none⟩ = some (.int .i64 (N C)) := (hTz.set0 _).c1
            have HTy := Lib.hid HT.out.c0
            have HTn : Hid (Two ((z.val.setCell ⟨g, 0, none⟩ (.int .i64 A)).setCell ⟨g, 1, none⟩ (.int .i64 (N A))) g 36 (.int .i64 A) (.int .i64 (N A))) := Lib.hid ((hTz.set0 _).set1 _)
            have HLt := Lib.hid (cntB_less HB.out.2 HMk.out)
            have HVw := Lib.hid (HVz.out z)
            clear hTz
            go_wp2
            go_roundw
            case rel =>
              obtain ⟨w', hw'⟩ := later_set (later_set HVw.out (g := g) (i := 0) (Nat.le_refl _) (.int .i64 A)) (g := g) (i := 1) (Nat.le_refl _) (.int .i64 (N A))
              exact ⟨true, A, w', hA8, rfl, hw'.symm, HMk, by rw [hw']; exact HTn, Lib.hid (fun c => by cases c)⟩
            case measure =>
              rw [HTy.out, HTn.out.c0]
              show 2 * cntB F L A + 1 < 2 * cntB F L C + 1
              have := HLt.out
              omega
        · have HN1 := Lib.hid (HFn.out (fun h1 h2 => hb ⟨h1, h2⟩))
          have hcases : (((sz (nand A C) : Nat) : Int) == 1) = false ∨ (((sz (nand A C) : Nat) : Int) == 1) = true ∧ decide (F C < F A) = false ∧ ((F A == F C) = false ∨ (F A == F C) = true ∧ decide (A < C) = false) := by
            unfold bett at hb
            by_cases h1 : sz (nand A C) = 1
            · right
              refine ⟨beq_iff_eq.2 (by omega), decide_eq_false (fun c => hb ⟨h1, .inl c⟩), ?_⟩
              by_cases h2 : F A = F C
              · exact .inr ⟨beq_iff_eq.2 h2, decide_eq_false (fun c => hb ⟨h1, .inr ⟨h2, c⟩⟩)⟩
              · exact .inl (beq_eq_false_iff_ne.2 h2)
            · exact .inl (beq_eq_false_iff_ne.2 (by omega))
          clear hb HFn
          rcases hcases with d1 | ⟨d1, d2, d3 | ⟨d3, d4⟩⟩
          all_goals
            refine wp_region_later z (by kernel_rfl) (by kernel_rfl) (fun _ => ?_)
            repeat (first | go_big_quiet_step ((first | (go_at_call 21; exact KS.out _) | (go_at_call 22; exact KWz.out _ _ (by first | exact hA8 | exact hC8)))) | (refine wpQuiet_step (fun K hK => ?_); go_simp; refine ⟨_, fun _ => rfl, ?_⟩; refine hK _ ?_; clear hK K))
            refine wpQuiet_nil ?_
            intro z
            go_wp2
            go_roundw
            case rel =>
              obtain ⟨w', hw'⟩ := HVz.out z
              exact ⟨k+1, w', by omega, rfl, by go_num, hw'.symm, Lib.hid (by rw [hw']; exact HTz.out z), HN1⟩
            case measure => simp [intOf]; omega

end Go.Proofs.Ytmhjhdgaecdloaa
