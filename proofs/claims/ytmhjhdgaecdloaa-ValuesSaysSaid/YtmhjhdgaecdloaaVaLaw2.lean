
/-
  rotalaw.ValuesSays, where the values are right.
-/
import Derived.Test.YtmhjhdgaecdloaaVaLaw
namespace Go.Proofs.Ytmhjhdgaecdloaa
open Go.RowKit
set_option linter.unusedVariables false

/-- what Best answers where the values are right -/
structure ValAns (m : Nat) (vl : List (Int × Int)) (ws : List Int) (pe : Int) (b1 v1 f1 mi : Int) (IL : List Int) (PL : List (Int × Int)) (f3 : Int) : Prop where
  bad : pe ≠ 0 → b1 = 0 ∧ v1 = 0 ∧ f1 = pe ∧ mi = 0 ∧ IL = [] ∧ PL = [] ∧ f3 = pe
  good : pe = 0 → f1 = 0 ∧ mi = (m : Int) ∧ ∃ it xt, IsTop (fun j => wrth (valN vl) (fun i => ws.getD i 0) m ((vlL vl).getD j 0)) vl.length it xt ∧ b1 = (((vlL vl).getD it 0 : Nat) : Int) ∧ v1 = xt ∧ IL = iniTo (vlL vl) (wrth (valN vl) (fun i => ws.getD i 0) m) xt vl.length ∧ PL = prcL (wrth (valN vl) (fun i => ws.getD i 0) m) (vlL vl) vl.length ∧ f3 = prcE (wrth (valN vl) (fun i => ws.getD i 0) m) (vlL vl) vl.length
theorem VlOk.pos {n : Int} {vl : List (Int × Int)} (h : VlOk n vl) : 0 < vl.length := by
  have := h.ok.2.1
  rcases Nat.eq_zero_or_pos vl.length with c | c
  · have : valB vl = [] := List.length_eq_zero_iff.1 (by rw [valB_len]; exact c)
    exact absurd this h.ok.2.1
  · exact c
theorem val_any (m : Nat) (hm : m ≤ 8) (vl : List (Int × Int)) (hlen : vl.length ≤ 17592186044416) (he : VlIs (m : Int) vl 0) (hok : VlOk (m : Int) vl) (hV : ExV (vlL vl) (valN vl)) (ws : List Int) (hwl : ws.length ≤ 4611686018427387904) (pe : Int) (hp : PrcIs m ws pe) : ∃ b1 v1 f1 mi IL PL f3, ValAns m vl ws pe b1 v1 f1 mi IL PL f3 ∧ IL.length ≤ 256 ∧
    (∀ (B : Nat) (W : World) (v : Later B W) (a b : Option Addr) (cap capb : Nat), EdgesAt B W a vl → IntsAt B W b ws → Calls Try.prog 5 #[.int .i64 m, .slice a vl.length cap, .slice b ws.length capb] v.val (Ret B W (.tuple #[.int .i64 b1, .int .i64 v1, .int .i64 f1]))) ∧
    (∀ (B : Nat) (W : World) (v : Later B W) (a b : Option Addr) (cap capb : Nat), EdgesAt B W a vl → IntsAt B W b ws → Calls Try.prog 6 #[.int .i64 m, .slice a vl.length cap, .slice b ws.length capb] v.val (RetP B W (fun v w => ∃ ad cp, v = .tuple #[.agg #[.int .i64 mi, .slice ad IL.length cp], .int .i64 f1] ∧ IntsAt w.heap.size w ad IL))) ∧
    (∀ (B : Nat) (W : World) (v : Later B W) (a b : Option Addr) (cap capb : Nat), EdgesAt B W a vl → IntsAt B W b ws → Calls Try.prog 8 #[.int .i64 m, .slice a vl.length cap, .slice b ws.length capb] v.val (RetP B W (fun v w => ∃ ad cp, v = .tuple #[.slice ad PL.length cp, .int .i64 f3] ∧ EdgesAt w.heap.size w ad PL))) := by
  by_cases h0 : pe = 0
  · subst h0
    obtain ⟨it, xt, ht⟩ := IsTop.ex (fun j => wrth (valN vl) (fun i => ws.getD i 0) m ((vlL vl).getD j 0)) vl.length hok.pos
    refine ⟨_, xt, 0, m, _, _, _, ⟨fun c => absurd rfl c, fun _ => ⟨rfl, rfl, it, xt, ht, rfl, rfl, rfl, rfl, rfl⟩⟩, Nat.le_trans (iniTo_len _ _ _ _) hok.len256, fun B W v a b cap capb h hw => c_best v m hm vl a cap h hlen he hok hV ws b capb hw hwl hp it xt ht, fun B W v a b cap capb h hw => c_initial v m hm vl a cap h hlen he hok hV ws b capb hw hwl hp it xt ht, fun B W v a b cap capb h hw => c_priced v m hm vl a cap h hlen he hok ws b capb hw hwl hp⟩
  · refine ⟨0, 0, pe, 0, [], [], pe, ⟨fun _ => ⟨rfl, rfl, rfl, rfl, rfl, rfl, rfl⟩, fun c => absurd c h0⟩, by simp, fun B W v a b cap capb h hw => c_best_pr v m hm vl a cap h hlen he ws b capb hw hwl pe hp h0, fun B W v a b cap capb h hw => ?_, fun B W v a b cap capb h hw => ?_⟩
    · refine (c_initial_no v (m : Int) (.slice a vl.length cap) (.slice b ws.length capb) 0 0 pe h0 (fun z w => c_best_pr w m hm vl a cap (h.to z) hlen he ws b capb (hw.to z) hwl pe hp h0)).mono ?_
      rintro _ _ ⟨rfl, w, rfl⟩
      exact RetP.mk w ⟨none, 0, rfl, IntsAt.nil⟩
    · refine (c_priced_pr v m hm vl a cap h hlen he ws b capb hw hwl pe hp h0).mono ?_
      rintro _ _ ⟨rfl, w, rfl⟩
      exact RetP.mk w ⟨none, 0, rfl, fun h => absurd rfl h⟩

theorem nand_allV (n s : Nat) (hn : n ≤ 8) (hs : s < bit n) : nand (bit n - 1) s = bit n - 1 - s := by
  have : ∀ n : Fin 9, ∀ s : Fin 256, s.val < bit n.val → nand (bit n.val - 1) s.val = bit n.val - 1 - s.val := by decide +kernel
  have hb := bit_le n hn
  exact this ⟨n, by omega⟩ ⟨s, by omega⟩ hs
/-- the greatest of the first ones and the first one -/
def mxTo (F : Nat → Int) (L : List Nat) (q k : Nat) (x : Int) : Prop := (∀ j, j < k → F (L.getD j 0) ≤ x) ∧ F (L.getD 0 0) ≤ x ∧ ∃ j, j < q ∧ F (L.getD j 0) = x

set_option maxRecDepth 100000 in
set_option maxHeartbeats 80000000 in
theorem law_val_ok {B : Nat} {W : World} (u : Later B W) (m : Nat) (hm : m ≤ 8) (vl : List (Int × Int)) (a : Option Addr) (cap : Nat) (h : EdgesAt B W a vl) (hlen : vl.length ≤ 17592186044416) (he : VlIs (m : Int) vl 0) (hok : VlOk (m : Int) vl) (hV : ExV (vlL vl) (valN vl)) (ws : List Int) (b : Option Addr) (capb : Nat) (hw : IntsAt B W b ws) (hwl : ws.length ≤ 4611686018427387904) :
    Calls Try.prog 3 #[.int .i64 m, .slice a vl.length cap, .slice b ws.length capb] u.val (Ret B W (.bool true)) := by
  obtain ⟨pe, hp⟩ := PrcIs.ex m ws
  obtain ⟨b1, v1, f1, mi, IL, PL, f3, hAns, hIL, hKB, hKI, hKP⟩ := val_any m hm vl hlen he hok hV ws hwl pe hp
  have hb := bit_le m hm
  have bc := bit_cast m
  have h256 := hok.len256
  have hpos := hok.pos
  have HAt : Hid (∀ i, i < vl.length → (vl.getD i (0, 0)).1 = (((vlL vl).getD i 0 : Nat) : Int) ∧ (vl.getD i (0, 0)).2 = valN vl ((vlL vl).getD i 0) ∧ (vlL vl).getD i 0 < bit m ∧ (vlL vl).getD i 0 < 256) := Lib.hid (fun i hi => hok.at_ hi)
  have K1 := Lib.hid (c_refValues u (m : Int) vl a cap h hlen 0 he)
  have K2 := Lib.hid (fun v : Later B W => hKB B W v a b cap capb h hw)
  have K3 := Lib.hid (fun v : Later B W => hKI B W v a b cap capb h hw)
  have K4 := Lib.hid (fun (B : Nat) (W : World) (v : Later B W) (h : EdgesAt B W a vl) => c_dual v m hm vl a cap h hlen he hok)
  have K5 := Lib.hid hKP
  have K6 := Lib.hid (fun (B : Nat) (W : World) (v : Later B W) (h : EdgesAt B W a vl) => c_valCheck v (m : Int) vl a cap h hlen 0 he)
  have K7 := Lib.hid (fun (B : Nat) (W : World) (v : Later B W) (h : IntsAt B W b ws) => c_refPriced v m ws b capb pe h hwl hm hp)
  have HE := Lib.hid h
  have HW := Lib.hid hw
  have HAns := Lib.hid hAns
  have KRW : Hid (pe = 0 → ∀ (B : Nat) (W : World) (v : Later B W) (s : Nat), IntsAt B W b ws → s < bit m → Calls Try.prog 14 #[.agg #[.int .i64 s, .int .i64 (valN vl s)], .slice b ws.length capb] v.val (Ret B W (.int .i64 (wrth (valN vl) (fun i => ws.getD i 0) m s)))) := Lib.hid (fun c B W v s hw hs => by subst c; exact c_refWorth v m s (valN vl s) (hok.bd s).1 (hok.bd s).2 hm hs ws b capb hw hp)
  have HBd : Hid (pe = 0 → ∀ s, -10000 ≤ wrth (valN vl) (fun i => ws.getD i 0) m s ∧ wrth (valN vl) (fun i => ws.getD i 0) m s ≤ 10000) := Lib.hid (fun c s => by
    subst c
    have h1 := wsT_bd (s := s) hp.ok.2 m (Nat.le_refl _)
    have h2 := hok.bd s
    unfold wrth valN
    omega)
  clear h he hok hV hw hp hAns hKB hKI hKP
  go_enter Try.func3, Try.ntmps3
  go_upto_region 3 with (first | (go_at_call 4; (with_reducible refine (K1.out).mono ?_); rintro e _ ⟨rfl, y1, rfl⟩) | (go_at_call 5; (with_reducible refine (K2.out _).mono ?_); rintro e _ ⟨rfl, y2, rfl⟩))
  go_upto_region 4 with (first | (go_at_call 6; (with_reducible refine (K3.out _).mono ?_); rintro e _ ⟨_, rfl, ⟨ai, ci, rfl, hIi⟩, y3, rfl⟩))
  clear K1 K2 K3
  have TM : Two (y3.val.alloc (.cells #[.int .i64 mi, .slice ai IL.length ci] 29)) y3.val.heap.size 29 (.int .i64 mi) (.slice ai IL.length ci) := Two.new _ _ _ _
  have m0 : ∀ w : Later (y3.val.alloc (.cells #[.int .i64 mi, .slice ai IL.length ci] 29)).heap.size (y3.val.alloc (.cells #[.int .i64 mi, .slice ai IL.length ci] 29)), w.val.cell? ⟨y3.val.heap.size, 0, none⟩ = some (.int .i64 mi) := fun w => (TM.keep w.below).c0
  have m1 : ∀ w : Later (y3.val.alloc (.cells #[.int .i64 mi, .slice ai IL.length ci] 29)).heap.size (y3.val.alloc (.cells #[.int .i64 mi, .slice ai IL.length ci] 29)), w.val.cell? ⟨y3.val.heap.size, 1, none⟩ = some (.slice ai IL.length ci) := fun w => (TM.keep w.below).c1
  have HE2 : Hid (EdgesAt (y3.val.alloc (.cells #[.int .i64 mi, .slice ai IL.length ci] 29)).heap.size (y3.val.alloc (.cells #[.int .i64 mi, .slice ai IL.length ci] 29)) a vl) := Lib.hid (HE.out.to (y3.alloc _))
  have HW2 : Hid (IntsAt (y3.val.alloc (.cells #[.int .i64 mi, .slice ai IL.length ci] 29)).heap.size (y3.val.alloc (.cells #[.int .i64 mi, .slice ai IL.length ci] 29)) b ws) := Lib.hid (HW.out.to (y3.alloc _))
  have HI2 : Hid (IntsAt (y3.val.alloc (.cells #[.int .i64 mi, .slice ai IL.length ci] 29)).heap.size (y3.val.alloc (.cells #[.int .i64 mi, .slice ai IL.length ci] 29)) ai IL) := Lib.hid (hIi.to ((Later.self y3.val).alloc _))
  have HVz : Hid (∀ w : Later (y3.val.alloc (.cells #[.int .i64 mi, .slice ai IL.length ci] 29)).heap.size (y3.val.alloc (.cells #[.int .i64 mi, .slice ai IL.length ci] 29)), ∃ w' : Later B W, w'.val = w.val) := Lib.hid (fun w => ⟨(y3.alloc _).up w, rfl⟩)
  have K4z := Lib.hid (fun w : Later (y3.val.alloc (.cells #[.int .i64 mi, .slice ai IL.length ci] 29)).heap.size (y3.val.alloc (.cells #[.int .i64 mi, .slice ai IL.length ci] 29)) => K4.out _ _ (Later.self w.val) (HE2.out.to w))
  have K5z := Lib.hid (fun w : Later (y3.val.alloc (.cells #[.int .i64 mi, .slice ai IL.length ci] 29)).heap.size (y3.val.alloc (.cells #[.int .i64 mi, .slice ai IL.length ci] 29)) => K5.out _ _ (Later.self w.val) a b cap capb (HE2.out.to w) (HW2.out.to w))
  dsimp only [Later.self] at K4z K5z
  obtain ⟨y, hy⟩ : ∃ y : Later (y3.val.alloc (.cells #[.int .i64 mi, .slice ai IL.length ci] 29)).heap.size (y3.val.alloc (.cells #[.int .i64 mi, .slice ai IL.length ci] 29)), y.val = (y3.val.alloc (.cells #[.int .i64 mi, .slice ai IL.length ci] 29)) := ⟨Later.self _, rfl⟩
  rw [← hy]
  clear hy TM hIi K4 K5 HE HW
  generalize y3.val.heap.size = gm at *
  generalize (y3.val.alloc (.cells #[.int .i64 mi, .slice ai IL.length ci] 29)) = V at *
  clear y1 y2 y3
  go_upto_region 5 with (first | (go_at_call 7; (with_reducible refine (K4z.out _).mono ?_); rintro e _ ⟨_, rfl, ⟨ad, cd, rfl, hDl⟩, y4, rfl⟩))
  have HDl := Lib.hid hDl
  have K5y := Lib.hid (K5z.out (y.up y4))
  dsimp only [Later.up, Later.to] at K5y
  clear hDl K5z K4z
  go_upto_region 6 with (first | (go_at_call 8; (with_reducible refine (K5y.out).mono ?_); rintro e _ ⟨_, rfl, ⟨ap, cq, rfl, hPl⟩, y5, rfl⟩))
  have HE5 : Hid (EdgesAt y5.val.heap.size y5.val a vl) := Lib.hid ((HE2.out.to (y.up y4)).to y5)
  have HW5 : Hid (IntsAt y5.val.heap.size y5.val b ws) := Lib.hid ((HW2.out.to (y.up y4)).to y5)
  have HI5 : Hid (IntsAt y5.val.heap.size y5.val ai IL) := Lib.hid ((HI2.out.to (y.up y4)).to y5)
  have HD5 := Lib.hid (HDl.out.to y5)
  have HP5 : Hid (EdgesAt y5.val.heap.size y5.val ap PL) := Lib.hid hPl
  have m05 : ∀ w : Later y5.val.heap.size y5.val, w.val.cell? ⟨gm, 0, none⟩ = some (.int .i64 mi) := fun w => m0 (((y.up y4).up y5).up w)
  have m15 : ∀ w : Later y5.val.heap.size y5.val, w.val.cell? ⟨gm, 1, none⟩ = some (.slice ai IL.length ci) := fun w => m1 (((y.up y4).up y5).up w)
  have HV5 : Hid (∀ w : Later y5.val.heap.size y5.val, ∃ w' : Later B W, w'.val = w.val) := Lib.hid (fun w => HVz.out (((y.up y4).up y5).up w))
  clear HE2 HW2 HI2 HDl hPl m0 m1 HVz K5y
  obtain ⟨z, hz⟩ : ∃ z : Later y5.val.heap.size y5.val, z.val = y5.val := ⟨Later.self _, rfl⟩
  rw [← hz]
  clear hz
  generalize y5.val = U at *
  clear y5 y4 y
  have K6u := Lib.hid (fun w : Later U.heap.size U => K6.out _ _ w HE5.out)
  have K7u := Lib.hid (fun w : Later U.heap.size U => K7.out _ _ w HW5.out)
  have KAll : Hid (∀ w : Later U.heap.size U, Calls Try.prog 10 #[.int .i64 m] w.val (Ret U.heap.size U (.int .i64 ((bit m - 1 : Nat) : Int)))) := Lib.hid (fun w => by
    have := c_all w (m : Int) (by omega) (by omega)
    rwa [all_nat] at this)
  have HRW : Hid (pe = 0 → ∀ (w : Later U.heap.size U) (s : Nat), s < bit m → Calls Try.prog 14 #[.agg #[.int .i64 s, .int .i64 (valN vl s)], .slice b ws.length capb] w.val (Ret U.heap.size U (.int .i64 (wrth (valN vl) (fun i => ws.getD i 0) m s)))) := Lib.hid (fun c w s hs => KRW.out c _ _ w s HW5.out hs)
  have HRX : Hid (pe = 0 → ∀ (x : Later U.heap.size U) (s : Nat), s < bit m → Calls Try.prog 14 #[.agg #[.int .i64 s, .int .i64 (valN vl s)], .slice b ws.length capb] x.val (Ret x.val.heap.size x.val (.int .i64 (wrth (valN vl) (fun i => ws.getD i 0) m s)))) := Lib.hid (fun c x s hs => KRW.out c _ _ (Later.self x.val) s (HW5.out.to x) hs)
  obtain ⟨ba, oa, rfl, hba, hca⟩ := HE5.out.at hpos
  have HCa : Hid (∀ (w : Later U.heap.size U) (i : Nat), i < vl.length → w.val.cell? ⟨ba, oa + i * 2, none⟩ = some (.int .i64 (((vlL vl).getD i 0 : Nat) : Int)) ∧ w.val.cell? ⟨ba, oa + i * 2 + 1, none⟩ = some (.int .i64 (valN vl ((vlL vl).getD i 0)))) := Lib.hid (fun w i hi => by
    obtain ⟨c1, c2⟩ := hca w i hi
    obtain ⟨e1, e2, _, _⟩ := HAt.out i hi
    rw [e1] at c1
    rw [e2] at c2
    exact ⟨c1, c2⟩)
  obtain ⟨bd, od, rfl, hbd, hcd⟩ := HD5.out.at (k := 0) (by rw [pairsTo_len]; exact hpos)
  have HCd : Hid (∀ (w : Later U.heap.size U) (q k : Nat), q < vl.length → vl.length - 1 - q = k → w.val.cell? ⟨bd, od + q * 2, none⟩ = some (.int .i64 ((nand (bit m - 1) ((vlL vl).getD k 0) : Nat) : Int)) ∧ w.val.cell? ⟨bd, od + q * 2 + 1, none⟩ = some (.int .i64 (valN vl ((vlL vl).getD k 0)))) := Lib.hid (fun w q k hq hk => by
    have := hcd w q (by rw [pairsTo_len]; exact hq)
    rw [pairsTo_getD _ hq] at this
    rw [← hk]
    exact this)
  have HLm : Hid (∀ i, i < vl.length → (vlL vl).getD i 0 < bit m) := Lib.hid (fun i hi => (HAt.out i hi).2.2.1)
  clear hca hcd HE5 HD5 HAt K6 K7 KRW HW5 hba hbd
  obtain ⟨hA1, hA2⟩ := HAns.out
  have HA1 := Lib.hid hA1
  have HA2 := Lib.hid hA2
  clear hA1 hA2 HAns
  generalize wrth (valN vl) (fun i => ws.getD i 0) m = F at *
  generalize valN vl = N at *
  generalize vlL vl = L at *
  go_upto_region 11 with (first | (go_at_call 9; (with_reducible refine (K6u.out _).mono ?_); rintro e _ ⟨rfl, z2, rfl⟩))
  clear K6u z
  go_wp2
  go_loopw [85] (fun o wr => ∃ (k : Nat) (v : Later U.heap.size U), k ≤ vl.length ∧ o = .int .i64 k ∧ wr = v.val) (fun o _ => vl.length - (intOf o).toNat)
  case atStart => exact ⟨0, z2, by omega, rfl, rfl⟩
  case round =>
    clear z2
    obtain ⟨k, v, hk, rfl, rfl⟩ := hrel
    by_cases hlt : k < vl.length
    · obtain ⟨q, hq⟩ : ∃ q : Nat, vl.length - 1 - k = q := ⟨_, rfl⟩
      have hqz : (vl.length : Int) - 1 - (k : Int) = (q : Int) := by omega
      have hql : q < vl.length := by omega
      obtain ⟨x0, x1⟩ := HCd.out v q k hql (by omega)
      have y0 := fun w => (HCa.out w k hlt).1
      have y1 := fun w => (HCa.out w k hlt).2
      have hAm := HLm.out k hlt
      clear HA1 HA2 HCd HCa HLm K7u HRW HRX HBd HP5 HI5 hq m05 m15
      generalize L.getD k 0 = A at *
      have hn1 := nand_allV m A hm hAm
      have wA : IntKind.i64.wrap (((bit m - 1 : Nat) : Int) - (A : Int)) = ((nand (bit m - 1) A : Nat) : Int) := by rw [IntWalk.i64_in _ (by omega)]; omega
      clear hn1
      generalize nand (bit m - 1) A = nA at *
      have TZ : Two (v.val.alloc (.cells #[.int .i64 nA, .int .i64 (N A)] 36)) v.val.heap.size 36 (.int .i64 nA) (.int .i64 (N A)) := Two.new _ _ _ _
      have b0 : ∀ w : Later (v.val.alloc (.cells #[.int .i64 nA, .int .i64 (N A)] 36)).heap.size (v.val.alloc (.cells #[.int .i64 nA, .int .i64 (N A)] 36)), w.val.cell? ⟨v.val.heap.size, 0, none⟩ = some (.int .i64 nA) := fun w => (TZ.keep w.below).c0
      have b1 : ∀ w : Later (v.val.alloc (.cells #[.int .i64 nA, .int .i64 (N A)] 36)).heap.size (v.val.alloc (.cells #[.int .i64 nA, .int .i64 (N A)] 36)), w.val.cell? ⟨v.val.heap.size, 1, none⟩ = some (.int .i64 (N A)) := fun w => (TZ.keep w.below).c1
      have a0 : ∀ w : Later (v.val.alloc (.cells #[.int .i64 nA, .int .i64 (N A)] 36)).heap.size (v.val.alloc (.cells #[.int .i64 nA, .int .i64 (N A)] 36)), w.val.cell? ⟨ba, oa + k * 2, none⟩ = some (.int .i64 A) := fun w => y0 ((v.alloc _).up w)
      have a1 : ∀ w : Later (v.val.alloc (.cells #[.int .i64 nA, .int .i64 (N A)] 36)).heap.size (v.val.alloc (.cells #[.int .i64 nA, .int .i64 (N A)] 36)), w.val.cell? ⟨ba, oa + k * 2 + 1, none⟩ = some (.int .i64 (N A)) := fun w => y1 ((v.alloc _).up w)
      have HVz : Hid (∀ w : Later (v.val.alloc (.cells #[.int .i64 nA, .int .i64 (N A)] 36)).heap.size (v.val.alloc (.cells #[.int .i64 nA, .int .i64 (N A)] 36)), ∃ w' : Later U.heap.size U, w'.val = w.val) := Lib.hid (fun w => ⟨(v.alloc _).up w, rfl⟩)
      have KAz : Hid (∀ w : Later (v.val.alloc (.cells #[.int .i64 nA, .int .i64 (N A)] 36)).heap.size (v.val.alloc (.cells #[.int .i64 nA, .int .i64 (N A)] 36)), Calls Try.prog 10 #[.int .i64 m] w.val (Ret (v.val.alloc (.cells #[.int .i64 nA, .int .i64 (N A)] 36)).heap.size (v.val.alloc (.cells #[.int .i64 nA, .int .i64 (N A)] 36)) (.int .i64 ((bit m - 1 : Nat) : Int)))) := Lib.hid (fun w => by
        have := c_all w (m : Int) (by omega) (by omega)
        rwa [all_nat] at this)
      obtain ⟨z, hz⟩ : ∃ z : Later (v.val.alloc (.cells #[.int .i64 nA, .int .i64 (N A)] 36)).heap.size (v.val.alloc (.cells #[.int .i64 nA, .int .i64 (N A)] 36)), z.val = (v.val.alloc (.cells #[.int .i64 nA, .int .i64 (N A)] 36)) := ⟨Later.self _, rfl⟩
      clear TZ y0 y1 KAll
      go_upto_region 15 with fail
      rw [← hz]
      clear hz x0 x1
      generalize v.val.heap.size = gz at *
      generalize (v.val.alloc (.cells #[.int .i64 nA, .int .i64 (N A)] 36)) = Z at *
      refine wp_region_later z (by kernel_rfl) (by kernel_rfl) (fun _ => ?_)
      repeat (first | go_big_quiet_step ((go_at_call 10; exact KAz.out _)) | (refine wpQuiet_step (fun K hK => ?_); go_simp; refine ⟨_, fun _ => rfl, ?_⟩; refine hK _ ?_; clear hK K))
      refine wpQuiet_nil ?_
      intro z
      go_wp2
      go_roundw
      case rel =>
        obtain ⟨w', hw'⟩ := HVz.out z
        exact ⟨k+1, w', by omega, by go_num, hw'.symm⟩
      case measure => simp [intOf]; omega
    · have hke : k = vl.length := by omega
      subst hke
      go_upto_region 19 with (first | (go_at_call 11; (with_reducible refine (K7u.out _).mono ?_); rintro e _ ⟨rfl, z, rfl⟩))
      clear K7u hlt hk
      by_cases h0 : pe = 0
      case neg =>
        obtain ⟨rfl, rfl, hf1, rfl, rfl, rfl, hf3⟩ := HA1.out h0
        subst hf1 hf3
        have d0 : (f3 != 0) = true := by rw [bne_iff_ne]; exact h0
        have KO := Lib.hid (fun w : Later U.heap.size U => c_one_no w 0 f3 h0)
        have KT : Hid (∀ w : Later U.heap.size U, Calls Try.prog 13 #[.agg #[.int .i64 0, .slice ai 0 ci], .int .i64 f3, .agg #[.int .i64 0, .slice ai 0 ci], .int .i64 f3] w.val (Ret U.heap.size U (.bool true))) := Lib.hid (fun w : Later U.heap.size U => c_told w 0 0 [] [] ai ai ci ci f3 f3 IntsAt.nil IntsAt.nil (Nat.zero_le _) rfl (by rw [if_neg h0]; exact ⟨rfl, rfl⟩))
        clear HA1 HA2 HCd HCa HLm HRW HRX HBd HP5 HI5 KAll h0
        go_wp2_with (first | (go_at_call 12; (with_reducible refine (KO.out _).mono ?_); rintro e _ ⟨rfl, z5, rfl⟩; have m0y := m05 z5; have m1y := m15 z5) | (go_at_call 13; (with_reducible refine (KT.out _).mono ?_); rintro e _ ⟨rfl, z6, rfl⟩))
        go_ret
        exact Ret.of (HV5.out z6) rfl
      subst h0
      obtain ⟨rfl, rfl, it, xt, htop, rfl, rfl, rfl, rfl, rfl⟩ := HA2.out rfl
      have HTop := Lib.hid htop
      have HRw := Lib.hid (HRW.out rfl)
      have HRx := Lib.hid (HRX.out rfl)
      have HBw := Lib.hid (HBd.out rfl)
      clear HA1 HA2 HCd HRW HRX HBd KAll htop
      obtain ⟨x0, x1⟩ := HCa.out z 0 hpos
      simp only [Nat.zero_mul, Nat.add_zero] at x0 x1
      have KW0 := Lib.hid (HRw.out z (L.getD 0 0) (HLm.out 0 hpos))
      have HM0 : Hid (mxTo F L vl.length 0 (F (L.getD 0 0))) := Lib.hid ⟨fun j hj => by omega, Int.le_refl _, 0, hpos, rfl⟩
      generalize L.getD 0 0 = C0 at *
      go_upto_region 22 with (first | (go_at_call 14; (with_reducible refine (KW0.out).mono ?_); rintro e _ ⟨rfl, z3, rfl⟩))
      clear x0 x1 KW0
      go_wp2
      go_loopw [19, 20, 157] (fun o p i wr => ∃ (k : Nat) (x : Int) (lg : Bool) (v : Later U.heap.size U), k ≤ vl.length ∧ i = .int .i64 k ∧ o = .int .i64 x ∧ p = .bool lg ∧ wr = v.val ∧ Hid (mxTo F L vl.length k x) ∧ Hid (lg = true ↔ ¬ inTo F L k)) (fun _ _ i _ => vl.length - (intOf i).toNat)
      case atStart => exact ⟨0, _, false, z3, by omega, rfl, rfl, rfl, rfl, HM0, Lib.hid ⟨fun c => (by cases c), fun c => absurd (fun i hi => by omega) c⟩⟩
      case round =>
        clear z3 HM0
        obtain ⟨k, x, lg, v, hk, rfl, rfl, rfl, rfl, HM, HG⟩ := hrel
        by_cases hlt : k < vl.length
        · obtain ⟨x0, x1⟩ := HCa.out v k hlt
          have KWk := Lib.hid (HRw.out v (L.getD k 0) (HLm.out k hlt))
          have hbd := HBw.out (L.getD k 0)
          have HMn : Hid (∀ y, (F (L.getD k 0) ≤ y) → x ≤ y → (y = x ∨ y = F (L.getD k 0)) → mxTo F L vl.length (k + 1) y) := Lib.hid (fun y h1 h2 h3 => by
            obtain ⟨e1, e2, j, e3, e4⟩ := HM.out
            refine ⟨fun j hj => ?_, by omega, ?_⟩
            · by_cases c : j = k
              · subst c; exact h1
              · have := e1 j (by omega); omega
            · rcases h3 with rfl | rfl
              · exact ⟨j, e3, e4⟩
              · exact ⟨k, hlt, rfl⟩)
          have HGn : Hid (∀ b : Bool, (b = true ↔ lg = true ∨ ¬ (-1000 ≤ F (L.getD k 0) ∧ F (L.getD k 0) ≤ 1000)) → (b = true ↔ ¬ inTo F L (k + 1))) := Lib.hid (fun b hb => by
            rw [hb, HG.out]
            constructor
            · rintro (h | h) c
              · exact h (fun i hi => c i (by omega))
              · exact h (c k (by omega))
            · intro h
              by_cases c : inTo F L k
              · right
                intro d
                exact h (fun i hi => by
                  by_cases e : i = k
                  · subst e; exact d
                  · exact c i (by omega))
              · exact .inl c)
          clear HM HG
          generalize L.getD k 0 = A at *
          generalize F A = fa at *
          cases lg with
          | true =>
            have HN : Hid (¬ inTo F L (k + 1)) := Lib.hid ((HGn.out true ⟨fun _ => .inl rfl, fun _ => rfl⟩).1 rfl)
            rcases ilt x fa with ⟨g1, p1⟩ | ⟨g1, p1⟩ <;> rcases ilt fa x with ⟨g2, p2⟩ | ⟨g2, p2⟩
            all_goals first | (exfalso; omega) | skip
            all_goals
              have H1 := HMn.out
              clear HMn HGn
              go_wp2_with (first | (go_at_call 14; (with_reducible refine (KWk.out).mono ?_); rintro e _ ⟨rfl, z4, rfl⟩))
              go_roundw
              case rel => exact ⟨k+1, _, true, z4, by omega, by go_num, rfl, rfl, rfl, Lib.hid (H1 _ (by omega) (by omega) (by first | exact .inl rfl | exact .inr rfl)), Lib.hid ⟨fun _ => HN.out, fun _ => rfl⟩⟩
              case measure => simp [intOf]; omega
          | false =>
            rcases ilt fa (-1000) with ⟨g3, p3⟩ | ⟨g3, p3⟩ <;> rcases ilt 1000 fa with ⟨g4, p4⟩ | ⟨g4, p4⟩ <;> rcases ilt x fa with ⟨g1, p1⟩ | ⟨g1, p1⟩ <;> rcases ilt fa x with ⟨g2, p2⟩ | ⟨g2, p2⟩
            all_goals first | (exfalso; omega) | skip
            all_goals
              have H1 := HMn.out
              have H2 := HGn.out
              clear HMn HGn
              go_wp2_with (first | (go_at_call 14; (with_reducible refine (KWk.out).mono ?_); rintro e _ ⟨rfl, z4, rfl⟩))
              go_roundw
              case rel =>
                first
                | exact ⟨k+1, _, true, z4, by omega, by go_num, rfl, rfl, rfl, Lib.hid (H1 _ (by omega) (by omega) (by first | exact .inl rfl | exact .inr rfl)), Lib.hid (H2 true ⟨fun _ => .inr (by omega), fun _ => rfl⟩)⟩
                | exact ⟨k+1, _, false, z4, by omega, by go_num, rfl, rfl, rfl, Lib.hid (H1 _ (by omega) (by omega) (by first | exact .inl rfl | exact .inr rfl)), Lib.hid (H2 false ⟨fun c => (by cases c), fun c => by rcases c with c | c <;> (first | cases c | omega)⟩)⟩
              case measure => simp [intOf]; omega
        · have hke : k = vl.length := by omega
          subst hke
          have hx : x = v1 := by
            obtain ⟨e1, e2, j, e3, e4⟩ := HM.out
            have h1 := e1 it HTop.out.lt
            have h2 := HTop.out.all j e3
            have h3 : F (L.getD it 0) = v1 := HTop.out.eq
            have h4 : F (L.getD j 0) ≤ v1 := h2
            omega
          subst hx
          clear HM hlt hk
          go_upto_region 31 with fail
          have HB0 : Hid (RowL (v.val.alloc (.cells #[.int .i64 m, .slice none 0 0] 29)) v.val.heap.size 29 [.int .i64 m, .slice none 0 0]) := Lib.hid (RowL.new _ _ _)
          obtain ⟨y, hy⟩ : ∃ y : Later U.heap.size U, y.val = (v.val.alloc (.cells #[.int .i64 m, .slice none 0 0] 29)) := ⟨v.alloc _, rfl⟩
          rw [← hy] at HB0 ⊢
          have hgu : U.heap.size ≤ v.val.heap.size := v.size
          have HS : Hid (∀ k, iniTo L F x (k + 1) = if F (L.getD k 0) = x then iniTo L F x k ++ [((L.getD k 0 : Nat) : Int)] else iniTo L F x k) := Lib.hid (fun k => rfl)
          have HLn := Lib.hid (iniTo_len L F x)
          have H0 : Hid (iniTo L F x 0 = []) := Lib.hid rfl
          have HFi := Lib.hid (iniTo_first HTop.out vl.length HTop.out.lt)
          clear hy
          generalize v.val.heap.size = gw at *
          clear v
          generalize iniTo L F x = T at *
          go_wp2
          go_loopw [183] (fun i wr => ∃ (k : Nat) (ad : Option Addr) (cp : Nat) (v : Later U.heap.size U), k ≤ vl.length ∧ i = .int .i64 k ∧ wr = v.val ∧ Hid (RowL v.val gw 29 [.int .i64 m, .slice ad (T k).length cp]) ∧ Hid (Own (gw + 1) v.val ad cp (T k))) (fun i _ => vl.length - (intOf i).toNat)
          case atStart => exact ⟨0, none, 0, y, by omega, rfl, rfl, by rw [H0.out]; exact HB0, by rw [H0.out]; exact Own.nil _ _⟩
          case round =>
            clear y HB0
            obtain ⟨k, aw, cw, v, hk, rfl, rfl, HB, HO⟩ := hrel
            by_cases hlt : k < vl.length
            · obtain ⟨x0, x1⟩ := HCa.out v k hlt
              have KWk := Lib.hid (HRx.out v (L.getD k 0) (HLm.out k hlt))
              have xx := fun w => (HCa.out w k hlt).1
              have hTl := HLn.out k
              have HN := Lib.hid (HS.out k)
              have HBw : Hid (∀ w : Later v.val.heap.size v.val, RowL w.val gw 29 [.int .i64 m, .slice aw (T k).length cw]) := Lib.hid (fun w => HB.out.keep w.below)
              have HOw : Hid (∀ w : Later v.val.heap.size v.val, Own (gw + 1) w.val aw cw (T k)) := Lib.hid (fun w => HO.out.keep w.below)
              have HVw : Hid (∀ w : Later v.val.heap.size v.val, ∃ w' : Later U.heap.size U, w'.val = w.val) := Lib.hid (fun w => ⟨v.up w, rfl⟩)
              have xw : ∀ w : Later v.val.heap.size v.val, w.val.cell? ⟨ba, oa + k * 2, none⟩ = some (.int .i64 ((L.getD k 0 : Nat) : Int)) := fun w => xx (v.up w)
              have hgv : gw < v.val.heap.size := HB.out.lt
              clear HB HO xx
              generalize L.getD k 0 = A at *
              generalize hTT : T k = Tk at *
              have HTT := Lib.hid hTT
              clear hTT
              by_cases hF : F A = x
              · have d1 : (F A == x) = true := beq_iff_eq.2 hF
                have HT2 : Hid (T (k + 1) = Tk ++ [(A : Int)]) := Lib.hid (by rw [HN.out, if_pos hF])
                clear HN hF
                go_upto_region 35 with (first | (go_at_call 14; (with_reducible refine (KWk.out).mono ?_); rintro e _ ⟨rfl, z4, rfl⟩))
                have c0 : z4.val.drew.cell? ⟨ba, oa + k * 2, none⟩ = some (.int .i64 A) := xw z4.drew
                have c0' : z4.val.cell? ⟨ba, oa + k * 2, none⟩ = some (.int .i64 A) := xw z4
                have d2 : z4.val.drew.cell? ⟨gw, 1, none⟩ = some (.slice aw Tk.length cw) := (HBw.out z4.drew).cell rfl
                have d3 : ∀ o : Obj, (z4.val.drew.alloc o).cell? ⟨gw, 1, none⟩ = some (.slice aw Tk.length cw) := fun o => (HBw.out (z4.drew.alloc o)).cell rfl
                have d5 : ∀ o : Obj, (z4.val.alloc o).cell? ⟨gw, 1, none⟩ = some (.slice aw Tk.length cw) := fun o => (HBw.out (z4.alloc o)).cell rfl
                have d6 : z4.val.cell? ⟨gw, 1, none⟩ = some (.slice aw Tk.length cw) := (HBw.out z4).cell rfl
                have HO2 : Hid (Own (gw + 1) z4.val.drew aw cw Tk) := Lib.hid (HOw.out z4.drew)
                have hgs : gw + 1 ≤ z4.val.drew.heap.size := (HBw.out z4.drew).lt
                have HU : Hid (∀ w : Later (gw + 1) z4.val.drew, RowL w.val gw 29 [.int .i64 m, .slice aw Tk.length cw]) := Lib.hid (fun w => by
                  show w.val.heap[gw]? = _
                  rw [w.below.block gw (by omega)]; exact HBw.out z4.drew)
                have d7 : ∀ w : Later (gw + 1) z4.val.drew, w.val.cell? ⟨gw, 1, none⟩ = some (.slice aw Tk.length cw) := fun w => (HU.out w).cell rfl
                have d8 : ∀ w : Later (gw + 1) z4.val.drew, w.val.frozen? ⟨gw, 1, none⟩ = false := fun w => (HU.out w).fz 1
                have HVv : Hid (∀ w : Later (gw + 1) z4.val.drew, ∃ w' : Later U.heap.size U, w'.val = w.val) := Lib.hid (fun w => ⟨(v.up z4.drew).to w.val (w.below.mono (by omega)), rfl⟩)
                have hbl : Tk.length + 1 ≤ 17592186044416 := by omega
                clear KWk xw
                go_region_law (first | ((refine step_pushL (B := gw + 1) (W := z4.val.drew) (w := z4.val.drew) (Below.refl _ _) hgs (by rfl) _ _ (by rfl) Tk aw cw (A : Int) (by rfl) HO2.out (by rfl) hbl ?_; intro u2 ad3 cp3 hown)))
                all_goals
                  have HU2 := Lib.hid (HU.out u2)
                  have HVu := Lib.hid (HVv.out u2)
                  go_wp2
                  go_roundw
                  case rel =>
                    obtain ⟨w, hw⟩ := later_set HVu.out (g := gw) (i := 1) hgu (.slice ad3 (Tk ++ [(A : Int)]).length cp3)
                    refine ⟨k+1, ad3, cp3, w, by omega, by go_num, ?_, ?_, ?_⟩
                    · rw [hw]; simp
                    · rw [HT2.out, hw]; exact Lib.hid (HU2.out.set 1 _)
                    · rw [HT2.out, hw]; exact Lib.hid (hown.set (by omega) _)
                  case measure => simp [intOf]; omega
              · have d1 : (F A == x) = false := beq_eq_false_iff_ne.2 hF
                have HT2 : Hid (T (k + 1) = Tk) := Lib.hid (by rw [HN.out, if_neg hF])
                clear HN hF
                go_wp2_with (first | (go_at_call 14; (with_reducible refine (KWk.out).mono ?_); rintro e _ ⟨rfl, z4, rfl⟩))
                go_roundw
                case rel =>
                  obtain ⟨w', hw'⟩ := HVw.out z4
                  exact ⟨k+1, aw, cw, w', by omega, by go_num, hw'.symm, Lib.hid (by rw [HT2.out, hw']; exact HBw.out z4), Lib.hid (by rw [HT2.out, hw']; exact HOw.out z4)⟩
                case measure => simp [intOf]; omega
            · have hke : k = vl.length := by omega
              subst hke
              obtain ⟨hf1, hf2⟩ := HFi.out
              obtain ⟨bw, ow, rfl, hbw, hcw⟩ := HO.out.reads.at (k := 0) hf1
              have q0 := hcw (Later.self v.val) 0 hf1
              rw [hf2] at q0
              simp only [Nat.add_zero] at q0
              dsimp only [Later.self] at q0
              have b1 : ∀ w : Later v.val.heap.size v.val, w.val.cell? ⟨gw, 1, none⟩ = some (.slice (some ⟨bw, ow, none⟩) (T vl.length).length cw) := fun w => (HB.out.keep w.below).cell rfl
              have b0 : ∀ w : Later v.val.heap.size v.val, w.val.cell? ⟨gw, 0, none⟩ = some (.int .i64 m) := fun w => (HB.out.keep w.below).cell rfl
              have n0 : ∀ w : Later v.val.heap.size v.val, w.val.cell? ⟨gm, 0, none⟩ = some (.int .i64 m) := fun w => m05 (v.up w)
              have n1 : ∀ w : Later v.val.heap.size v.val, w.val.cell? ⟨gm, 1, none⟩ = some (.slice ai (T vl.length).length ci) := fun w => m15 (v.up w)
              have KT : Hid (Calls Try.prog 13 #[.agg #[.int .i64 m, .slice ai (T vl.length).length ci], .int .i64 0, .agg #[.int .i64 m, .slice (some ⟨bw, ow, none⟩) (T vl.length).length cw], .int .i64 0] v.val (Ret v.val.heap.size v.val (.bool true))) := Lib.hid (c_told (Later.self v.val) m m (T vl.length) (T vl.length) ai (some ⟨bw, ow, none⟩) ci cw 0 0 (HI5.out.to v) HO.out.reads (by have := HLn.out vl.length; omega) rfl (by rw [if_pos rfl]; exact ⟨rfl, rfl⟩))
              have HTl := Lib.hid (HLn.out vl.length)
              have b0v := b0 (Later.self v.val)
              have b1v := b1 (Later.self v.val)
              have n0v := n0 (Later.self v.val)
              have n1v := n1 (Later.self v.val)
              dsimp only [Later.self] at b0v b1v n0v n1v
              have hTpos : ((0 : Int) < ((T vl.length).length : Int)) := by omega
              generalize (T vl.length).length = tl at *
              have HVv : Hid (∀ w : Later v.val.heap.size v.val, ∃ w' : Later U.heap.size U, w'.val = w.val) := Lib.hid (fun w => ⟨v.up w, rfl⟩)
              clear b0 b1 n0 n1 HB HO HLn HS H0 HFi hf1 hf2 HTl
              cases lg with
              | true =>
                have hno : ¬ inTo F L vl.length := HG.out.1 rfl
                have e1 : prcE F L vl.length = 2 := by unfold prcE; rw [if_neg hno]
                have e2 : prcL F L vl.length = [] := by unfold prcL; rw [if_neg hno]
                rw [e1, e2]
                clear e1 e2 hno HG
                go_wp2_with (first | (go_at_call 13; (with_reducible refine (KT.out).mono ?_); rintro e _ ⟨rfl, z6, rfl⟩))
                go_ret
                obtain ⟨w', hw'⟩ := HVv.out z6
                exact Ret.of (by rw [← hw']; exact HV5.out w') rfl
              | false =>
                have hyes : inTo F L vl.length := Classical.byContradiction (fun c => by have := HG.out.2 c; cases this)
                have e1 : prcE F L vl.length = 0 := by unfold prcE; rw [if_pos hyes]
                have e2 : prcL F L vl.length = pairsTo (fun t => (((L.getD t 0 : Nat) : Int), F (L.getD t 0))) vl.length := by unfold prcL; rw [if_pos hyes]
                have e3 : (prcL F L vl.length).length = vl.length := by rw [e2, pairsTo_len]
                rw [e2] at HP5
                rw [e1, e3]
                obtain ⟨bp, op, rfl, hbp, hcp⟩ := HP5.out.at (k := 0) (by rw [pairsTo_len]; exact hpos)
                have HCp : Hid (∀ (w : Later U.heap.size U) (k : Nat), k < vl.length → w.val.cell? ⟨bp, op + k * 2, none⟩ = some (.int .i64 ((L.getD k 0 : Nat) : Int)) ∧ w.val.cell? ⟨bp, op + k * 2 + 1, none⟩ = some (.int .i64 (F (L.getD k 0)))) := Lib.hid (fun w k hk => by
                  have := hcp w k (by rw [pairsTo_len]; exact hk)
                  rwa [pairsTo_getD _ hk] at this)
                clear e1 e2 e3 hyes HG HP5 hcp
                go_upto_region 43 with (first | (go_at_call 13; (with_reducible refine (KT.out).mono ?_); rintro e _ ⟨rfl, z6, rfl⟩))
                obtain ⟨y, hy⟩ := HVv.out z6
                rw [← hy]
                clear hy HVv KT z6 b0v b1v n0v n1v q0
                go_wp2
                go_loopw [249] (fun o wr => ∃ (k : Nat) (v : Later U.heap.size U), k ≤ vl.length ∧ o = .int .i64 k ∧ wr = v.val) (fun o _ => vl.length - (intOf o).toNat)
                case atStart => exact ⟨0, y, by omega, rfl, rfl⟩
                case round =>
                  clear y
                  obtain ⟨k, z, hk, rfl, rfl⟩ := hrel
                  by_cases hlt : k < vl.length
                  · have p0 := fun w => (HCp.out w k hlt).1
                    have p1 := fun w => (HCp.out w k hlt).2
                    have a0 := fun w => (HCa.out w k hlt).1
                    have a1 := fun w => (HCa.out w k hlt).2
                    have KWk := Lib.hid (fun w => HRw.out w (L.getD k 0) (HLm.out k hlt))
                    clear HCp HCa HRw HRx HLm HTop
                    generalize L.getD k 0 = A at *
                    go_upto_region 46 with fail
                    refine wp_region_later z (by kernel_rfl) (by kernel_rfl) (fun _ => ?_)
                    repeat (first | go_big_quiet_step ((go_at_call 14; exact KWk.out _)) | (refine wpQuiet_step (fun K hK => ?_); go_simp; refine ⟨_, fun _ => rfl, ?_⟩; refine hK _ ?_; clear hK K))
                    refine wpQuiet_nil ?_
                    intro z
                    go_wp2
                    go_roundw
                    case rel => exact ⟨k+1, z, by omega, by go_num, rfl⟩
                    case measure => simp [intOf]; omega
                  · have hke : k = vl.length := by omega
                    subst hke
                    go_wp2
                    go_ret
                    exact Ret.of (HV5.out z) rfl

/-- rotalaw.ValuesSays -/
theorem law_valuesSays {B : Nat} {W : World} (u : Later B W) (n : Int) (vl : List (Int × Int)) (ws : List Int) (a b : Option Addr) (cap capb : Nat) (h : EdgesAt B W a vl) (hlen : vl.length ≤ 17592186044416) (hw : IntsAt B W b ws) (hwl : ws.length ≤ 4611686018427387904) :
    Calls Try.prog 3 #[.int .i64 n, .slice a vl.length cap, .slice b ws.length capb] u.val (Ret B W (.bool true)) := by
  obtain ⟨e, he⟩ := VlIs.ex n vl
  by_cases h0 : e = 0
  · subst h0
    obtain ⟨me, hm, h1, h2, h3⟩ := he
    have hu : undE vl me = 0 := Classical.byContradiction fun c => c (h1 c).symm
    have hok := (undE_ok hm hu).2
    obtain ⟨m, rfl⟩ := Int.eq_ofNat_of_zero_le hok.ok.1.1
    have hm8 : m ≤ 8 := by have := hok.ok.1.2.1; omega
    have hV : ExV (vlL vl) (valN vl) := Classical.byContradiction fun c => absurd (h3 hu c) (by decide)
    exact law_val_ok u m hm8 vl a cap h hlen ⟨me, hm, h1, h2, h3⟩ hok hV ws b capb hw hwl
  · exact law_val_no u n vl a cap h hlen e he h0 ws b capb

end Go.Proofs.Ytmhjhdgaecdloaa
