
/-
  field.Turned.
-/
import Derived.Test.YtffnpokceomncaaFmF
namespace Go.Proofs.Ytffnpokceomncaa
open Go.RowKit
set_option linter.unusedVariables false

theorem tabL_list {n : Nat} {A : Nat → Int} {xs : List Int} (hl : xs.length = n) (h : ∀ j, j < n → xs.getD j 0 = A j) : xs = tabL n A := by
  apply List.ext_getElem
  · rw [tabL_len, hl]
  · intro k h1 h2
    have := h k (by omega)
    rw [List.getD_eq_getElem?_getD, List.getElem?_eq_getElem h1] at this
    simp [tabL]
    simpa using this

set_option maxRecDepth 100000 in
set_option maxHeartbeats 16000000 in
theorem c_turned {B : Nat} {W : World} (u : Later B W) (px cx : Int) (rx : Lls) (ax : Option Addr) (capx : Nat) (hx : RowsI B W ax rx)
    (hlx : rx.length ≤ 17592186044416) (hrx : ∀ i, i < rx.length → (rx.getD i []).length ≤ 17592186044416)
    (p' c' : Int) (N' C' : Nat) (P : Nat → Nat → Int) (e : Int)
    (he : (¬ isMatrix px cx rx ∧ e = 1) ∨ (isMatrix px cx rx ∧ ¬ cx ≤ 6 ∧ e = 2) ∨ (isMatrix px cx rx ∧ cx ≤ 6 ∧ e = 0))
    (hz : e ≠ 0 → p' = 0 ∧ c' = 0 ∧ N' = 0) (hok : e = 0 → p' = px ∧ c' = rx.length ∧ (N' : Int) = cx ∧ C' = rx.length ∧ P = fun i j => ent rx j i) :
    Calls Try.prog 8 #[.agg #[.int .i64 px, .int .i64 cx, .slice ax rx.length capx]] u.val (RetP B W (MatM B p' c' N' C' P e)) := by
  have hB := u.size
  have k1 : (u.val.alloc (.cells #[.int .i64 px, .int .i64 cx, .slice ax rx.length capx] 24)).heap.size = u.val.heap.size + 1 := by simp
  have TX : Hid (RowL ((u.val.alloc (.cells #[.int .i64 px, .int .i64 cx, .slice ax rx.length capx] 24)).alloc (.cells #[.int .i64 0, .int .i64 0, .slice none 0 0] 24)) u.val.heap.size 24 [.int .i64 px, .int .i64 cx, .slice ax rx.length capx]) := Lib.hid ((RowL.new u.val 24 _).keep ((Below.refl _ _).alloc (Nat.le_refl _) _))
  have TZ : Hid (RowL ((u.val.alloc (.cells #[.int .i64 px, .int .i64 cx, .slice ax rx.length capx] 24)).alloc (.cells #[.int .i64 0, .int .i64 0, .slice none 0 0] 24)) (u.val.heap.size + 1) 24 [.int .i64 0, .int .i64 0, .slice none 0 0]) := Lib.hid (by
    have h := RowL.new (u.val.alloc (.cells #[.int .i64 px, .int .i64 cx, .slice ax rx.length capx] 24)) 24 [.int .i64 0, .int .i64 0, .slice none 0 0]
    rwa [k1] at h)
  have HZ : Hid (((u.val.alloc (.cells #[.int .i64 px, .int .i64 cx, .slice ax rx.length capx] 24)).alloc (.cells #[.int .i64 0, .int .i64 0, .slice none 0 0] 24)).heap.size = u.val.heap.size + 1 + 1) := Lib.hid (by simp)
  have HV : Hid (∀ w : World, Below (u.val.heap.size + 1) ((u.val.alloc (.cells #[.int .i64 px, .int .i64 cx, .slice ax rx.length capx] 24)).alloc (.cells #[.int .i64 0, .int .i64 0, .slice none 0 0] 24)) w → ∃ x : Later B W, x.val = w) := Lib.hid (fun w hb => ⟨⟨w, ((u.alloc _).alloc _).below.trans (hb.mono (by omega)), by have := hb.size; simp at this; omega⟩, rfl⟩)
  have HXs : Hid (RowsI ((u.val.alloc (.cells #[.int .i64 px, .int .i64 cx, .slice ax rx.length capx] 24)).alloc (.cells #[.int .i64 0, .int .i64 0, .slice none 0 0] 24)).heap.size ((u.val.alloc (.cells #[.int .i64 px, .int .i64 cx, .slice ax rx.length capx] 24)).alloc (.cells #[.int .i64 0, .int .i64 0, .slice none 0 0] 24)) ax rx) := Lib.hid (hx.to ((u.alloc _).alloc _))
  have HE := Lib.hid he
  have HNo := Lib.hid hz
  have HOk := Lib.hid hok
  have HRx := Lib.hid hrx
  clear hx k1 he hz hok hrx
  go_enter Try.func8, Try.ntmps8
  go_upto_region 1 with fail
  generalize ((u.val.alloc (.cells #[.int .i64 px, .int .i64 cx, .slice ax rx.length capx] 24)).alloc (.cells #[.int .i64 0, .int .i64 0, .slice none 0 0] 24)) = Y at *
  generalize u.val.heap.size = g0 at *
  clear u
  have x0 : ∀ v : Later Y.heap.size Y, v.val.cell? ⟨g0, 0, none⟩ = some (.int .i64 px) := fun v => (TX.out.keep v.below).cell rfl
  have x1 : ∀ v : Later Y.heap.size Y, v.val.cell? ⟨g0, 1, none⟩ = some (.int .i64 cx) := fun v => (TX.out.keep v.below).cell rfl
  have x2 : ∀ v : Later Y.heap.size Y, v.val.cell? ⟨g0, 2, none⟩ = some (.slice ax rx.length capx) := fun v => (TX.out.keep v.below).cell rfl
  obtain ⟨z, hz⟩ : ∃ z : Later Y.heap.size Y, z.val = Y := ⟨Later.self _, rfl⟩
  have KX : Hid (Calls Try.prog 32 #[.agg #[.int .i64 px, .int .i64 cx, .slice ax rx.length capx]] z.val (Ret Y.heap.size Y (.int .i64 (errno (decide (isMatrix px cx rx)) 1)))) := Lib.hid (c_checkMatrix z px cx rx ax capx HXs.out hlx HRx.out)
  rw [← hz]
  clear hz
  have d0 := x0 z
  have d1 := x1 z
  have d2 := x2 z
  go_upto_region 2 with (first | (go_at_call 32; (with_reducible refine (KX.out).mono ?_); rintro e _ ⟨rfl, v, rfl⟩) | fail)
  clear KX d0 d1 d2 z
  have hfin : ∀ (w : World) (pp cc : Int) (nn : Nat) (ad : Option Addr) (gc : Nat) (hd : Nat → Option Addr) (r cp : Nat → Nat) (ee : Int) (tm : Array Value), RowL w (g0 + 1) 24 [.int .i64 0, .int .i64 0, .slice none 0 0] → Below (g0 + 1) Y w → Mtx (g0 + 1 + 1) w ad gc N' C' hd r cp P → tm.getD 2 undef = .pointer (some ⟨g0 + 1, 0, none⟩) → tm.getD 3 undef = .int .i64 ee → pp = p' → cc = c' → nn = N' → ee = e → bodyPost Try.prog Try.f8 (RetP B W (MatM B p' c' N' C' P e)) .ret { tmps := tm, defers := [] } (((w.setCell ⟨g0 + 1, 0, none⟩ (.int .i64 pp)).setCell ⟨g0 + 1, 1, none⟩ (.int .i64 cc)).setCell ⟨g0 + 1, 2, none⟩ (.slice ad nn gc)) := fun w pp cc nn ad gc hd r cp ee tm hR hb hM h4 h5 e1 e2 e3 e4 => by
    subst e1 e2 e3 e4
    refine bodyPost_ret (results_row (vs := [.int .i64 pp, .int .i64 cc, .slice ad nn gc]) rfl _ _ (g0 + 1) h4 (((hR.set 0 _).set 1 _).set 2 _) Try.underlying24 (by kernel_rfl)) rfl ?_
    obtain ⟨x, hx⟩ := HV.out _ (((hb.trans (below_set (Nat.le_refl _) (.int .i64 pp))).trans (below_set (Nat.le_refl _) (.int .i64 cc))).trans (below_set (i := 2) (Nat.le_refl _) (.slice ad nn gc)))
    exact RetP.of ⟨x, hx⟩ ⟨ad, gc, hd, r, cp, by rw [h5], (((hM.old (by omega) _).old (by omega) _).old (by omega) _).mono (by omega)⟩
  have HF := Lib.hid hfin
  clear hfin
  have HTv : Hid (RowL v.val (g0 + 1) 24 [.int .i64 0, .int .i64 0, .slice none 0 0]) := Lib.hid (TZ.out.keep v.below)
  have Z0 : v.val.frozen? ⟨g0 + 1, 0, none⟩ = false := HTv.out.fz 0
  have Z1 : ∀ x : Value, (v.val.setCell ⟨g0 + 1, 0, none⟩ x).frozen? ⟨g0 + 1, 1, none⟩ = false := fun x => (HTv.out.set 0 x).fz 1
  have Z2 : ∀ x y : Value, ((v.val.setCell ⟨g0 + 1, 0, none⟩ x).setCell ⟨g0 + 1, 1, none⟩ y).frozen? ⟨g0 + 1, 2, none⟩ = false := fun x y => ((HTv.out.set 0 x).set 1 y).fz 2
  have G0 : v.val.cell? ⟨g0 + 1, 0, none⟩ = some (.int .i64 0) := HTv.out.cell rfl
  have G1 : ∀ x : Value, (v.val.setCell ⟨g0 + 1, 0, none⟩ x).cell? ⟨g0 + 1, 1, none⟩ = some (.int .i64 0) := fun x => (HTv.out.set 0 x).cell rfl
  have G2 : ∀ x y : Value, ((v.val.setCell ⟨g0 + 1, 0, none⟩ x).setCell ⟨g0 + 1, 1, none⟩ y).cell? ⟨g0 + 1, 2, none⟩ = some (.slice none 0 0) := fun x y => ((HTv.out.set 0 x).set 1 y).cell rfl
  have HBv : Hid (Below (g0 + 1) Y v.val) := Lib.hid (v.below.mono (by have := HZ.out; omega))
  have HSv : Hid (g0 + 1 + 1 ≤ v.val.heap.size) := Lib.hid (by have := v.size; have := HZ.out; omega)
  have HNil : Hid (e ≠ 0 → Mtx (g0 + 1 + 1) v.val none 0 N' C' (fun _ => none) (fun _ => 0) (fun _ => 0) P ∧ (0 : Int) = p' ∧ (0 : Int) = c' ∧ 0 = N') := Lib.hid (fun h => by
    obtain ⟨h1, h2, h3⟩ := HNo.out h
    rw [h3]
    exact ⟨Mtx.start _ _ _ _ _ _ _, h1.symm, h2.symm, rfl⟩)
  have x0v := x0 v
  have x1v := x1 v
  have x2v := x2 v
  by_cases hmx : isMatrix px cx rx
  case neg =>
    have he1 : e = 1 := by
      rcases HE.out with ⟨_, h⟩ | ⟨h, _⟩ | ⟨h, _⟩
      · exact h
      · exact absurd h hmx
      · exact absurd h hmx
    obtain ⟨h1, h2, h3, h4⟩ := HNil.out (by omega)
    have HM := Lib.hid h1
    rw [decide_eq_false hmx]
    have HE1 := Lib.hid he1
    have H2 := Lib.hid h2
    have H3 := Lib.hid h3
    have H4 := Lib.hid h4
    clear h1 h2 h3 h4 hmx he1 HE HNo HOk HRx HXs HNil
    go_wp2
    refine HF.out v.val 0 0 0 none 0 _ _ _ 1 _ HTv.out HBv.out HM.out ?_ ?_ H2.out H3.out H4.out HE1.out.symm <;> rfl
  rw [decide_eq_true hmx, show errno true 1 = 0 from rfl]
  by_cases hs : cx ≤ 6
  case neg =>
    have he1 : e = 2 := by
      rcases HE.out with ⟨h, _⟩ | ⟨_, _, h⟩ | ⟨_, h, _⟩
      · exact absurd hmx h
      · exact h
      · omega
    obtain ⟨h1, h2, h3, h4⟩ := HNil.out (by omega)
    have HM := Lib.hid h1
    have HE1 := Lib.hid he1
    have H2 := Lib.hid h2
    have H3 := Lib.hid h3
    have H4 := Lib.hid h4
    have d6 : decide ((6 : Int) < cx) = true := decide_eq_true (by omega)
    have g6 : 6 < cx := by omega
    clear h1 h2 h3 h4 hmx hs he1 HE HNo HOk HRx HXs HNil
    go_wp2
    refine HF.out v.val 0 0 0 none 0 _ _ _ 2 _ HTv.out HBv.out HM.out ?_ ?_ H2.out H3.out H4.out HE1.out.symm <;> rfl
  have he0 : e = 0 := by
    rcases HE.out with ⟨h, _⟩ | ⟨_, h, _⟩ | ⟨_, _, h⟩
    · exact absurd hmx h
    · omega
    · exact h
  obtain ⟨ep, ec, eN, eC, eP⟩ := HOk.out he0
  have hN6 : rx.length ≤ 6 := hmx.2.2.1
  have hcx : cx = (N' : Int) := eN.symm
  subst hcx
  have hrX : ∀ i, i < rx.length → (rx.getD i []).length = N' := fun i hi => by have := (hmx.2.2.2 i hi).1; omega
  have hN8 : N' ≤ 6 := by omega
  have HrX := Lib.hid hrX
  have HE0 := Lib.hid he0
  have HEp := Lib.hid ep
  have HEc := Lib.hid ec
  have HEC := Lib.hid eC
  have HEP := Lib.hid eP
  have d6 : decide ((6 : Int) < (N' : Int)) = false := decide_eq_false (by omega)
  have g6 : ¬ 6 < N' := by omega
  clear HE HNo HOk HNil hmx hrX he0 ep ec eN eP eC HRx hlx hs
  have HB0 : Hid (RowL (v.val.alloc (.cells #[.int .i64 px, .int .i64 rx.length, .slice none 0 0] 24)) v.val.heap.size 24 [.int .i64 px, .int .i64 rx.length, .slice none 0 0]) := Lib.hid (RowL.new _ _ _)
  have HYO : Hid ((v.val.alloc (.cells #[.int .i64 px, .int .i64 rx.length, .slice none 0 0] 24)).heap.size = v.val.heap.size + 1) := Lib.hid (by simp)
  have HL : Hid (∀ w : World, Below v.val.heap.size (v.val.alloc (.cells #[.int .i64 px, .int .i64 rx.length, .slice none 0 0] 24)) w → ∃ u : Later Y.heap.size Y, u.val = w) := Lib.hid (fun w hb => by
    have h1 : Below v.val.heap.size v.val w := ((Below.refl _ _).alloc (Nat.le_refl _) _).trans hb
    exact ⟨v.to w (h1.mono v.size), rfl⟩)
  have HTw : Hid (∀ w : World, Below v.val.heap.size (v.val.alloc (.cells #[.int .i64 px, .int .i64 rx.length, .slice none 0 0] 24)) w → RowL w (g0 + 1) 24 [.int .i64 0, .int .i64 0, .slice none 0 0] ∧ Below (g0 + 1) Y w) := Lib.hid (fun w hb => by
    have h1 : Below v.val.heap.size v.val w := ((Below.refl _ _).alloc (Nat.le_refl _) _).trans hb
    exact ⟨HTv.out.keep h1, HBv.out.trans (h1.mono (by have := HSv.out; omega))⟩)
  go_upto_region 7 with fail
  clear x0v x1v x2v Z0 Z1 Z2 G0 G1 G2 HTv HBv d6 g6
  obtain ⟨go, hgo⟩ : ∃ go, go = v.val.heap.size := ⟨_, rfl⟩
  have hgo3 : g0 + 1 + 1 ≤ go := by have := HSv.out; omega
  generalize hYe : (v.val.alloc (.cells #[.int .i64 px, .int .i64 rx.length, .slice none 0 0] 24)) = YO at *
  clear hYe
  rw [← hgo] at HB0 HYO HL HTw ⊢
  clear hgo HSv v
  have x2' : ∀ w : World, Below go YO w → w.cell? ⟨g0, 2, none⟩ = some (.slice ax rx.length capx) := fun w hb => by
    obtain ⟨u, rfl⟩ := HL.out w hb; exact x2 u
  have x1' : ∀ w : World, Below go YO w → w.cell? ⟨g0, 1, none⟩ = some (.int .i64 N') := fun w hb => by
    obtain ⟨u, rfl⟩ := HL.out w hb; exact x1 u
  clear x0 x1 x2 TX TZ
  obtain ⟨z, hz⟩ : ∃ z : Later go YO, z.val = YO := ⟨⟨YO, Below.refl _ _, by rw [HYO.out]; omega⟩, rfl⟩
  have x1z := x1' z.val z.below
  rw [← hz] at HB0 ⊢
  have HS0 : Hid (go + 1 ≤ z.val.heap.size) := Lib.hid (by rw [hz, HYO.out]; omega)
  clear hz
  go_wp2
  clear x1z
  go_loopw [28] (fun i wr => ∃ (k : Nat) (v : Later go YO) (ad : Option Addr) (gc : Nat) (hd : Nat → Option Addr) (r cp : Nat → Nat), k ≤ N' ∧ i = .int .i64 k ∧ wr = v.val ∧ Hid (go + 1 ≤ v.val.heap.size) ∧ Hid (RowL v.val go 24 [.int .i64 px, .int .i64 rx.length, .slice ad k gc]) ∧ Hid (Mtx (go + 1) v.val ad gc k rx.length hd r cp (fun i j => ent rx j i))) (fun i _ => N' - (intOf i).toNat)
  case atStart => exact ⟨0, z, none, 0, fun _ => none, fun _ => 0, fun _ => 0, by omega, rfl, rfl, HS0, HB0, Lib.hid (Mtx.start _ _ _ _ _ _ _)⟩
  case round =>
    clear HB0 HS0 z
    obtain ⟨k, v, ad, gc, hd, r, cp, hk, rfl, rfl, HS, HB, HM⟩ := hrel
    by_cases hlt : k < N'
    · have x2v := x2' v.val v.below
      go_wp2
      clear x2v
      obtain ⟨rl, hrl⟩ : ∃ rl, rl = v.val.heap.size := ⟨_, rfl⟩
      have hrl1 : go + 1 ≤ rl := by have := HS.out; omega
      have HMlt : Hid (∀ i, i < k → 0 < rx.length → r i < rl) := Lib.hid (fun i hi hC => by rw [hrl]; exact (HM.out.rlt hC hi).2)
      have HAlt : Hid (∀ g, ad = some ⟨g, 0, none⟩ → g < rl) := Lib.hid (fun g hg => by
        rw [hrl]
        rcases HM.out.form with ⟨e1, _⟩ | ⟨g', e1, _, e3⟩
        · rw [hg] at e1; cases e1
        · rw [hg] at e1; cases e1; exact e3)
      have HbL : Hid (∀ w : World, Below rl v.val w → Below go YO w) := Lib.hid (fun w hb => v.below.trans (hb.mono (by omega)))
      obtain ⟨V, hV⟩ : ∃ V, V = v.val := ⟨_, rfl⟩
      obtain ⟨z, hz⟩ : ∃ z : Later rl V, z.val = V := ⟨⟨V, Below.refl _ _, by rw [hV, hrl]; exact Nat.le_refl _⟩, rfl⟩
      rw [← hV] at HM HB HbL hrl
      rw [← hV, ← hz]
      clear hV HS hz v
      go_loopw [7, 34] (fun l i wr => ∃ (q : Nat) (v : Later rl V) (al : Option Addr) (cl : Nat), q ≤ rx.length ∧ l = .slice al (tabL q (fun j => ent rx j k)).length cl ∧ i = .int .i64 q ∧ wr = v.val ∧ Hid (Own rl v.val al cl (tabL q (fun j => ent rx j k)))) (fun _ i _ => rx.length - (intOf i).toNat)
      case atStart => exact ⟨0, z, none, 0, by omega, rfl, rfl, rfl, Lib.hid (Own.nil _ _)⟩
      case round =>
        clear z
        obtain ⟨q, v, al, cl, hq, rfl, rfl, rfl, HO⟩ := hrel
        by_cases hlq : q < rx.length
        · obtain ⟨be, ofe, rfl, hbe, adr, cpr, hI, hn, hcell⟩ := HXs.out.atN hlq
          have hrk := HrX.out q hlq
          obtain ⟨br, ofr, rfl, hbr, hcr⟩ := hI.at (show k < (rx.getD q []).length by omega)
          have hlk : k < (rx.getD q []).length := by omega
          obtain ⟨u, hu⟩ := HL.out v.val (HbL.out _ v.below)
          have c1 := hcell u
          have c2 := hcr u k hlk
          rw [hu] at c1 c2
          have HEr : Hid ((rx.getD q []).getD k 0 = ent rx q k) := Lib.hid rfl
          rw [HEr.out] at c2
          clear hcell hcr hu u hI
          have HTs : Hid (tabL (q + 1) (fun j => ent rx j k) = tabL q (fun j => ent rx j k) ++ [ent rx q k]) := Lib.hid (tabL_snoc _ _)
          have HTl : Hid ((tabL q (fun j => ent rx j k)).length = q) := Lib.hid (tabL_len _ _)
          generalize rx.getD q [] = row at *
          generalize ent rx q k = ek at *
          generalize hTq : tabL q (fun j => ent rx j k) = T at *
          clear hTq
          have HOv := HO
          go_wp2_with (first | (at_builtin; refine wpList_push (B := rl) (W := V) (w := v.val) v.below v.size rfl _ _ rfl T al cl ek rfl HOv.out rfl (by have := HTl.out; omega) ?_; intro u2 ad2 cp2 hown) | fail)
          go_roundw
          case rel =>
            refine ⟨q + 1, u2, ad2, cp2, by omega, ?_, by go_num, rfl, ?_⟩
            · rw [HTs.out]; simp
            · rw [HTs.out]; exact Lib.hid hown
          case measure => simp [intOf]; omega
        · have hqe : q = rx.length := by omega
          subst hqe
          obtain ⟨rr, hRO0, hRn0⟩ := rowO_of_own HO.out (tabL_len _ _)
          have HRO : Hid (RowO (go + 1) v.val rx.length al rr cl (fun j => ent rx j k)) := Lib.hid ⟨hRO0.hdr, fun hC => by
            have h1 := (hRO0.row hC).mono hrl1
            rwa [show tabL rx.length (fun j => (tabL rx.length (fun j => ent rx j k)).getD j 0) = tabL rx.length (fun j => ent rx j k) from tabL_congr (fun j hj => tabL_getD hj)] at h1, hRO0.nil⟩
          have hRN : 0 < rx.length → (∀ i, i < k → r i ≠ rr) ∧ ∀ g, ad = some ⟨g, 0, none⟩ → rr ≠ g := fun hC => ⟨fun i hi e => by have := HMlt.out i hi hC; have := hRn0 hC; omega, fun g hg e => by have := HAlt.out g hg; have := hRn0 hC; omega⟩
          have HMv : Hid (Mtx (go + 1) v.val ad gc k rx.length hd r cp (fun i j => ent rx j i)) := Lib.hid (HM.out.keep_at v.below HAlt.out HMlt.out)
          have HBv : Hid (RowL v.val go 24 [.int .i64 px, .int .i64 rx.length, .slice ad k gc]) := Lib.hid (HB.out.keep_at v.below (by omega))
          have HBp : Hid (∀ (pp : PushM (go + 1) v.val ad gc k rx.length hd r cp (fun i j => ent rx j i) al rr cl (fun j => ent rx j k)), RowL pp.val go 24 [.int .i64 px, .int .i64 rx.length, .slice ad k gc]) := Lib.hid (fun pp => HBv.out.keep_at pp.below (by omega))
          have c2 : v.val.cell? ⟨go, 2, none⟩ = some (.slice ad k gc) := HBv.out.cell rfl
          have c3 : ∀ (pp : PushM (go + 1) v.val ad gc k rx.length hd r cp (fun i j => ent rx j i) al rr cl (fun j => ent rx j k)), pp.val.cell? ⟨go, 2, none⟩ = some (.slice ad k gc) := fun pp => (HBp.out pp).cell rfl
          have c4 : ∀ (pp : PushM (go + 1) v.val ad gc k rx.length hd r cp (fun i j => ent rx j i) al rr cl (fun j => ent rx j k)), pp.val.frozen? ⟨go, 2, none⟩ = false := fun pp => (HBp.out pp).fz 2
          have hk1 : k + 1 ≤ 4294967296 := by omega
          have hvs := v.size
          have hBv : go + 1 ≤ v.val.heap.size := by omega
          have htl : (tabL rx.length (fun j => ent rx j k)).length = rx.length := tabL_len _ _
          rw [htl]
          clear hRO0 hRn0 htl
          go_wp2_with (first | (at_builtin; refine wpList_pushM (B := go + 1) (w := v.val) HMv.out HRO.out hRN hBv (by rfl) _ _ (by rfl) (by rfl) (by rfl) hk1 ?_; intro pp) | fail)
          have HMp : Hid (Mtx (go + 1) (pp.val.setCell ⟨go, 2, none⟩ (.slice (some ⟨pp.g, 0, none⟩) (k + 1) pp.gc')) (some ⟨pp.g, 0, none⟩) pp.gc' (k + 1) rx.length (fun i => if i = k then al else hd i) (fun i => if i = k then rr else r i) (fun i => if i = k then cl else cp i) (fun i j => ent rx j i)) := Lib.hid ((pp.out.old (by omega) _).congr (fun i j hi hj => by
            by_cases e : i = k
            · subst e; rw [if_pos rfl]
            · rw [if_neg e]))
          have HBn : Hid (RowL (pp.val.setCell ⟨go, 2, none⟩ (.slice (some ⟨pp.g, 0, none⟩) (k + 1) pp.gc')) go 24 [.int .i64 px, .int .i64 rx.length, .slice (some ⟨pp.g, 0, none⟩) ((k + 1 : Nat)) pp.gc']) := Lib.hid ((HBp.out pp).set 2 _)
          obtain ⟨x, hx⟩ : ∃ x : Later go YO, x.val = pp.val.setCell ⟨go, 2, none⟩ (.slice (some ⟨pp.g, 0, none⟩) (k + 1) pp.gc') := ⟨⟨_, (HbL.out _ v.below).trans ((pp.below.mono (by omega)).trans (below_set (Nat.le_refl _) _)), by have := pp.below.size; simp; omega⟩, rfl⟩
          have HSn : Hid (go + 1 ≤ x.val.heap.size) := Lib.hid (by rw [hx]; have := pp.below.size; simp; omega)
          rw [← hx] at HMp HBn
          go_roundw
          case rel => exact ⟨k + 1, x, _, _, _, _, _, by omega, by go_num, hx.symm, HSn, HBn, HMp⟩
          case measure => simp [intOf]; omega
    · have hke : k = N' := by omega
      subst hke
      have F0 : v.val.cell? ⟨go, 0, none⟩ = some (.int .i64 px) := HB.out.cell rfl
      have F1 : v.val.cell? ⟨go, 1, none⟩ = some (.int .i64 rx.length) := HB.out.cell rfl
      have F2 : v.val.cell? ⟨go, 2, none⟩ = some (.slice ad k gc) := HB.out.cell rfl
      obtain ⟨hT1, hbY⟩ := HTw.out v.val v.below
      have HT1 := Lib.hid hT1
      have HbY := Lib.hid hbY
      have Z0 : v.val.frozen? ⟨g0 + 1, 0, none⟩ = false := HT1.out.fz 0
      have Z1 : ∀ x : Value, (v.val.setCell ⟨g0 + 1, 0, none⟩ x).frozen? ⟨g0 + 1, 1, none⟩ = false := fun x => (HT1.out.set 0 x).fz 1
      have Z2 : ∀ x y : Value, ((v.val.setCell ⟨g0 + 1, 0, none⟩ x).setCell ⟨g0 + 1, 1, none⟩ y).frozen? ⟨g0 + 1, 2, none⟩ = false := fun x y => ((HT1.out.set 0 x).set 1 y).fz 2
      have G0 : v.val.cell? ⟨g0 + 1, 0, none⟩ = some (.int .i64 0) := HT1.out.cell rfl
      have G1 : ∀ x : Value, (v.val.setCell ⟨g0 + 1, 0, none⟩ x).cell? ⟨g0 + 1, 1, none⟩ = some (.int .i64 0) := fun x => (HT1.out.set 0 x).cell rfl
      have G2 : ∀ x y : Value, ((v.val.setCell ⟨g0 + 1, 0, none⟩ x).setCell ⟨g0 + 1, 1, none⟩ y).cell? ⟨g0 + 1, 2, none⟩ = some (.slice none 0 0) := fun x y => ((HT1.out.set 0 x).set 1 y).cell rfl
      have HMf : Hid (Mtx (g0 + 1 + 1) v.val ad gc k C' hd r cp P) := Lib.hid (by rw [HEC.out, HEP.out]; exact HM.out.mono (by omega))
      clear hT1 hbY HM
      go_wp2
      refine HF.out v.val px rx.length k ad gc hd r cp 0 _ HT1.out HbY.out HMf.out ?_ ?_ HEp.out.symm HEc.out.symm rfl HE0.out.symm <;> rfl

end Go.Proofs.Ytffnpokceomncaa
