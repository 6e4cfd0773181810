
/-
  field.Turned.
  rotaref.lead, rotaref.Hang.
  Columns of a matrix modulo a prime, plainly: as many as must be; what hangs on what. No program in sight.
-/
import Derived.Test.YtffnpokceomncaaPk23
import Derived.Test.YtffnpokceomncaaPk24
import Derived.Test.YtffnpokceomncaaPk22
import Derived.Test.YtffnpokceomncaaPk17
import Derived.Test.YtffnpokceomncaaPk20
import Derived.Test.YtffnpokceomncaaPk10
namespace Go.Proofs.Ytffnpokceomncaa
open Go.RowKit
set_option linter.unusedVariables false

theorem tabL_list {n : Nat} {A : Nat → Int} {xs : List Int} (hl : xs.length = n) (h : ∀ j, j < n → xs.getD j 0 = A j) : xs = tabL n A := by
  apply List.ext_getElem
  · rw [tabL_len, hl]
  · intro k h1 h2
    have := h k (by omega)
    rw [List.getD_eq_getElem?_getD, List.getElem?_eq_getElem h1] at this
    simp [tabL]
    simpa using this

set_option maxRecDepth 100000 in
set_option maxHeartbeats 16000000 in
theorem c_turned {B : Nat} {W : World} (u : Later B W) (px cx : Int) (rx : Lls) (ax : Option Addr) (capx : Nat) (hx : RowsI B W ax rx)
    (hlx : rx.length ≤ 17592186044416) (hrx : ∀ i, i < rx.length → (rx.getD i []).length ≤ 17592186044416)
    (p' c' : Int) (N' C' : Nat) (P : Nat → Nat → Int) (e : Int)
    (he : (¬ isMatrix px cx rx ∧ e = 1) ∨ (isMatrix px cx rx ∧ ¬ cx ≤ 6 ∧ e = 2) ∨ (isMatrix px cx rx ∧ cx ≤ 6 ∧ e = 0))
    (hz : e ≠ 0 → p' = 0 ∧ c' = 0 ∧ N' = 0) (hok : e = 0 → p' = px ∧ c' = rx.length ∧ (N' : Int) = cx ∧ C' = rx.length ∧ P = fun i j => ent rx j i) :
    Calls Try.prog 8 #[.agg #[.int .i64 px, .int .i64 cx, .slice ax rx.length capx]] u.val (RetP B W (MatM B p' c' N' C' P e)) := by
  have hB := u.size
  have k1 : (u.val.alloc (.cells #[.int .i64 px, .int .i64 cx, .slice ax rx.length capx] 24)).heap.size = u.val.heap.size + 1 := by simp
  have TX : Hid (RowL ((u.val.alloc (.cells #[.int .i64 px, .int .i64 cx, .slice ax rx.length capx] 24)).alloc (.cells #[.int .i64 0, .int .i64 0, .slice none 0 0] 24)) u.val.heap.size 24 [.int .i64 px, .int .i64 cx, .slice ax rx.length capx]) := Lib.hid ((RowL.new u.val 24 _).keep ((Below.refl _ _).alloc (Nat.le_refl _) _))
  have TZ : Hid (RowL ((u.val.alloc (.cells #[.int .i64 px, .int .i64 cx, .slice ax rx.length capx] 24)).alloc (.cells #[.int .i64 0, .int .i64 0, .slice none 0 0] 24)) (u.val.heap.size + 1) 24 [.int .i64 0, .int .i64 0, .slice none 0 0]) := Lib.hid (by
    have h := RowL.new (u.val.alloc (.cells #[.int .i64 px, .int .i64 cx, .slice ax rx.length capx] 24)) 24 [.int .i64 0, .int .i64 0, .slice none 0 0]
    rwa [k1] at h)
  have HZ : Hid (((u.val.alloc (.cells #[.int .i64 px, .int .i64 cx, .slice ax rx.length capx] 24)).alloc (.cells #[.int .i64 0, .int .i64 0, .slice none 0 0] 24)).heap.size = u.val.heap.size + 1 + 1) := Lib.hid (by simp)
  have HV : Hid (∀ w : World, Below (u.val.heap.size + 1) ((u.val.alloc (.cells #[.int .i64 px, .int .i64 cx, .slice ax rx.length capx] 24)).alloc (.cells #[.int .i64 0, .int .i64 0, .slice none 0 0] 24)) w → ∃ x : Later B W, x.val = w) := Lib.hid (fun w hb => ⟨⟨w, ((u.alloc _).alloc _).below.trans (hb.mono (by omega)), by have := hb.size; simp at this; omega⟩, rfl⟩)
  have HXs : Hid (RowsI ((u.val.alloc (.cells #[.int .i64 px, .int .i64 cx, .slice ax rx.length capx] 24)).alloc (.cells #[.int .i64 0, .int .i64 0, .slice none 0 0] 24)).heap.size ((u.val.alloc (.cells #[.int .i64 px, .int .i64 cx, .slice ax rx.length capx] 24)).alloc (.cells #[.int .i64 0, .int .i64 0, .slice none 0 0] 24)) ax rx) := Lib.hid (hx.to ((u.alloc _).alloc _))
  have HE := Lib.hid he
  have HNo := Lib.hid hz
  have HOk := Lib.hid hok
  have HRx := Lib.hid hrx
  clear hx k1 he hz hok hrx
  go_enter Try.func8, Try.ntmps8
  go_upto_region 1 with fail
  generalize ((u.val.alloc (.cells #[.int .i64 px, .int .i64 cx, .slice ax rx.length capx] 24)).alloc (.cells #[.int .i64 0, .int .i64 0, .slice none 0 0] 24)) = Y at *
  generalize u.val.heap.size = g0 at *
  clear u
  have x0 : ∀ v : Later Y.heap.size Y, v.val.cell? ⟨g0, 0, none⟩ = some (.int .i64 px) := fun v => (TX.out.keep v.below).cell rfl
  have x1 : ∀ v : Later Y.heap.size Y, v.val.cell? ⟨g0, 1, none⟩ = some (.int .i64 cx) := fun v => (TX.out.keep v.below).cell rfl
  have x2 : ∀ v : Later Y.heap.size Y, v.val.cell? ⟨g0, 2, none⟩ = some (.slice ax rx.length capx) := fun v => (TX.out.keep v.below).cell rfl
  obtain ⟨z, hz⟩ : ∃ z : Later Y.heap.size Y, z.val = Y := ⟨Later.self _, rfl⟩
  have KX : Hid (Calls Try.prog 32 #[.agg #[.int .i64 px, .int .i64 cx, .slice ax rx.length capx]] z.val (Ret Y.heap.size Y (.int .i64 (errno (decide (isMatrix px cx rx)) 1)))) := Lib.hid (c_checkMatrix z px cx rx ax capx HXs.out hlx HRx.out)
  rw [← hz]
  clear hz
  have d0 := x0 z
  have d1 := x1 z
  have d2 := x2 z
  go_upto_region 2 with (first | (go_at_call 32; (with_reducible refine (KX.out).mono ?_); rintro e _ ⟨rfl, v, rfl⟩) | fail)
  clear KX d0 d1 d2 z
  have hfin : ∀ (w : World) (pp cc : Int) (nn : Nat) (ad : Option Addr) (gc : Nat) (hd : Nat → Option Addr) (r cp : Nat → Nat) (ee : Int) (tm : Array Value), RowL w (g0 + 1) 24 [.int .i64 0, .int .i64 0, .slice none 0 0] → Below (g0 + 1) Y w → Mtx (g0 + 1 + 1) w ad gc N' C' hd r cp P → tm.getD 2 undef = .pointer (some ⟨g0 + 1, 0, none⟩) → tm.getD 3 undef = .int .i64 ee → pp = p' → cc = c' → nn = N' → ee = e → bodyPost Try.prog Try.f8 (RetP B W (MatM B p' c' N' C' P e)) .ret { tmps := tm, defers := [] } (((w.setCell ⟨g0 + 1, 0, none⟩ (.int .i64 pp)).setCell ⟨g0 + 1, 1, none⟩ (.int .i64 cc)).setCell ⟨g0 + 1, 2, none⟩ (.slice ad nn gc)) := fun w pp cc nn ad gc hd r cp ee tm hR hb hM h4 h5 e1 e2 e3 e4 => by
    subst e1 e2 e3 e4
    refine bodyPost_ret (results_row (vs := [.int .i64 pp, .int .i64 cc, .slice ad nn gc]) rfl _ _ (g0 + 1) h4 (((hR.set 0 _).set 1 _).set 2 _) Try.underlying24 (by kernel_rfl)) rfl ?_
    obtain ⟨x, hx⟩ := HV.out _ (((hb.trans (below_set (Nat.le_refl _) (.int .i64 pp))).trans (below_set (Nat.le_refl _) (.int .i64 cc))).trans (below_set (i := 2) (Nat.le_refl _) (.slice ad nn gc)))
    exact RetP.of ⟨x, hx⟩ ⟨ad, gc, hd, r, cp, by rw [h5], (((hM.old (by omega) _).old (by omega) _).old (by omega) _).mono (by omega)⟩
  have HF := Lib.hid hfin
  clear hfin
  have HTv : Hid (RowL v.val (g0 + 1) 24 [.int .i64 0, .int .i64 0, .slice none 0 0]) := Lib.hid (TZ.out.keep v.below)
  have Z0 : v.val.frozen? ⟨g0 + 1, 0, none⟩ = false := HTv.out.fz 0
  have Z1 : ∀ x : Value, (v.val.setCell ⟨g0 + 1, 0, none⟩ x).frozen? ⟨g0 + 1, 1, none⟩ = false := fun x => (HTv.out.set 0 x).fz 1
  have Z2 : ∀ x y : Value, ((v.val.setCell ⟨g0 + 1, 0, none⟩ x).setCell ⟨g0 + 1, 1, none⟩ y).frozen? ⟨g0 + 1, 2, none⟩ = false := fun x y => ((HTv.out.set 0 x).set 1 y).fz 2
  have G0 : v.val.cell? ⟨g0 + 1, 0, none⟩ = some (.int .i64 0) := HTv.out.cell rfl
  have G1 : ∀ x : Value, (v.val.setCell ⟨g0 + 1, 0, none⟩ x).cell? ⟨g0 + 1, 1, none⟩ = some (.int .i64 0) := fun x => (HTv.out.set 0 x).cell rfl
  have G2 : ∀ x y : Value, ((v.val.setCell ⟨g0 + 1, 0, none⟩ x).setCell ⟨g0 + 1, 1, none⟩ y).cell? ⟨g0 + 1, 2, none⟩ = some (.slice none 0 0) := fun x y => ((HTv.out.set 0 x).set 1 y).cell rfl
  have HBv : Hid (Below (g0 + 1) Y v.val) := Lib.hid (v.below.mono (by have := HZ.out; omega))
  have HSv : Hid (g0 + 1 + 1 ≤ v.val.heap.size) := Lib.hid (by have := v.size; have := HZ.out; omega)
  have HNil : Hid (e ≠ 0 → Mtx (g0 + 1 + 1) v.val none 0 N' C' (fun _ => none) (fun _ => 0) (fun _ => 0) P ∧ (0 : Int) = p' ∧ (0 : Int) = c' ∧ 0 = N') := Lib.hid (fun h => by
    obtain ⟨h1, h2, h3⟩ := HNo.out h
    rw [h3]
    exact ⟨Mtx.start _ _ _ _ _ _ _, h1.symm, h2.symm, rfl⟩)
  have x0v := x0 v
  have x1v := x1 v
  have x2v := x2 v
  by_cases hmx : isMatrix px cx rx
  case neg =>
    have he1 : e = 1 := by
      rcases HE.out with ⟨_, h⟩ | ⟨h, _⟩ | ⟨h, _⟩
      · exact h
      · exact absurd h hmx
      · exact absurd h hmx
    obtain ⟨h1, h2, h3, h4⟩ := HNil.out (by omega)
    have HM := Lib.hid h1
    rw [decide_eq_false hmx]
    have HE1 := Lib.hid he1
    have H2 := Lib.hid h2
    have H3 := Lib.hid h3
    have H4 := Lib.hid h4
    clear h1 h2 h3 h4 hmx he1 HE HNo HOk HRx HXs HNil
    go_wp2
    refine HF.out v.val 0 0 0 none 0 _ _ _ 1 _ HTv.out HBv.out HM.out ?_ ?_ H2.out H3.out H4.out HE1.out.symm <;> rfl
  rw [decide_eq_true hmx, show errno true 1 = 0 from rfl]
  by_cases hs : cx ≤ 6
  case neg =>
    have he1 : e = 2 := by
      rcases HE.out with ⟨h, _⟩ | ⟨_, _, h⟩ | ⟨_, h, _⟩
      · exact absurd hmx h
      · exact h
      · omega
    obtain ⟨h1, h2, h3, h4⟩ := HNil.out (by omega)
    have HM := Lib.hid h1
    have HE1 := Lib.hid he1
    have H2 := Lib.hid h2
    have H3 := Lib.hid h3
    have H4 := Lib.hid h4
    have d6 : decide ((6 : Int) < cx) = true := decide_eq_true (by omega)
    have g6 : 6 < cx := by omega
    clear h1 h2 h3 h4 hmx hs he1 HE HNo HOk HRx HXs HNil
    go_wp2
    refine HF.out v.val 0 0 0 none 0 _ _ _ 2 _ HTv.out HBv.out HM.out ?_ ?_ H2.out H3.out H4.out HE1.out.symm <;> rfl
  have he0 : e = 0 := by
    rcases HE.out with ⟨h, _⟩ | ⟨_, h, _⟩ | ⟨_, _, h⟩
    · exact absurd hmx h
    · omega
    · exact h
  obtain ⟨ep, ec, eN, eC, eP⟩ := HOk.out he0
  have hN6 : rx.length ≤ 6 := hmx.2.2.1
  have hcx : cx = (N' : Int) := eN.symm
  subst hcx
  have hrX : ∀ i, i < rx.length → (rx.getD i []).length = N' := fun i hi => by have := (hmx.2.2.2 i hi).1; omega
  have hN8 : N' ≤ 6 := by omega
  have HrX := Lib.hid hrX
  have HE0 := Lib.hid he0
  have HEp := Lib.hid ep
  have HEc := Lib.hid ec
  have HEC := Lib.hid eC
  have HEP := Lib.hid eP
  have d6 : decide ((6 : Int) < (N' : Int)) = false := decide_eq_false (by omega)
  have g6 : ¬ 6 < N' := by omega
  clear HE HNo HOk HNil hmx hrX he0 ep ec eN eP eC HRx hlx hs
  have HB0 : Hid (RowL (v.val.alloc (.cells #[.int .i64 px, .int .i64 rx.length, .slice none 0 0] 24)) v.val.heap.size 24 [.int .i64 px, .int .i64 rx.length, .slice none 0 0]) := Lib.hid (RowL.new _ _ _)
  have HYO : Hid ((v.val.alloc (.cells #[.int .i64 px, .int .i64 rx.length, .slice none 0 0] 24)).heap.size = v.val.heap.size + 1) := Lib.hid (by simp)
  have HL : Hid (∀ w : World, Below v.val.heap.size (v.val.alloc (.cells #[.int .i64 px, .int .i64 rx.length, .slice none 0 0] 24)) w → ∃ u : Later Y.heap.size Y, u.val = w) := Lib.hid (fun w hb => by
    have h1 : Below v.val.heap.size v.val w := ((Below.refl _ _).alloc (Nat.le_refl _) _).trans hb
    exact ⟨v.to w (h1.mono v.size), rfl⟩)
  have HTw : Hid (∀ w : World, Below v.val.heap.size (v.val.alloc (.cells #[.int .i64 px, .int .i64 rx.length, .slice none 0 0] 24)) w → RowL w (g0 + 1) 24 [.int .i64 0, .int .i64 0, .slice none 0 0] ∧ Below (g0 + 1) Y w) := Lib.hid (fun w hb => by
    have h1 : Below v.val.heap.size v.val w := ((Below.refl _ _).alloc (Nat.le_refl _) _).trans hb
    exact ⟨HTv.out.keep h1, HBv.out.trans (h1.mono (by have := HSv.out; omega))⟩)
  go_upto_region 7 with fail
  clear x0v x1v x2v Z0 Z1 Z2 G0 G1 G2 HTv HBv d6 g6
  obtain ⟨go, hgo⟩ : ∃ go, go = v.val.heap.size := ⟨_, rfl⟩
  have hgo3 : g0 + 1 + 1 ≤ go := by have := HSv.out; omega
  generalize hYe : (v.val.alloc (.cells #[.int .i64 px, .int .i64 rx.length, .slice none 0 0] 24)) = YO at *
  clear hYe
  rw [← hgo] at HB0 HYO HL HTw ⊢
  clear hgo HSv v
  have x2' : ∀ w : World, Below go YO w → w.cell? ⟨g0, 2, none⟩ = some (.slice ax rx.length capx) := fun w hb => by
    obtain ⟨u, rfl⟩ := HL.out w hb; exact x2 u
  have x1' : ∀ w : World, Below go YO w → w.cell? ⟨g0, 1, none⟩ = some (.int .i64 N') := fun w hb => by
    obtain ⟨u, rfl⟩ := HL.out w hb; exact x1 u
  clear x0 x1 x2 TX TZ
  obtain ⟨z, hz⟩ : ∃ z : Later go YO, z.val = YO := ⟨⟨YO, Below.refl _ _, by rw [HYO.out]; omega⟩, rfl⟩
  have x1z := x1' z.val z.below
  rw [← hz] at HB0 ⊢
  have HS0 : Hid (go + 1 ≤ z.val.heap.size) := Lib.hid (by rw [hz, HYO.out]; omega)
  clear hz
  go_wp2
  clear x1z
  go_loopw [28] (fun i wr => ∃ (k : Nat) (v : Later go YO) (ad : Option Addr) (gc : Nat) (hd : Nat → Option Addr) (r cp : Nat → Nat), k ≤ N' ∧ i = .int .i64 k ∧ wr = v.val ∧ Hid (go + 1 ≤ v.val.heap.size) ∧ Hid (RowL v.val go 24 [.int .i64 px, .int .i64 rx.length, .slice ad k gc]) ∧ Hid (Mtx (go + 1) v.val ad gc k rx.length hd r cp (fun i j => ent rx j i))) (fun i _ => N' - (intOf i).toNat)
  case atStart => exact ⟨0, z, none, 0, fun _ => none, fun _ => 0, fun _ => 0, by omega, rfl, rfl, HS0, HB0, Lib.hid (Mtx.start _ _ _ _ _ _ _)⟩
  case round =>
    clear HB0 HS0 z
    obtain ⟨k, v, ad, gc, hd, r, cp, hk, rfl, rfl, HS, HB, HM⟩ := hrel
    by_cases hlt : k < N'
    · have x2v := x2' v.val v.below
      go_wp2
      clear x2v
      obtain ⟨rl, hrl⟩ : ∃ rl, rl = v.val.heap.size := ⟨_, rfl⟩
      have hrl1 : go + 1 ≤ rl := by have := HS.out; omega
      have HMlt : Hid (∀ i, i < k → 0 < rx.length → r i < rl) := Lib.hid (fun i hi hC => by rw [hrl]; exact (HM.out.rlt hC hi).2)
      have HAlt : Hid (∀ g, ad = some ⟨g, 0, none⟩ → g < rl) := Lib.hid (fun g hg => by
        rw [hrl]
        rcases HM.out.form with ⟨e1, _⟩ | ⟨g', e1, _, e3⟩
        · rw [hg] at e1; cases e1
        · rw [hg] at e1; cases e1; exact e3)
      have HbL : Hid (∀ w : World, Below rl v.val w → Below go YO w) := Lib.hid (fun w hb => v.below.trans (hb.mono (by omega)))
      obtain ⟨V, hV⟩ : ∃ V, V = v.val := ⟨_, rfl⟩
      obtain ⟨z, hz⟩ : ∃ z : Later rl V, z.val = V := ⟨⟨V, Below.refl _ _, by rw [hV, hrl]; exact Nat.le_refl _⟩, rfl⟩
      rw [← hV] at HM HB HbL hrl
      rw [← hV, ← hz]
      clear hV HS hz v
      go_loopw [7, 34] (fun l i wr => ∃ (q : Nat) (v : Later rl V) (al : Option Addr) (cl : Nat), q ≤ rx.length ∧ l = .slice al (tabL q (fun j => ent rx j k)).length cl ∧ i = .int .i64 q ∧ wr = v.val ∧ Hid (Own rl v.val al cl (tabL q (fun j => ent rx j k)))) (fun _ i _ => rx.length - (intOf i).toNat)
      case atStart => exact ⟨0, z, none, 0, by omega, rfl, rfl, rfl, Lib.hid (Own.nil _ _)⟩
      case round =>
        clear z
        obtain ⟨q, v, al, cl, hq, rfl, rfl, rfl, HO⟩ := hrel
        by_cases hlq : q < rx.length
        · obtain ⟨be, ofe, rfl, hbe, adr, cpr, hI, hn, hcell⟩ := HXs.out.atN hlq
          have hrk := HrX.out q hlq
          obtain ⟨br, ofr, rfl, hbr, hcr⟩ := hI.at (show k < (rx.getD q []).length by omega)
          have hlk : k < (rx.getD q []).length := by omega
          obtain ⟨u, hu⟩ := HL.out v.val (HbL.out _ v.below)
          have c1 := hcell u
          have c2 := hcr u k hlk
          rw [hu] at c1 c2
          have HEr : Hid ((rx.getD q []).getD k 0 = ent rx q k) := Lib.hid rfl
          rw [HEr.out] at c2
          clear hcell hcr hu u hI
          have HTs : Hid (tabL (q + 1) (fun j => ent rx j k) = tabL q (fun j => ent rx j k) ++ [ent rx q k]) := Lib.hid (tabL_snoc _ _)
          have HTl : Hid ((tabL q (fun j => ent rx j k)).length = q) := Lib.hid (tabL_len _ _)
          generalize rx.getD q [] = row at *
          generalize ent rx q k = ek at *
          generalize hTq : tabL q (fun j => ent rx j k) = T at *
          clear hTq
          have HOv := HO
          go_wp2_with (first | (at_builtin; refine wpList_push (B := rl) (W := V) (w := v.val) v.below v.size rfl _ _ rfl T al cl ek rfl HOv.out rfl (by have := HTl.out; omega) ?_; intro u2 ad2 cp2 hown) | fail)
          go_roundw
          case rel =>
            refine ⟨q + 1, u2, ad2, cp2, by omega, ?_, by go_num, rfl, ?_⟩
            · rw [HTs.out]; simp
            · rw [HTs.out]; exact Lib.hid hown
          case measure => simp [intOf]; omega
        · have hqe : q = rx.length := by omega
          subst hqe
          obtain ⟨rr, hRO0, hRn0⟩ := rowO_of_own HO.out (tabL_len _ _)
          have HRO : Hid (RowO (go + 1) v.val rx.length al rr cl (fun j => ent rx j k)) := Lib.hid ⟨hRO0.hdr, fun hC => by
            have h1 := (hRO0.row hC).mono hrl1
            rwa [show tabL rx.length (fun j => (tabL rx.length (fun j => ent rx j k)).getD j 0) = tabL rx.length (fun j => ent rx j k) from tabL_congr (fun j hj => tabL_getD hj)] at h1, hRO0.nil⟩
          have hRN : 0 < rx.length → (∀ i, i < k → r i ≠ rr) ∧ ∀ g, ad = some ⟨g, 0, none⟩ → rr ≠ g := fun hC => ⟨fun i hi e => by have := HMlt.out i hi hC; have := hRn0 hC; omega, fun g hg e => by have := HAlt.out g hg; have := hRn0 hC; omega⟩
          have HMv : Hid (Mtx (go + 1) v.val ad gc k rx.length hd r cp (fun i j => ent rx j i)) := Lib.hid (HM.out.keep_at v.below HAlt.out HMlt.out)
          have HBv : Hid (RowL v.val go 24 [.int .i64 px, .int .i64 rx.length, .slice ad k gc]) := Lib.hid (HB.out.keep_at v.below (by omega))
          have HBp : Hid (∀ (pp : PushM (go + 1) v.val ad gc k rx.length hd r cp (fun i j => ent rx j i) al rr cl (fun j => ent rx j k)), RowL pp.val go 24 [.int .i64 px, .int .i64 rx.length, .slice ad k gc]) := Lib.hid (fun pp => HBv.out.keep_at pp.below (by omega))
          have c2 : v.val.cell? ⟨go, 2, none⟩ = some (.slice ad k gc) := HBv.out.cell rfl
          have c3 : ∀ (pp : PushM (go + 1) v.val ad gc k rx.length hd r cp (fun i j => ent rx j i) al rr cl (fun j => ent rx j k)), pp.val.cell? ⟨go, 2, none⟩ = some (.slice ad k gc) := fun pp => (HBp.out pp).cell rfl
          have c4 : ∀ (pp : PushM (go + 1) v.val ad gc k rx.length hd r cp (fun i j => ent rx j i) al rr cl (fun j => ent rx j k)), pp.val.frozen? ⟨go, 2, none⟩ = false := fun pp => (HBp.out pp).fz 2
          have hk1 : k + 1 ≤ 4294967296 := by omega
          have hvs := v.size
          have hBv : go + 1 ≤ v.val.heap.size := by omega
          have htl : (tabL rx.length (fun j => ent rx j k)).length = rx.length := tabL_len _ _
          rw [htl]
          clear hRO0 hRn0 htl
          go_wp2_with (first | (at_builtin; refine wpList_pushM (B := go + 1) (w := v.val) HMv.out HRO.out hRN hBv (by rfl) _ _ (by rfl) (by rfl) (by rfl) hk1 ?_; intro pp) | fail)
          have HMp : Hid (Mtx (go + 1) (pp.val.setCell ⟨go, 2, none⟩ (.slice (some ⟨pp.g, 0, none⟩) (k + 1) pp.gc')) (some ⟨pp.g, 0, none⟩) pp.gc' (k + 1) rx.length (fun i => if i = k then al else hd i) (fun i => if i = k then rr else r i) (fun i => if i = k then cl else cp i) (fun i j => ent rx j i)) := Lib.hid ((pp.out.old (by omega) _).congr (fun i j hi hj => by
            by_cases e : i = k
            · subst e; rw [if_pos rfl]
            · rw [if_neg e]))
          have HBn : Hid (RowL (pp.val.setCell ⟨go, 2, none⟩ (.slice (some ⟨pp.g, 0, none⟩) (k + 1) pp.gc')) go 24 [.int .i64 px, .int .i64 rx.length, .slice (some ⟨pp.g, 0, none⟩) ((k + 1 : Nat)) pp.gc']) := Lib.hid ((HBp.out pp).set 2 _)
          obtain ⟨x, hx⟩ : ∃ x : Later go YO, x.val = pp.val.setCell ⟨go, 2, none⟩ (.slice (some ⟨pp.g, 0, none⟩) (k + 1) pp.gc') := ⟨⟨_, (HbL.out _ v.below).trans ((pp.below.mono (by omega)).trans (below_set (Nat.le_refl _) _)), by have := pp.below.size; simp; omega⟩, rfl⟩
          have HSn : Hid (go + 1 ≤ x.val.heap.size) := Lib.hid (by rw [hx]; have := pp.below.size; simp; omega)
          rw [← hx] at HMp HBn
          go_roundw
          case rel => exact ⟨k + 1, x, _, _, _, _, _, by omega, by go_num, hx.symm, HSn, HBn, HMp⟩
          case measure => simp [intOf]; omega
    · have hke : k = N' := by omega
      subst hke
      have F0 : v.val.cell? ⟨go, 0, none⟩ = some (.int .i64 px) := HB.out.cell rfl
      have F1 : v.val.cell? ⟨go, 1, none⟩ = some (.int .i64 rx.length) := HB.out.cell rfl
      have F2 : v.val.cell? ⟨go, 2, none⟩ = some (.slice ad k gc) := HB.out.cell rfl
      obtain ⟨hT1, hbY⟩ := HTw.out v.val v.below
      have HT1 := Lib.hid hT1
      have HbY := Lib.hid hbY
      have Z0 : v.val.frozen? ⟨g0 + 1, 0, none⟩ = false := HT1.out.fz 0
      have Z1 : ∀ x : Value, (v.val.setCell ⟨g0 + 1, 0, none⟩ x).frozen? ⟨g0 + 1, 1, none⟩ = false := fun x => (HT1.out.set 0 x).fz 1
      have Z2 : ∀ x y : Value, ((v.val.setCell ⟨g0 + 1, 0, none⟩ x).setCell ⟨g0 + 1, 1, none⟩ y).frozen? ⟨g0 + 1, 2, none⟩ = false := fun x y => ((HT1.out.set 0 x).set 1 y).fz 2
      have G0 : v.val.cell? ⟨g0 + 1, 0, none⟩ = some (.int .i64 0) := HT1.out.cell rfl
      have G1 : ∀ x : Value, (v.val.setCell ⟨g0 + 1, 0, none⟩ x).cell? ⟨g0 + 1, 1, none⟩ = some (.int .i64 0) := fun x => (HT1.out.set 0 x).cell rfl
      have G2 : ∀ x y : Value, ((v.val.setCell ⟨g0 + 1, 0, none⟩ x).setCell ⟨g0 + 1, 1, none⟩ y).cell? ⟨g0 + 1, 2, none⟩ = some (.slice none 0 0) := fun x y => ((HT1.out.set 0 x).set 1 y).cell rfl
      have HMf : Hid (Mtx (g0 + 1 + 1) v.val ad gc k C' hd r cp P) := Lib.hid (by rw [HEC.out, HEP.out]; exact HM.out.mono (by omega))
      clear hT1 hbY HM
      go_wp2
      refine HF.out v.val px rx.length k ad gc hd r cp 0 _ HT1.out HbY.out HMf.out ?_ ?_ HEp.out.symm HEc.out.symm rfl HE0.out.symm <;> rfl

end Go.Proofs.Ytffnpokceomncaa

namespace Go.Proofs.Ytffnpokceomncaa
open Go.RowKit
set_option linter.unusedVariables false

/-- the first place that is not nought; -1: there is none -/
def LdIs (xs : List Int) (e : Int) : Prop := (∃ l : Nat, e = l ∧ l < xs.length ∧ xs.getD l 0 ≠ 0 ∧ ∀ j, j < l → xs.getD j 0 = 0) ∨ (e = -1 ∧ ∀ j, j < xs.length → xs.getD j 0 = 0)
theorem LdIs.ex (xs : List Int) : ∃ e, LdIs xs e := by
  by_cases h : ∃ l, l < xs.length ∧ xs.getD l 0 ≠ 0
  · obtain ⟨l, h1, h2⟩ := h
    obtain ⟨c, ⟨c1, c2⟩, c3⟩ := exists_least (P := fun l => l < xs.length ∧ xs.getD l 0 ≠ 0) l ⟨h1, h2⟩
    refine ⟨c, .inl ⟨c, rfl, c1, c2, fun j hj => ?_⟩⟩
    apply Classical.byContradiction
    intro hne
    exact c3 j hj ⟨by omega, hne⟩
  · refine ⟨-1, .inr ⟨rfl, fun j hj => ?_⟩⟩
    apply Classical.byContradiction
    intro hne
    exact h ⟨j, hj, hne⟩

set_option maxRecDepth 100000 in
set_option maxHeartbeats 4000000 in
theorem c_lead {B : Nat} {W : World} (u : Later B W) (xs : List Int) (a : Option Addr) (cap : Nat) (h : IntsAt B W a xs) (hlen : xs.length ≤ 1048576) (e : Int) (he : LdIs xs e) :
    Calls Try.prog 41 #[.slice a xs.length cap] u.val (Ret B W (.int .i64 e)) := by
  have HE := Lib.hid he
  have H := Lib.hid h
  clear h he
  go_enter Try.func41, Try.ntmps41
  go_wp2
  go_loopw [3] (fun i wr => ∃ (k : Nat) (v : Later B W), k ≤ xs.length ∧ i = .int .i64 k ∧ wr = v.val ∧ Hid (∀ j, j < k → xs.getD j 0 = 0)) (fun i _ => xs.length - (intOf i).toNat)
  case atStart => exact ⟨0, u, by omega, rfl, rfl, Lib.hid (fun j hj => by omega)⟩
  case round =>
    obtain ⟨k, v, hk, rfl, rfl, HZ⟩ := hrel
    by_cases hlt : k < xs.length
    · obtain ⟨b, off, rfl, hb, hc⟩ := H.out.at hlt
      have c0 := hc v k hlt
      rcases ieq (xs.getD k 0) 0 with ⟨g1, d1, d2⟩ | ⟨g1, d1, d2⟩
      · have HZ2 : Hid (∀ j, j < k + 1 → xs.getD j 0 = 0) := Lib.hid (fun j hj => by
          by_cases e : j = k
          · subst e; exact g1
          · exact HZ.out j (by omega))
        clear hc
        generalize xs.getD k 0 = x at *
        go_wp2
        go_roundw
        case rel => exact ⟨k + 1, v, by omega, by go_num, by first | rfl | trivial, HZ2⟩
        case measure => simp [intOf]; omega
      · have hek : e = k := by
          rcases HE.out with ⟨l, rfl, h1, h2, h3⟩ | ⟨_, h2⟩
          · rcases Nat.lt_trichotomy l k with c | c | c
            · exact absurd (HZ.out l c) h2
            · rw [c]
            · exact absurd (h3 k c) g1
          · exact absurd (h2 k hlt) g1
        have HK := Lib.hid hek
        clear hc hek HE HZ
        generalize xs.getD k 0 = x at *
        go_wp2
        go_ret
        exact Ret.mk v (vint HK.out.symm)
    · have hke : k = xs.length := by omega
      have hek : e = -1 := by
        rcases HE.out with ⟨l, rfl, h1, h2, h3⟩ | ⟨h, _⟩
        · exact absurd (HZ.out l (by omega)) h2
        · exact h
      subst hke
      have HK := Lib.hid hek
      clear hek HE HZ
      go_wp2
      go_ret
      exact Ret.mk v (vint HK.out.symm)

/-- a row that is copied -/
theorem wpList_copyI {w : World} {ops : Array Oper} {rest : List Oper} {o : Oper} {a : Act} {Q : Exit → Act → World → Prop} (hgd : o.guard = none) (s x : Operand)
    (ho : o.op = .call { callee := .builtin .append, args := #[s, x], argTypes := #[35, 35] })
    (ys : List Int) (n : Nat) (hn : ys.length = n) (ax : Option Addr) (cx : Nat) (hs : a.eval s = .slice none 0 0) (hx : a.eval x = .slice ax n cx) (hy : IntsAt w.heap.size w ax ys) (hcx : ax = none → cx = 0)
    (hlen : n ≤ 17592186044416)
    (h : ∀ (u' : Later w.heap.size w) (ad' : Option Addr) (cap' : Nat), Own w.heap.size u'.val ad' cap' ys → wpList Try.prog ops Q rest (a.put o.dst (.slice ad' n cap')) u'.val) :
    wpList Try.prog ops Q (o :: rest) a w := by
  subst hn
  refine wpList_appends_g (B := w.heap.size) (Nat.le_refl _) hgd s x ho [] none 0 hs (Own.nil _ _) ys ax cx hx hy hcx (by simpa using hlen) (fun w' ad' cap' hown hg => ?_)
  have hb := own_below (Below.refl w.heap.size w) (Nat.le_refl _) (Own.nil _ _) hg
  exact h ⟨w', hb, hb.size⟩ ad' cap' hown

/-- so many times a row, that nothing is left at a place -/
theorem fac_fin {p : Nat} (hp : PrimeP p) : ∀ x y : Fin 8, x.val < p → 0 < y.val → y.val < p → ∃ f : Fin 8, f.val < p ∧ (x.val + f.val * y.val) % p = 0 := by
  rcases hp with rfl | rfl | rfl | rfl <;> decide
theorem fac_nat {p : Nat} (hp : PrimeP p) (x : Nat) (hx : x < 8) (y : Nat) (hy : y < 8) (h1 : x < p) (h2 : 0 < y) (h3 : y < p) : ∃ f, f < 8 ∧ f < p ∧ (x + f * y) % p = 0 := by
  obtain ⟨f, a, b⟩ := fac_fin hp ⟨x, hx⟩ ⟨y, hy⟩ h1 h2 h3
  exact ⟨f.val, f.isLt, a, b⟩
theorem fac_first {p : Nat} (hp : PrimeP p) {x y : Int} (hx : 0 ≤ x ∧ x < p) (hy : 0 ≤ y ∧ y < p) (hy0 : y ≠ 0) : ∃ f : Nat, f < p ∧ (x + f * y) % (p : Int) = 0 ∧ ∀ k, k < f → (x + k * y) % (p : Int) ≠ 0 := by
  have h7 := hp.le
  obtain ⟨a, rfl⟩ := Int.eq_ofNat_of_zero_le hx.1
  obtain ⟨b, rfl⟩ := Int.eq_ofNat_of_zero_le hy.1
  obtain ⟨f, _, h1, h2⟩ := fac_nat hp a (by omega) b (by omega) (by omega) (by omega) (by omega)
  have e : ∀ f : Nat, ((a : Int) + f * b) % (p : Int) = ((a + f * b) % p : Nat) := fun f => by simp
  obtain ⟨c, ⟨c1, c2⟩, c3⟩ := exists_least (P := fun f => f < p ∧ (a + f * b) % p = 0) f ⟨h1, h2⟩
  refine ⟨c, c1, ?_, fun k hk hne => ?_⟩
  · rw [e, c2]; rfl
  · rw [e] at hne
    exact c3 k hk ⟨by omega, by exact_mod_cast hne⟩

/-- a kept row begins here -/
def LdE (C : Nat) (K : Nat → Int) (l : Nat) : Prop := l < C ∧ K l ≠ 0 ∧ ∀ j, j < l → K j = 0
theorem LdE.is {C : Nat} {K : Nat → Int} {l : Nat} (h : LdE C K l) : LdIs (tabL C K) (l : Int) := .inl ⟨l, rfl, by rw [tabL_len]; exact h.1, by rw [tabL_getD h.1]; exact h.2.1, fun j hj => by rw [tabL_getD (by have := h.1; omega)]; exact h.2.2 j hj⟩
/-- row v made less at the places ahead of j -/
def lsT (p : Nat) (Q K : Nat → Int) (f j : Nat) : Nat → Int := fun x => if x < j then (Q x + f * K x) % (p : Int) else Q x
/-- a row of the call's own, its numbers small -/
structure VRow (m : Nat) (w : World) (rv cv C p : Nat) (Q : Nat → Int) : Prop where
  own : Own m w (some ⟨rv, 0, none⟩) cv (tabL C Q)
  small : ∀ j, j < C → 0 ≤ Q j ∧ Q j < p
theorem small_cg {p : Nat} {x : Int} (h : 0 ≤ x ∧ x < p) : Cg p x 0 ↔ x = 0 := by
  rw [Cg.zero_iff, Int.emod_eq_of_lt h.1 h.2]

set_option maxRecDepth 100000 in
set_option maxHeartbeats 16000000 in
theorem c_hang {B : Nat} {W : World} (u : Later B W) (p C : Nat) (rows : Lls) (a : Option Addr) (cap : Nat) (h : RowsI B W a rows) (hp : PrimeP p) (hN : rows.length ≤ 64) (hC : C ≤ 8) (hC0 : 0 < C) (hrl : ∀ i, i < rows.length → (rows.getD i []).length = C) (hs : Small p rows.length C (ent rows)) :
    Calls Try.prog 19 #[.int .i64 p, .slice a rows.length cap] u.val (RetP B W (fun v w => ∃ m, RankIs p C rows.length (ent rows) m ∧ v = .int .i64 m)) := by
  have hB := u.size
  have hp7 := hp.le
  have hp0 : (p : Int) ≠ 0 := by omega
  have hpn : p ≠ 0 := by omega
  have H := Lib.hid h
  have HRl := Lib.hid hrl
  have HSm := Lib.hid hs
  clear h hrl hs
  go_enter Try.func19, Try.ntmps19
  go_wp2
  go_loopw [5, 6] (fun s i wr => ∃ (q m : Nat) (K : Nat → Nat → Int) (L : Nat → Nat) (ad : Option Addr) (gc : Nat) (hd : Nat → Option Addr) (r cp : Nat → Nat) (v : Later B W), q ≤ rows.length ∧ i = .int .i64 q ∧ s = .slice ad m gc ∧ wr = v.val ∧ m ≤ q ∧ Hid (Mtx B v.val ad gc m C hd r cp K) ∧ Hid (HgS p C (ent rows) q K L m) ∧ Hid (∀ i, i < m → LdE C (K i) (L i)) ∧ Hid (Small p m C K)) (fun _ i _ => rows.length - (intOf i).toNat)
  case atStart => exact ⟨0, 0, fun _ _ => 0, fun _ => 0, none, 0, fun _ => none, fun _ => 0, fun _ => 0, u, by omega, rfl, rfl, rfl, by omega, Lib.hid (Mtx.start _ _ _ _ _ _ _), Lib.hid (HgS.start _ _ _ _ _), Lib.hid (fun i hi => by omega), Lib.hid (fun i j hi => by omega)⟩
  case round =>
    clear u hB
    obtain ⟨q, m, K, L, ad, gc, hd, r, cp, v, hq, rfl, rfl, rfl, hmq, HM, HG, HL, HK⟩ := hrel
    by_cases hlt : q < rows.length
    · obtain ⟨be, ofe, rfl, hbe, ad', cp', hI, hn, hcell⟩ := H.out.atN hlt
      have hrk := HRl.out q hlt
      have c0 := hcell v
      rw [hrk] at c0
      have HI : Hid (IntsAt v.val.heap.size v.val ad' (rows.getD q [])) := Lib.hid (hI.to v)
      have HQ0 : Hid (∀ j, (rows.getD q []).getD j 0 = ent rows q j) := Lib.hid (fun _ => rfl)
      have hrow := Lib.hid hrk
      have hn' := Lib.hid hn
      have hC2 : C ≤ 17592186044416 := by omega
      clear hI hcell hrk hn
      go_upto_region 6 with (first | (at_builtin; refine wpList_copyI rfl _ _ rfl (rows.getD q []) C hrow.out ad' cp' rfl rfl HI.out hn'.out hC2 ?_; intro y adv cv hO) | fail)
      clear c0
      have HOv : Hid (Own v.val.heap.size y.val adv cv (tabL C (ent rows q))) := Lib.hid (by
        rwa [tabL_list hrow.out (fun j hj => HQ0.out j)] at hO)
      obtain ⟨rv, rfl⟩ := own_some HOv.out (by intro e; have := congrArg List.length e; rw [tabL_len] at this; simp at this; omega)
      have HV0 : Hid (VRow v.val.heap.size y.val rv cv C p (ent rows q)) := Lib.hid ⟨HOv.out, fun j hj => HSm.out q j hlt hj⟩
      have HM1 : Hid (Mtx B y.val ad gc m C hd r cp K) := Lib.hid (HM.out.keep y.below)
      have HG0 : Hid (HgV p C (ent rows) q K L m 0 (ent rows q)) := Lib.hid (HgV.start _ _ _ _ _)
      have hvB := v.size
      have hys : v.val.heap.size < y.val.heap.size := by have := HOv.out.ltL; omega
      have HAlt : Hid (∀ g, ad = some ⟨g, 0, none⟩ → g < v.val.heap.size) := Lib.hid (fun g hg => by
        rcases HM.out.form with ⟨e1, _⟩ | ⟨g', e1, _, e3⟩
        · rw [hg] at e1; cases e1
        · rw [hg] at e1; cases e1; exact e3)
      have HRlt : Hid (∀ i, i < m → 0 < C → r i < v.val.heap.size) := Lib.hid (fun i hi hC => (HM.out.rlt hC hi).2)
      have HUp : Hid (∀ w : World, Below v.val.heap.size v.val w → ∃ x : Later B W, x.val = w) := Lib.hid (fun w hb => ⟨v.to w (hb.mono hvB), rfl⟩)
      have hrvm := HOv.out.ltL.1
      clear hO HOv HI HQ0 hrow hn' HM
      obtain ⟨z, hz⟩ : ∃ z : Later v.val.heap.size v.val, z.val = y.val := ⟨y, rfl⟩
      rw [← hz] at HV0 HM1 hys ⊢
      clear hz y
      generalize v.val.heap.size = mk at *
      generalize v.val = X at *
      go_wp2
      go_loopw [8] (fun i wr => ∃ (k : Nat) (Q : Nat → Int) (y : Later mk X), k ≤ m ∧ i = .int .i64 k ∧ wr = y.val ∧ mk < y.val.heap.size ∧ Hid (VRow mk y.val rv cv C p Q) ∧ Hid (Mtx B y.val ad gc m C hd r cp K) ∧ Hid (HgV p C (ent rows) q K L m k Q)) (fun i _ => m - (intOf i).toNat)
      case atStart => exact ⟨0, _, z, by omega, rfl, rfl, hys, HV0, HM1, HG0⟩
      case round =>
        clear HV0 HM1 HG0 hys z
        obtain ⟨k, Q, y, hk, rfl, rfl, hys, HV, HM, HGv⟩ := hrel
        by_cases hkm : k < m
        · obtain ⟨g, rfl, hg1, hg2⟩ := HM.out.some' (by omega)
          have hlE := HL.out k hkm
          have hlC := hlE.1
          have hKs := HK.out k (L k) hkm hlC
          have hQs := HV.out.small (L k) hlC
          have hK0 := hlE.2.1
          have ck : ∀ w : Later y.val.heap.size y.val, w.val.cell? ⟨g, k, none⟩ = some (.slice (some ⟨r k, 0, none⟩) C (cp k)) := fun w => by rw [(HM.out.keep w.below).tcell hkm, (HM.out.keep w.below).hdr hC0 k hkm]
          have cv' : ∀ w : Later y.val.heap.size y.val, w.val.cell? ⟨rv, L k, none⟩ = some (.int .i64 (Q (L k))) := fun w => (HV.out.own.keep w.below).cellL hlC
          have cK : ∀ w : Later y.val.heap.size y.val, w.val.cell? ⟨r k, L k, none⟩ = some (.int .i64 (K k (L k))) := fun w => (HM.out.keep w.below).cell hkm hlC
          have KL : Hid (∀ w : Later y.val.heap.size y.val, Calls Try.prog 41 #[.slice (some ⟨r k, 0, none⟩) C (cp k)] w.val (Ret y.val.heap.size y.val (.int .i64 (L k)))) := Lib.hid (fun w => by
            have := c_lead w (tabL C (K k)) (some ⟨r k, 0, none⟩) (cp k) (HM.out.row hC0 k hkm).reads (by rw [tabL_len]; omega) _ hlE.is
            rwa [tabL_len] at this)
          obtain ⟨f0, hf0, hfz, hfn⟩ := fac_first hp hQs hKs hK0
          have HFz := Lib.hid hfz
          have HFn := Lib.hid hfn
          have HKf : Hid (K k (L k) = K k (L k)) := Lib.hid rfl
          obtain ⟨xq, hxq⟩ : ∃ xq, xq = Q (L k) := ⟨_, rfl⟩
          obtain ⟨xk, hxk⟩ : ∃ xk, xk = K k (L k) := ⟨_, rfl⟩
          obtain ⟨lk, hlk⟩ : ∃ lk, lk = L k := ⟨_, rfl⟩
          have HXq := Lib.hid hxq
          have HXk := Lib.hid hxk
          have HLk := Lib.hid hlk
          rw [← hxq] at cv' hQs HFz HFn
          rw [← hxk] at cK hKs HFz HFn hK0
          rw [← hlk] at cv' cK hlC KL
          clear hfz hfn hxq hxk hlk hlE HKf
          obtain ⟨z, hz⟩ : ∃ z : Later y.val.heap.size y.val, z.val = y.val := ⟨Later.self _, rfl⟩
          rw [← hz]
          clear hz
          have ckz := ck z
          go_upto_region 10 with (first | (go_at_call 41; (with_reducible refine (KL.out _).mono ?_); rintro e _ ⟨rfl, z1, rfl⟩) | fail)
          clear ckz KL z
          go_wp2
          go_loopw [10] (fun i wr => ∃ (f : Nat) (z : Later y.val.heap.size y.val), f ≤ f0 ∧ i = .int .i64 f ∧ wr = z.val) (fun i _ => f0 - (intOf i).toNat)
          case atStart => exact ⟨0, z1, by omega, by go_num, rfl⟩
          case round =>
            clear z1
            obtain ⟨f, z, hf, rfl, rfl⟩ := hrel
            have ms := mul_small (a := (f : Int)) (b := xk) (by omega) (by omega)
            have w1 := IntWalk.i64_in ((f : Int) * xk) (by omega)
            have w2 := IntWalk.i64_in (xq + (f : Int) * xk) (by omega)
            obtain ⟨rr, hrr⟩ : ∃ rr, rr = (xq + (f : Int) * xk) % (p : Int) := ⟨_, rfl⟩
            have tm : Int.tmod (xq + (f : Int) * xk) (p : Int) = rr := by rw [hrr]; exact Int.tmod_eq_emod_of_nonneg (by omega)
            by_cases hff : f = f0
            · subst hff
              have hr0 : rr = 0 := by rw [hrr]; exact HFz.out
              subst hr0
              clear hrr HFn
              go_wp2
              refine wp_region_later z (by kernel_rfl) (by kernel_rfl) (fun _ => ?_)
              repeat (first | go_big_quiet_step ((fail)) | (refine wpQuiet_step (fun K hK => ?_); go_simp; refine ⟨_, fun _ => rfl, ?_⟩; refine hK _ ?_; clear hK K))
              refine wpQuiet_nil ?_
              intro z
              go_wp2
              obtain ⟨y2, hy2⟩ : ∃ y2 : Later mk X, y2.val = z.val := ⟨y.to z.val (z.below.mono (by omega)), rfl⟩
              have HV2 : Hid (VRow mk y2.val rv cv C p (lsT p Q (K k) f 0)) := Lib.hid (by
                rw [hy2]
                have e : lsT p Q (K k) f 0 = Q := by funext x; unfold lsT; rw [if_neg (by omega)]
                rw [e]
                exact ⟨HV.out.own.keep z.below, HV.out.small⟩)
              have HM2 : Hid (Mtx B y2.val (some ⟨g, 0, none⟩) gc m C hd r cp K) := Lib.hid (by rw [hy2]; exact HM.out.keep z.below)
              have hy2s : mk < y2.val.heap.size := by rw [hy2]; have := z.size; omega
              have HSq := Lib.hid HV.out.small
              rw [← hy2]
              clear hy2 ck cv' cK w1 w2 tm z HV HM
              go_loopw [11] (fun i wr => ∃ (j : Nat) (y : Later mk X), j ≤ C ∧ i = .int .i64 j ∧ wr = y.val ∧ mk < y.val.heap.size ∧ Hid (VRow mk y.val rv cv C p (lsT p Q (K k) f j)) ∧ Hid (Mtx B y.val (some ⟨g, 0, none⟩) gc m C hd r cp K)) (fun i _ => C - (intOf i).toNat)
              case atStart => exact ⟨0, y2, by omega, by go_num, rfl, hy2s, HV2, HM2⟩
              case round =>
                clear HV2 HM2 hy2s y2
                obtain ⟨j, y, hj, rfl, rfl, hys, HV, HM⟩ := hrel
                by_cases hjC : j < C
                · have hQj := HSq.out j hjC
                  have hKj := HK.out k j hkm hjC
                  have ms2 := mul_small (a := (f : Int)) (b := K k j) (by omega) (by omega)
                  have w1 := IntWalk.i64_in ((f : Int) * K k j) (by omega)
                  have w2 := IntWalk.i64_in (Q j + (f : Int) * K k j) (by omega)
                  obtain ⟨nn, hnn⟩ : ∃ nn, nn = (Q j + (f : Int) * K k j) % (p : Int) := ⟨_, rfl⟩
                  have hns : 0 ≤ nn ∧ nn < p := by rw [hnn]; exact mod_small p (by omega) _
                  have tm : Int.tmod (Q j + (f : Int) * K k j) (p : Int) = nn := by rw [hnn]; exact Int.tmod_eq_emod_of_nonneg (by omega)
                  have a1 : ∀ w : Later y.val.heap.size y.val, w.val.cell? ⟨rv, j, none⟩ = some (.int .i64 (Q j)) := fun w => by
                    have := (HV.out.own.keep w.below).cellL hjC
                    unfold lsT at this
                    rwa [if_neg (by omega)] at this
                  have a2 : ∀ w : Later y.val.heap.size y.val, w.val.frozen? ⟨rv, j, none⟩ = false := fun w => (HV.out.own.keep w.below).fzL j
                  have ck : ∀ w : Later y.val.heap.size y.val, w.val.cell? ⟨g, k, none⟩ = some (.slice (some ⟨r k, 0, none⟩) C (cp k)) := fun w => by rw [(HM.out.keep w.below).tcell hkm, (HM.out.keep w.below).hdr hC0 k hkm]
                  have cK : ∀ w : Later y.val.heap.size y.val, w.val.cell? ⟨r k, j, none⟩ = some (.int .i64 (K k j)) := fun w => (HM.out.keep w.below).cell hkm hjC
                  have HVn : Hid (∀ w : Later y.val.heap.size y.val, VRow mk (w.val.setCell ⟨rv, j, none⟩ (.int .i64 nn)) rv cv C p (lsT p Q (K k) f (j + 1))) := Lib.hid (fun w => by
                    refine ⟨(HV.out.own.keep w.below).setL j nn (fun x hx => ?_), fun x hx => ?_⟩
                    · unfold lsT
                      by_cases e : x = j
                      · subst e; rw [if_pos (by omega), if_pos rfl, hnn]
                      · rw [if_neg e]
                        by_cases d : x < j
                        · rw [if_pos (by omega), if_pos d]
                        · rw [if_neg (by omega), if_neg d]
                    · unfold lsT
                      split
                      · exact mod_small p (by omega) _
                      · exact HSq.out x hx)
                  have HMn : Hid (∀ w : Later y.val.heap.size y.val, Mtx B (w.val.setCell ⟨rv, j, none⟩ (.int .i64 nn)) (some ⟨g, 0, none⟩) gc m C hd r cp K) := Lib.hid (fun w => (HM.out.keep w.below).apart (fun g' e => by cases e; have := HAlt.out g rfl; omega) (fun _ i hi => by have := HRlt.out i hi hC0; omega) _)
                  have HVx : Hid (∀ w : Later y.val.heap.size y.val, ∃ x : Later mk X, x.val = w.val.setCell ⟨rv, j, none⟩ (.int .i64 nn) ∧ mk < x.val.heap.size) := Lib.hid (fun w => ⟨(y.to w.val (w.below.mono (by omega))).set ⟨rv, j, none⟩ hrvm _, rfl, by have := w.size; show mk < (w.val.setCell ⟨rv, j, none⟩ (.int .i64 nn)).heap.size; simp; omega⟩)
                  obtain ⟨z, hz⟩ : ∃ z : Later y.val.heap.size y.val, z.val = y.val := ⟨Later.self _, rfl⟩
                  rw [← hz]
                  clear hz hnn HV HM
                  generalize Q j = qj at *
                  generalize K k j = kj at *
                  go_wp2
                  refine wp_region_later_tail z 19 (by kernel_rfl) (by kernel_rfl) (fun z2 => ?_)
                  simp only [List.take_succ_cons, List.take_zero, List.drop_succ_cons, List.drop_zero]
                  repeat still_step
                  refine wpStill_nil ?_
                  go_wp2
                  obtain ⟨xx, hxx, hxs⟩ := HVx.out z2
                  go_roundw
                  case rel => exact ⟨j + 1, xx, by omega, by go_num, hxx.symm, hxs, by rw [hxx]; exact Lib.hid (HVn.out z2), by rw [hxx]; exact Lib.hid (HMn.out z2)⟩
                  case measure => simp [intOf]; omega
                · have hje : j = C := by omega
                  subst hje
                  have HGn : Hid (HgV p j (ent rows) q K L m (k + 1) (lsT p Q (K k) f j)) := Lib.hid (by
                    refine HGv.out.step HG.out hkm (f := (f : Int)) (fun x hx => ?_) ?_
                    · unfold lsT; rw [if_pos hx]; exact Cg.mod _
                    · unfold lsT
                      rw [if_pos (by rw [← HLk.out]; exact hlC), ← HXq.out, ← HXk.out, HFz.out]
                      exact Cg.refl _)
                  go_wp2
                  go_roundw
                  case rel => exact ⟨k + 1, _, y, by omega, by go_num, by first | rfl | trivial, hys, HV, HM, HGn⟩
                  case measure => simp [intOf]; omega
            · have hne : rr ≠ 0 := by rw [hrr]; exact HFn.out f (by omega)
              have f1 : (rr != 0) = true := by rw [bne_iff_ne]; exact hne
              clear hrr
              go_wp2
              refine wp_region_later z (by kernel_rfl) (by kernel_rfl) (fun _ => ?_)
              repeat (first | go_big_quiet_step ((fail)) | (refine wpQuiet_step (fun K hK => ?_); go_simp; refine ⟨_, fun _ => rfl, ?_⟩; refine hK _ ?_; clear hK K))
              refine wpQuiet_nil ?_
              intro z
              go_wp2
              go_roundw
              case rel => exact ⟨f + 1, z, by omega, by go_num, by first | rfl | trivial⟩
              case measure => simp [intOf]; omega
        · have hke : k = m := by omega
          subst hke
          obtain ⟨e, he⟩ := LdIs.ex (tabL C Q)
          have KL : Hid (Calls Try.prog 41 #[.slice (some ⟨rv, 0, none⟩) C cv] y.val (Ret y.val.heap.size y.val (.int .i64 e))) := Lib.hid (by
            have := c_lead (Later.self y.val) (tabL C Q) (some ⟨rv, 0, none⟩) cv HV.out.own.reads (by rw [tabL_len]; omega) e he
            rwa [tabL_len] at this)
          rcases he with ⟨l, rfl, h1, h2, h3⟩ | ⟨rfl, h2⟩
          · rw [tabL_len] at h1
            rw [tabL_getD h1] at h2
            have hLE : LdE C Q l := ⟨h1, h2, fun j hj => by
              have := h3 j hj
              rwa [tabL_getD (by omega)] at this⟩
            have HLE := Lib.hid hLE
            have HLd : Hid (Lead p C Q l) := Lib.hid ⟨h1, fun hc => h2 ((small_cg (HV.out.small l h1)).1 hc), fun j hj => Cg.of_eq (hLE.2.2 j hj)⟩
            have hk1 : k + 1 ≤ 4294967296 := by omega
            clear h1 h2 h3 hLE
            go_upto_region 18 with (first | (go_at_call 41; (with_reducible refine (KL.out).mono ?_); rintro e _ ⟨rfl, z, rfl⟩) | fail)
            clear KL
            have HMO : Hid (Mtx B z.val ad gc k C hd r cp K) := Lib.hid (HM.out.keep z.below)
            have HRO : Hid (RowO B z.val C (some ⟨rv, 0, none⟩) rv cv Q) := Lib.hid ⟨fun _ => rfl, fun _ => (HV.out.own.keep z.below).mono hvB, fun h => by cases h⟩
            have hRN : 0 < C → (∀ i, i < k → r i ≠ rv) ∧ ∀ g, ad = some ⟨g, 0, none⟩ → rv ≠ g := fun hC => ⟨fun i hi e => by have := HRlt.out i hi hC; omega, fun g hg e => by have := HAlt.out g hg; omega⟩
            have hBz : B ≤ z.val.heap.size := by have := z.size; omega
            go_wp2_with (first | (at_builtin; refine wpList_pushM (B := B) (w := z.val) HMO.out HRO.out hRN hBz (by rfl) _ _ (by rfl) (by rfl) (by rfl) hk1 ?_; intro pp) | fail)
            obtain ⟨x0, hx0⟩ := HUp.out z.val (y.below.trans (z.below.mono (by omega)))
            obtain ⟨x, hx⟩ : ∃ x : Later B W, x.val = pp.val := ⟨x0.to pp.val (by rw [hx0]; exact pp.below), rfl⟩
            have HM3 : Hid (Mtx B x.val (some ⟨pp.g, 0, none⟩) pp.gc' (k + 1) C (fun i => if i = k then some ⟨rv, 0, none⟩ else hd i) (fun i => if i = k then rv else r i) (fun i => if i = k then cv else cp i) (fun i => if i = k then Q else K i)) := Lib.hid (by rw [hx]; exact pp.out)
            have HG3 : Hid (HgS p C (ent rows) (q + 1) (fun i => if i = k then Q else K i) (fun i => if i = k then l else L i) (k + 1)) := Lib.hid (HGv.out.keep HG.out HLd.out)
            have HL3 : Hid (∀ i, i < k + 1 → LdE C ((fun i => if i = k then Q else K i) i) ((fun i => if i = k then l else L i) i)) := Lib.hid (fun i hi => by
              by_cases e : i = k
              · simp only [if_pos e]; exact HLE.out
              · simp only [if_neg e]; exact HL.out i (by omega))
            have HK3 : Hid (Small p (k + 1) C (fun i => if i = k then Q else K i)) := Lib.hid (fun i j hi hj => by
              by_cases e : i = k
              · simp only [if_pos e]; exact HV.out.small j hj
              · simp only [if_neg e]; exact HK.out i j (by omega) hj)
            go_roundw
            case rel => exact ⟨q + 1, k + 1, _, _, _, _, _, _, _, x, by omega, by go_num, by trivial, hx.symm, by omega, HM3, HG3, HL3, HK3⟩
            case measure => simp [intOf]; omega
          · have HG3 : Hid (HgS p C (ent rows) (q + 1) K L k) := Lib.hid (HGv.out.none HG.out (fun j hj => by
              have := h2 j (by rw [tabL_len]; exact hj)
              rw [tabL_getD hj] at this
              exact Cg.of_eq this))
            obtain ⟨en, hen⟩ : ∃ en : Int, en = -1 := ⟨_, rfl⟩
            rw [← hen] at KL
            have hneg : en < 0 := by omega
            clear hen h2
            go_upto_region 4 with (first | (go_at_call 41; (with_reducible refine (KL.out).mono ?_); rintro e _ ⟨rfl, z, rfl⟩) | fail)
            obtain ⟨x, hx⟩ := HUp.out z.val (y.below.trans (z.below.mono (by omega)))
            have HM3 : Hid (Mtx B x.val ad gc k C hd r cp K) := Lib.hid (by rw [hx]; exact HM.out.keep z.below)
            rw [← hx]
            go_wp2
            go_roundw
            case rel => exact ⟨q + 1, k, K, L, ad, gc, hd, r, cp, x, by omega, by go_num, by trivial, (by first | exact hx.symm | rfl), by omega, HM3, HG3, HL, HK⟩
            case measure => simp [intOf]; omega
    · have hqe : q = rows.length := by omega
      subst hqe
      have HR : Hid (RankIs p C rows.length (ent rows) m) := Lib.hid HG.out.rank
      clear HM HG HL HK
      go_wp2
      go_ret
      exact RetP.mk v ⟨m, HR.out, rfl⟩

end Go.Proofs.Ytffnpokceomncaa

namespace Go.Proofs.Ytffnpokceomncaa
set_option linter.unusedVariables false

/-! ### the ranks of the first q of some vectors -/
open Classical in
noncomputable def mr (p N : Nat) (R : Nat → Nat → Int) : Nat → Nat
  | 0 => 0
  | q + 1 => mr p N R q + (if InSp p N q R (R q) then 0 else 1)
section
variable {p N : Nat} {R : Nat → Nat → Int}
theorem mr_le (p N : Nat) (R : Nat → Nat → Int) : ∀ q, mr p N R q ≤ q
  | 0 => Nat.le_refl _
  | q + 1 => by
    have := mr_le p N R q
    simp only [mr]
    split <;> omega
theorem hgV_ex (hp : PrimeP p) {q m : Nat} {K : Nat → Nat → Int} {L : Nat → Nat} (H : HgS p N R q K L m) : ∀ k, k ≤ m → ∃ v, HgV p N R q K L m k v
  | 0, _ => ⟨_, HgV.start _ _ _ _ _⟩
  | k + 1, hk => by
    obtain ⟨v, hv⟩ := hgV_ex hp H k (by omega)
    obtain ⟨b, hb⟩ := Cg.inv hp (H.lead k (by omega)).ne
    refine ⟨fun j => v j + (-(v (L k) * b)) * K k j, hv.step H (by omega) (fun j _ => Cg.refl _) ?_⟩
    have h1 : Cg p (-(v (L k)) * (K k (L k) * b)) (-(v (L k)) * 1) := (Cg.refl _).mul hb
    have h2 : Cg p (v (L k) + -(v (L k)) * (K k (L k) * b)) (v (L k) + -(v (L k)) * 1) := (Cg.refl _).add h1
    rw [show v (L k) + -(v (L k)) * 1 = 0 by omega] at h2
    rwa [show v (L k) + -(v (L k)) * (K k (L k) * b) = v (L k) + -(v (L k) * b) * K k (L k) by grind] at h2
theorem mr_hg (hp : PrimeP p) : ∀ q, ∃ K L, HgS p N R q K L (mr p N R q)
  | 0 => ⟨fun _ _ => 0, fun _ => 0, HgS.start _ _ _ _ _⟩
  | q + 1 => by
    obtain ⟨K, L, H⟩ := mr_hg hp q
    obtain ⟨v, hv⟩ := hgV_ex hp H _ (Nat.le_refl _)
    by_cases hz : ∀ j, j < N → Cg p (v j) 0
    · have hin : InSp p N q R (R q) := by
        obtain ⟨w, hw, he⟩ := hv.back
        refine (hw.trans H.sp1).cg (fun j hj => (he j hj).trans ?_)
        have := (hz j hj).add (Cg.refl (w j))
        rwa [Int.zero_add] at this
      simp only [mr]
      rw [if_pos hin, Nat.add_zero]
      exact ⟨K, L, hv.none H hz⟩
    · have hl : ∃ l, l < N ∧ ¬ Cg p (v l) 0 := by
        apply Classical.byContradiction
        intro hno
        exact hz (fun j hj => Classical.byContradiction (fun hc => hno ⟨j, hj, hc⟩))
      obtain ⟨l0, hl0⟩ := hl
      obtain ⟨l, ⟨hl1, hl2⟩, hl3⟩ := exists_least (P := fun l => l < N ∧ ¬ Cg p (v l) 0) l0 hl0
      have hL : Lead p N v l := ⟨hl1, hl2, fun j hj => Classical.byContradiction (fun hc => hl3 j hj ⟨by omega, hc⟩)⟩
      have hnot : ¬ InSp p N q R (R q) := fun hin => by
        obtain ⟨w, hw, he⟩ := hv.sp
        have h1 : InSp p N (mr p N R q) K v := (((hin.trans H.sp2)).add hw).cg he
        obtain ⟨K', L', hE, _, _⟩ := H.rank
        have hE2 : Ech p N (mr p N R q) K L := ⟨H.lead, fun i k hi hk e => by
          rcases Nat.lt_trichotomy i k with c | c | c
          · have h1 := H.zero i k c hk
            rw [e] at h1
            exact absurd h1 (H.lead k hk).ne
          · exact c
          · have h1 := H.zero k i c hi
            rw [← e] at h1
            exact absurd h1 (H.lead i hi).ne⟩
        obtain ⟨i, hi, e⟩ := hE2.begins hp h1 hL
        have := hv.zero i hi
        rw [e] at this
        exact hl2 this
      simp only [mr]
      rw [if_neg hnot]
      exact ⟨_, _, hv.keep H hL⟩
theorem mr_rank (hp : PrimeP p) (q : Nat) : RankIs p N q R (mr p N R q) := by
  obtain ⟨K, L, H⟩ := mr_hg (N := N) (R := R) hp q
  exact H.rank
theorem isum_pre {f : Nat → Int} {i : Nat} : ∀ q, i ≤ q → isum (fun j => if j < i then f j else 0) q = isum f i
  | 0, h => by
    have : i = 0 := by omega
    subst this; rfl
  | q + 1, h => by
    by_cases e : i = q + 1
    · subst e
      exact isum_congr (fun j hj => if_pos hj)
    · have h1 := isum_pre (f := f) q (by omega : i ≤ q)
      show isum (fun j => if j < i then f j else 0) q + (if q < i then f q else 0) = _
      rw [h1, if_neg (by omega)]; omega
theorem mr_all {q : Nat} (h : mr p N R q = q) : ∀ l, l < q → ¬ InSp p N l R (R l) := by
  induction q with
  | zero => intro l hl; omega
  | succ q ih =>
    have h1 := mr_le p N R q
    simp only [mr] at h
    intro l hl
    by_cases e : l = q
    · subst e
      intro hc
      rw [if_pos hc] at h
      omega
    · exact ih (by split at h <;> omega) l (by omega)
theorem mr_of {q : Nat} (h : ∀ l, l < q → ¬ InSp p N l R (R l)) : mr p N R q = q := by
  induction q with
  | zero => rfl
  | succ q ih =>
    simp only [mr]
    rw [ih (fun l hl => h l (by omega)), if_neg (h q (by omega))]
theorem mr_indep (hp : PrimeP p) (q : Nat) : mr p N R q = q ↔ Indep p N q R := by
  have hp2 := hp.le
  constructor
  · intro h a ha
    have hno := mr_all h
    have key : ∀ k, k ≤ q → ∀ i, q - k ≤ i → i < q → Cg p (a i) 0 := by
      intro k
      induction k with
      | zero => intro _ i h1 h2; omega
      | succ k ih =>
        intro hk i h1 h2
        by_cases e : q - k ≤ i
        · exact ih (by omega) i e h2
        · apply Classical.byContradiction
          intro hne
          obtain ⟨b, hb⟩ := Cg.inv hp hne
          refine hno i h2 ⟨fun j => -(b * a j), fun x hx => ?_⟩
          have h3 : Cg p (isum (fun j => a j * R j x) q) (isum (fun j => (if j < i then a j * R j x else 0) + (if j = i then a j * R j x else 0)) q) := isum_cg (fun j hj => by
            by_cases c1 : j < i
            · rw [if_pos c1, if_neg (by omega)]; exact Cg.of_eq (by omega)
            · rw [if_neg c1]
              by_cases c2 : j = i
              · rw [if_pos c2]; exact Cg.of_eq (by omega)
              · rw [if_neg c2]
                have := (ih (by omega) j (by omega) hj).mul (Cg.refl (R j x))
                rwa [Int.zero_mul, ← Int.add_zero 0] at this)
          rw [isum_add, isum_pre (f := fun j => a j * R j x) q (by omega), isum_pick (g := fun j => a j * R j x) h2] at h3
          have h4 := h3.symm.trans (ha x hx)
          -- b times it
          have h5 := (Cg.refl b).mul h4
          rw [Int.mul_zero] at h5
          have h6 : isum (fun j => -(b * a j) * R j x) i = -(b * isum (fun j => a j * R j x) i) := by
            have : isum (fun j => -(b * a j) * R j x) i = isum (fun j => (-b) * (a j * R j x)) i := isum_congr (fun j _ => by grind)
            rw [this, isum_mul]; grind
          rw [h6]
          have h7 : Cg p (a i * b * R i x) (1 * R i x) := hb.mul (Cg.refl _)
          rw [Int.one_mul] at h7
          have h8 : Cg p (b * (isum (fun j => a j * R j x) i + a i * R i x) + -(b * isum (fun j => a j * R j x) i)) (0 + -(b * isum (fun j => a j * R j x) i)) := h5.add (Cg.refl _)
          rw [Int.zero_add, show b * (isum (fun j => a j * R j x) i + a i * R i x) + -(b * isum (fun j => a j * R j x) i) = a i * b * R i x by grind] at h8
          exact h7.symm.trans h8
    exact fun i hi => key q (Nat.le_refl _) i (by omega) hi
  · intro hI
    refine mr_of (fun l hl hin => ?_)
    obtain ⟨b, hb⟩ := hin
    have h1 := hI (fun k => if k < l then b k else if k = l then -1 else 0) (fun x hx => by
      have e : isum (fun k => (if k < l then b k else if k = l then -1 else 0) * R k x) q = isum (fun k => (if k < l then b k * R k x else 0) + (if k = l then -1 * R k x else 0)) q := isum_congr (fun k _ => by
        by_cases c1 : k < l
        · rw [if_pos c1, if_pos c1, if_neg (by omega)]; omega
        · rw [if_neg c1, if_neg c1]
          by_cases c2 : k = l
          · rw [if_pos c2, if_pos c2]; omega
          · rw [if_neg c2, if_neg c2]; omega)
      rw [e, isum_add, isum_pre (f := fun k => b k * R k x) q (by omega), isum_pick (g := fun k => -1 * R k x) hl]
      have h2 := (hb x hx).symm.add (Cg.refl (-1 * R l x))
      rwa [show R l x + -1 * R l x = 0 by omega] at h2) l hl
    rw [if_neg (by omega), if_pos rfl] at h1
    have h2 := h1.add (Cg.refl (1 : Int))
    rw [show (-1 : Int) + 1 = 0 by omega, Int.zero_add] at h2
    have h3 := Cg.zero_iff.1 h2.symm
    rw [Int.emod_eq_of_lt (by omega) (by omega)] at h3
    omega
end

/-! ### the columns of a set -/
/-- the columns that a list names -/
def colV (M : Nat → Nat → Int) (E : List Nat) (j i : Nat) : Int := M i (E.getD j 0)
noncomputable def rhoC (p N : Nat) (M : Nat → Nat → Int) (s : Nat) : Nat := mr p N (colV M (elems s)) (elems s).length
section
variable {p N : Nat} {M : Nat → Nat → Int}
theorem col_in {s i : Nat} (hi : i < 8) (h : s.testBit i = true) : InSp p N (elems s).length (colV M (elems s)) (fun r => M r i) := by
  obtain ⟨j, hj, e, _⟩ := elems_at hi h
  refine (InSp.mem hj).cg (fun x _ => Cg.of_eq ?_)
  unfold colV
  rw [e]
theorem cols_mono {s t : Nat} (hst : sub s t) {v : Nat → Int} (h : InSp p N (elems s).length (colV M (elems s)) v) : InSp p N (elems t).length (colV M (elems t)) v :=
  h.trans (fun k hk => by
    have := elems_mem s hk
    exact col_in (M := M) this.1 (hst _ this.2))
open Classical in
theorem rhoC_step (hp : PrimeP p) (hN : N ≤ 8) {s i : Nat} (hi : i < 8) : rhoC p N M (s ||| bit i) = rhoC p N M s + (if InSp p N (elems s).length (colV M (elems s)) (fun r => M r i) then 0 else 1) := by
  cases hb : s.testBit i
  · -- one column more
    obtain ⟨S, hS⟩ : ∃ S : Nat → Nat → Int, S = fun k => if k < (elems s).length then colV M (elems s) k else fun r => M r i := ⟨_, rfl⟩
    have hSk : ∀ k, k < (elems s).length → S k = colV M (elems s) k := fun k hk => by rw [hS]; exact if_pos hk
    have hSq : S (elems s).length = fun r => M r i := by rw [hS]; exact if_neg (Nat.lt_irrefl _)
    have e1 : rhoC p N M s = mr p N S (elems s).length := (mr_rank hp _).uniq hp hN (mr_rank hp _) (fun k hk => by
      rw [← hSk k hk]; exact InSp.mem hk) (fun k hk => by
      rw [hSk k hk]; exact InSp.mem hk)
    have e2 : rhoC p N M (s ||| bit i) = mr p N S ((elems s).length + 1) := (mr_rank hp _).uniq hp hN (mr_rank hp _) (fun k hk => by
      have hm := elems_mem (s ||| bit i) hk
      by_cases c : (elems (s ||| bit i)).getD k 0 = i
      · have := InSp.mem (p := p) (C := N) (R := S) (Nat.lt_succ_self (elems s).length)
        rw [hSq] at this
        refine this.cg (fun x _ => Cg.of_eq ?_)
        unfold colV
        rw [c]
      · have hs' : s.testBit ((elems (s ||| bit i)).getD k 0) = true := by
          have h2 := hm.2
          rw [Nat.testBit_or, testBit_bit, Bool.or_eq_true, decide_eq_true_eq] at h2
          exact h2.resolve_right (fun e => c e.symm)
        obtain ⟨j, hj, e, _⟩ := elems_at hm.1 hs'
        have := InSp.mem (p := p) (C := N) (R := S) (Nat.lt_succ_of_lt hj)
        rw [hSk j hj] at this
        refine this.cg (fun x _ => Cg.of_eq ?_)
        unfold colV
        rw [e]) (fun k hk => by
      by_cases c : k < (elems s).length
      · rw [hSk k c]
        have hm := elems_mem s c
        exact col_in (M := M) hm.1 (by rw [Nat.testBit_or, hm.2]; rfl)
      · have : k = (elems s).length := by omega
        rw [this, hSq]
        exact col_in hi (by rw [Nat.testBit_or, testBit_bit]; simp))
    have e3 : InSp p N (elems s).length S (S (elems s).length) ↔ InSp p N (elems s).length (colV M (elems s)) (fun r => M r i) := by
      rw [hSq]
      exact ⟨fun h => h.trans (fun k hk => by rw [hSk k hk]; exact InSp.mem hk), fun h => h.trans (fun k hk => by rw [← hSk k hk]; exact InSp.mem hk)⟩
    rw [e2, e1]
    simp only [mr, e3]
  · rw [or_in hb, if_pos (col_in hi hb), Nat.add_zero]
theorem elems_sz (s : Nat) (hs : s < 256) : (elems s).length = sz s := by
  have : ∀ s : Fin 256, (elems s.val).length = sz s.val := by decide +kernel
  exact this ⟨s, hs⟩
theorem colC_rk (hp : PrimeP p) (hN : N ≤ 8) {n : Nat} (hn : n ≤ 8) : RkF n (rhoC p N M) where
  zero := by unfold rhoC; rfl
  step := fun s i hs hi => by
    classical
    rw [rhoC_step hp hN (by omega)]
    split <;> omega
  clos := fun s u i hs hu hi hsu e => by
    classical
    rw [rhoC_step hp hN (by omega)] at e ⊢
    by_cases h : InSp p N (elems s).length (colV M (elems s)) (fun r => M r i)
    · rw [if_pos (cols_mono hsu h), Nat.add_zero]
    · rw [if_neg h] at e; omega
theorem col_bases (hp : PrimeP p) (hN : N ≤ 8) {n : Nat} (hn : n ≤ 8) : biggest (those n (fun s => decide (rhoC p N M s = sz s))) = those n (ofRank n (fun s => (rhoC p N M s : Int))) := (colC_rk hp hN hn).bases hn
end

end Go.Proofs.Ytffnpokceomncaa
