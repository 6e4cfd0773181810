
/-
  rotalaw.AxiomsMakes under contracts.
-/
import Derived.Test.YtmcffbmhkbijlaaPk41
import Derived.Test.YtmcffbmhkbijlaaPk04
import Derived.Test.YtmcffbmhkbijlaaPk34
namespace Go.Proofs.Ytmcffbmhkbijlaa
open Go.RowKit
set_option linter.unusedVariables false

set_option maxRecDepth 100000 in
set_option maxHeartbeats 40000000 in
theorem law_am {B : Nat} {W : World} (u : Later B W) (n : Int) (l r : List Int) (a c : Option Addr) (cap capc : Nat) (fam good okR : Bool) (nA : Nat → Int) (xA : Nat → List Int) (er : Nat → Int) (ok : Nat → Bool) (nR eR : Int) (xR : List Int)
    (hbd : fam = false → ∀ k, nA k = 0 ∧ xA k = [] ∧ er k = 1) (hgd : fam = true → ∀ k, er k = errno (ok k) 3 ∧ (ok k = false → nA k = 0 ∧ xA k = []))
    (hlx : ∀ k, (xA k).length ≤ 4611686018427387904) (hlR : xR.length ≤ 4611686018427387904)
    (hbdR : good = false → nR = 0 ∧ xR = [] ∧ eR = 1) (hgdR : good = true → eR = errno okR 3 ∧ (okR = false → nR = 0 ∧ xR = []))
    (hgood : good = true ↔ 0 ≤ n ∧ n ≤ 8 ∧ r.length = bit n.toNat)
    (kF : ∀ w, Bel u.val w → Calls Try.prog 5 #[.int .i64 n, .slice a l.length cap] w (Ret w.heap.size w (.bool fam)))
    (p0 : ∀ w, Bel u.val w → Calls Try.prog 6 #[.int .i64 n, .slice a l.length cap] w (RetP w.heap.size w (MatTO w.heap.size (nA 0) (xA 0) (er 0))))
    (p1 : ∀ w, Bel u.val w → Calls Try.prog 7 #[.int .i64 n, .slice a l.length cap] w (RetP w.heap.size w (MatTO w.heap.size (nA 1) (xA 1) (er 1))))
    (p2 : ∀ w, Bel u.val w → Calls Try.prog 8 #[.int .i64 n, .slice a l.length cap] w (RetP w.heap.size w (MatTO w.heap.size (nA 2) (xA 2) (er 2))))
    (p3 : ∀ w, Bel u.val w → Calls Try.prog 9 #[.int .i64 n, .slice a l.length cap] w (RetP w.heap.size w (MatTO w.heap.size (nA 3) (xA 3) (er 3))))
    (pR : ∀ w, Bel u.val w → Calls Try.prog 15 #[.int .i64 n, .slice c r.length capc] w (RetP w.heap.size w (MatTO w.heap.size nR xR eR)))
    (r0 : fam = true → ∀ w, Bel u.val w → Calls Try.prog 10 #[.int .i64 n, .slice a l.length cap] w (RetP w.heap.size w (MatB w.heap.size (nA 0) (xA 0) (ok 0))))
    (r1 : fam = true → ∀ w, Bel u.val w → Calls Try.prog 11 #[.int .i64 n, .slice a l.length cap] w (RetP w.heap.size w (MatB w.heap.size (nA 1) (xA 1) (ok 1))))
    (r2 : fam = true → ∀ w, Bel u.val w → Calls Try.prog 12 #[.int .i64 n, .slice a l.length cap] w (RetP w.heap.size w (MatB w.heap.size (nA 2) (xA 2) (ok 2))))
    (r3 : fam = true → ∀ w, Bel u.val w → Calls Try.prog 13 #[.int .i64 n, .slice a l.length cap] w (RetP w.heap.size w (MatB w.heap.size (nA 3) (xA 3) (ok 3))))
    (rR : good = true → ∀ w, Bel u.val w → Calls Try.prog 16 #[.int .i64 n, .slice c r.length capc] w (RetP w.heap.size w (MatB w.heap.size nR xR okR))) :
    Calls Try.prog 3 #[.int .i64 n, .slice a l.length cap, .slice c r.length capc] u.val (Ret B W (.bool true)) := by
  obtain ⟨V, hV⟩ : ∃ V, V = u.val := ⟨_, rfl⟩
  have HU : Hid (∀ w, Bel V w → ∃ w' : Later B W, w'.val = w) := Lib.hid (fun w h => by
    subst hV
    obtain ⟨v, rfl⟩ := h.later
    exact ⟨u.up v, rfl⟩)
  rw [← hV] at kF p0 p1 p2 p3 pR r0 r1 r2 r3 rR ⊢
  clear hV
  have KF := Lib.hid kF
  have P0 := Lib.hid p0
  have P1 := Lib.hid p1
  have P2 := Lib.hid p2
  have P3 := Lib.hid p3
  have R0 := Lib.hid r0
  have R1 := Lib.hid r1
  have R2 := Lib.hid r2
  have R3 := Lib.hid r3
  have PRk := Lib.hid pR
  have RRk := Lib.hid rR
  have HBd := Lib.hid hbd
  have HGd := Lib.hid hgd
  have HBR := Lib.hid hbdR
  have HGR := Lib.hid hgdR
  have HGood := Lib.hid hgood
  have HLx := Lib.hid hlx
  have HLR := Lib.hid hlR
  clear kF p0 p1 p2 p3 pR r0 r1 r2 r3 rR hbd hgd hbdR hgdR hgood hlx hlR u
  have hbV : Bel V V := Bel.of (Later.self V)
  have KB : Hid (∀ (w : World) (b : Bool) (e : Int), Calls Try.prog 4 #[.bool b, .int .i64 e] w (Ret w.heap.size w (.int .i64 (errno b e)))) := Lib.hid (fun w b e => c_bad (Later.self w) b e)
  obtain ⟨e0, he0⟩ : ∃ e0, e0 = errno fam 1 := ⟨_, rfl⟩
  have KB0 : Hid (∀ w : World, Calls Try.prog 4 #[.bool fam, .int .i64 1] w (Ret w.heap.size w (.int .i64 e0))) := Lib.hid (fun w => by rw [he0]; exact KB.out w fam 1)
  have HE := Lib.hid he0
  clear he0
  have KF0 := Lib.hid (KF.out V hbV)
  go_enter Try.func3, Try.ntmps3
  go_upto_region 2 with (first | (go_at_call 5; (with_reducible refine (KF0.out).mono ?_); rintro e _ ⟨rfl, v1, rfl⟩; have KD := Lib.hid (KB0.out v1.val)) | (go_at_call 4; (with_reducible refine (KD.out).mono ?_); rintro e _ ⟨rfl, v2, rfl⟩) | fail)
  have hb2 : Bel V v2.val := (Bel.of v1).up v2
  clear KF KF0 KB0 KD
  generalize v2.val = V2 at *
  clear v2 v1
  go_upto_region 3 with fail
  have HF : Hid (RowL (V2.alloc (.cells #[.func (.func 6) #[] #[], .func (.func 7) #[] #[], .func (.func 8) #[] #[], .func (.func 9) #[] #[]] 26)) V2.heap.size 26 [.func (.func 6) #[] #[], .func (.func 7) #[] #[], .func (.func 8) #[] #[], .func (.func 9) #[] #[]]) := Lib.hid (RowL.new _ _ _)
  have HVY : Hid (Bel V (V2.alloc (.cells #[.func (.func 6) #[] #[], .func (.func 7) #[] #[], .func (.func 8) #[] #[], .func (.func 9) #[] #[]] 26))) := Lib.hid (hb2.alloc _)
  generalize (V2.alloc (.cells #[.func (.func 6) #[] #[], .func (.func 7) #[] #[], .func (.func 8) #[] #[], .func (.func 9) #[] #[]] 26)) = Y at *
  generalize V2.heap.size = gF at *
  clear hb2 V2
  have QF : Hid (∀ w, Bel Y w → w.cell? ⟨gF, 0, none⟩ = some (.func (.func 6) #[] #[]) ∧ w.cell? ⟨gF, 1, none⟩ = some (.func (.func 7) #[] #[]) ∧ w.cell? ⟨gF, 2, none⟩ = some (.func (.func 8) #[] #[]) ∧ w.cell? ⟨gF, 3, none⟩ = some (.func (.func 9) #[] #[])) := Lib.hid (fun w hw => by
    obtain ⟨v, rfl⟩ := hw.later
    exact ⟨(HF.out.keep v.below).cell rfl, (HF.out.keep v.below).cell rfl, (HF.out.keep v.below).cell rfl, (HF.out.keep v.below).cell rfl⟩)
  clear HF
  obtain ⟨y, hy⟩ : ∃ y : Later Y.heap.size Y, y.val = Y := ⟨Later.self _, rfl⟩
  rw [← hy]
  clear hy
  go_loopw [25] (fun kv wr => ∃ (k : Int) (v : Later Y.heap.size Y), (k = 0 ∨ k = 1 ∨ k = 2 ∨ k = 3 ∨ k = 4) ∧ kv = .int .i64 k ∧ wr = v.val) (fun kv _ => 4 - (intOf kv).toNat)
  case atStart => exact ⟨0, y, .inl rfl, rfl, by first | rfl | trivial⟩
  case round =>
    clear y
    obtain ⟨k, v, hk, rfl, rfl⟩ := hrel
    have hbv : Bel V v.val := belTr HVY.out (Bel.of v)
    rcases hk with rfl | rfl | rfl | rfl | rfl
    · have q0 : v.val.cell? ⟨gF, 0, none⟩ = some (.func (.func 6) #[] #[]) := (QF.out v.val (Bel.of v)).1
      have hp1 : ∀ (args : Array Value) (w : World), (callFunc 6 args).run Try.prog w = .ok (.enter 6 args) w := fun _ _ => by kernel_rfl
      have hp2 : ∀ (args : Array Value) (w : World), (callFunc 10 args).run Try.prog w = .ok (.enter 10 args) w := fun _ _ => by kernel_rfl
      have KP := Lib.hid (P0.out v.val hbv)
      have KR := Lib.hid R0.out
      have HB1 := Lib.hid (fun c => HBd.out c 0)
      have HG1 := Lib.hid (fun c => HGd.out c 0)
      have HL1 := Lib.hid (HLx.out 0)
      clear P0 P1 P2 P3 R0 R1 R2 R3 HBd HGd HLx PRk RRk HBR HGR HGood HLR QF
      generalize nA 0 = na at *
      generalize xA 0 = xa at *
      generalize er 0 = e1 at *
      generalize ok 0 = o1 at *
      go_upto_region 6 with (first | (go_at_call 6; (with_reducible refine (KP.out).mono ?_); rintro e _ ⟨_, rfl, ⟨ad, cp, rfl, hO⟩, v1, rfl⟩; have HO := Lib.hid hO; clear hO) | fail)
      have I1 : Hid (IntsAt v1.val.heap.size v1.val ad xa) := Lib.hid HO.out.reads
      have HYv : Hid (Y.heap.size ≤ v1.val.heap.size) := Lib.hid ((v.up v1).size)
      have HVv : Hid (∃ w : Later Y.heap.size Y, w.val = v1.val) := Lib.hid ⟨v.up v1, rfl⟩
      clear KP q0 hp1 HO hbv
      generalize v1.val = V1 at *
      clear v1 v
      have N10 : Hid (RowL (V1.alloc (.cells #[.int .i64 na, .slice ad xa.length cp] 29)) V1.heap.size 29 [.int .i64 na, .slice ad xa.length cp]) := Lib.hid (RowL.new _ _ _)
      have HB10 : Hid (Bel V1 (V1.alloc (.cells #[.int .i64 na, .slice ad xa.length cp] 29))) := Lib.hid ((Bel.of (Later.self V1)).alloc _)
      have HW1 : Hid (∃ w : Later Y.heap.size Y, w.val = (V1.alloc (.cells #[.int .i64 na, .slice ad xa.length cp] 29))) := Lib.hid (by
        obtain ⟨w, hw⟩ := HVv.out
        exact ⟨w.alloc _, by rw [← hw]; rfl⟩)
      have hgm : V1.heap.size < (V1.alloc (.cells #[.int .i64 na, .slice ad xa.length cp] 29)).heap.size := by simp
      generalize (V1.alloc (.cells #[.int .i64 na, .slice ad xa.length cp] 29)) = W1 at *
      obtain ⟨gm, hgm2⟩ : ∃ gm, V1.heap.size = gm := ⟨_, rfl⟩
      have HGm := Lib.hid hgm2
      rw [hgm2] at hgm N10 ⊢
      clear hgm2
      go_upto_region 7 with fail
      have R12 : Hid (RowL (W1.alloc (.cells #[.int .i64 0, .slice none 0 0] 29)) W1.heap.size 29 [.int .i64 0, .slice none 0 0]) := Lib.hid (RowL.new _ _ _)
      have HW2 : Hid (∃ w : Later Y.heap.size Y, w.val = (W1.alloc (.cells #[.int .i64 0, .slice none 0 0] 29))) := Lib.hid (by
        obtain ⟨w, hw⟩ := HW1.out
        exact ⟨w.alloc _, by rw [← hw]; rfl⟩)
      have N11 : Hid (RowL (W1.alloc (.cells #[.int .i64 0, .slice none 0 0] 29)) gm 29 [.int .i64 na, .slice ad xa.length cp]) := Lib.hid (N10.out.keep ((Below.refl _ _).alloc (Nat.le_refl _) _))
      have HB11 : Hid (Bel V1 (W1.alloc (.cells #[.int .i64 0, .slice none 0 0] 29))) := Lib.hid (HB10.out.alloc _)
      have HYg : Hid (Y.heap.size ≤ W1.heap.size ∧ V1.heap.size ≤ W1.heap.size ∧ gm ≠ W1.heap.size) := Lib.hid ⟨Nat.le_trans HYv.out HB10.out.2, HB10.out.2, by omega⟩
      have hgw : W1.heap.size < (W1.alloc (.cells #[.int .i64 0, .slice none 0 0] 29)).heap.size := by simp
      clear N10 HW1 HB10 hgm HGm
      generalize (W1.alloc (.cells #[.int .i64 0, .slice none 0 0] 29)) = W2 at *
      generalize W1.heap.size = gw at *
      clear W1
      obtain ⟨w2, hw2⟩ := HW2.out
      subst hw2
      clear HW2
      have hbw : Bel V w2.val := belTr HVY.out (Bel.of w2)
      cases fam
      · have he : e0 = 1 := HE.out
        have d0 : (e0 == 0) = false := by rw [he]; rfl
        have i1 : IntsAt w2.val.heap.size w2.val ad xa := by
          obtain ⟨w, hw⟩ := HB11.out.later
          rw [← hw]; exact I1.out.to w
        have t0 : ∀ w : Later w2.val.heap.size w2.val, w.val.cell? ⟨gm, 0, none⟩ = some (.int .i64 na) := fun w => (N11.out.keep w.below).cell rfl
        have t1 : ∀ w : Later w2.val.heap.size w2.val, w.val.cell? ⟨gm, 1, none⟩ = some (.slice ad xa.length cp) := fun w => (N11.out.keep w.below).cell rfl
        have t2 : ∀ w : Later w2.val.heap.size w2.val, w.val.cell? ⟨gw, 0, none⟩ = some (.int .i64 0) := fun w => (R12.out.keep w.below).cell rfl
        have t3 : ∀ w : Later w2.val.heap.size w2.val, w.val.cell? ⟨gw, 1, none⟩ = some (.slice none 0 0) := fun w => (R12.out.keep w.below).cell rfl
        have KT : Hid (∀ w : Later w2.val.heap.size w2.val, Calls Try.prog 14 #[.agg #[.int .i64 na, .slice ad xa.length cp], .int .i64 e1, .agg #[.int .i64 0, .slice none 0 0], .int .i64 e0] w.val (Ret w2.val.heap.size w2.val (.bool true))) := Lib.hid (fun w => by
          obtain ⟨b1, b2, b3⟩ := HB1.out rfl
          have h1 := c_told w na 0 xa [] ad none cp 0 e1 e0 i1 IntsAt.nil HL1.out (by rw [b3, he]) (by rw [he, if_neg (by decide)]; exact ⟨b1, b2⟩)
          exact h1)
        clear i1 N11 R12 KR HG1 HB1 HL1 he
        obtain ⟨z, hz⟩ : ∃ z : Later w2.val.heap.size w2.val, z.val = w2.val := ⟨Later.self _, rfl⟩
        rw [← hz]
        clear hz
        go_wp2_with (first | (go_at_call 14; (with_reducible refine (KT.out z).mono ?_); rintro e _ ⟨rfl, x1, rfl⟩) | fail)
        go_roundw
        case rel => exact ⟨0 + 1, w2.up x1, by omega, by first | rfl | trivial | simp, by first | rfl | trivial⟩
        case measure => simp [intOf]
      · have he : e0 = 0 := HE.out
        have d0 : (e0 == 0) = true := by rw [he]; rfl
        clear he
        go_upto_region 10 with fail
        have qg : (w2.val.alloc (.cells #[.func (.func 10) #[] #[], .func (.func 11) #[] #[], .func (.func 12) #[] #[], .func (.func 13) #[] #[]] 32)).cell? ⟨w2.val.heap.size, 0, none⟩ = some (.func (.func 10) #[] #[]) := (RowL.new w2.val 32 [.func (.func 10) #[] #[], .func (.func 11) #[] #[], .func (.func 12) #[] #[], .func (.func 13) #[] #[]]).cell rfl
        have KR3 := Lib.hid (KR.out rfl (w2.val.alloc (.cells #[.func (.func 10) #[] #[], .func (.func 11) #[] #[], .func (.func 12) #[] #[], .func (.func 13) #[] #[]] 32)) (hbw.alloc _))
        have R13 : Hid (RowL (w2.val.alloc (.cells #[.func (.func 10) #[] #[], .func (.func 11) #[] #[], .func (.func 12) #[] #[], .func (.func 13) #[] #[]] 32)) gw 29 [.int .i64 0, .slice none 0 0]) := Lib.hid (R12.out.keep ((Below.refl _ _).alloc (Nat.le_refl _) _))
        have N13 : Hid (RowL (w2.val.alloc (.cells #[.func (.func 10) #[] #[], .func (.func 11) #[] #[], .func (.func 12) #[] #[], .func (.func 13) #[] #[]] 32)) gm 29 [.int .i64 na, .slice ad xa.length cp]) := Lib.hid (N11.out.keep ((Below.refl _ _).alloc (Nat.le_refl _) _))
        have HB13 : Hid (Bel V1 (w2.val.alloc (.cells #[.func (.func 10) #[] #[], .func (.func 11) #[] #[], .func (.func 12) #[] #[], .func (.func 13) #[] #[]] 32))) := Lib.hid (HB11.out.alloc _)
        have HW3 : Hid (∃ w : Later Y.heap.size Y, w.val = (w2.val.alloc (.cells #[.func (.func 10) #[] #[], .func (.func 11) #[] #[], .func (.func 12) #[] #[], .func (.func 13) #[] #[]] 32))) := Lib.hid ⟨w2.alloc _, rfl⟩
        have hsz : w2.val.heap.size ≤ (w2.val.alloc (.cells #[.func (.func 10) #[] #[], .func (.func 11) #[] #[], .func (.func 12) #[] #[], .func (.func 13) #[] #[]] 32)).heap.size := by simp
        clear KR N11 R12 HB11
        go_upto_region 11 with (first | (go_at_call 10; (with_reducible refine (KR3.out).mono ?_); rintro e _ ⟨_, rfl, ⟨adR, cpR, rfl, hOR⟩, v3, rfl⟩; have HOR := Lib.hid hOR; clear hOR; have R14 : Hid (RowL v3.val gw 29 [.int .i64 0, .slice none 0 0]) := Lib.hid (R13.out.keep v3.below); have d3 : v3.val.cell? ⟨gw, 0, none⟩ = some (.int .i64 0) := R14.out.cell rfl; have d4 : v3.val.frozen? ⟨gw, 0, none⟩ = false := R14.out.fz 0; have d5 : ∀ x : Value, (v3.val.setCell ⟨gw, 0, none⟩ x).cell? ⟨gw, 1, none⟩ = some (.slice none 0 0) := fun x => (R14.out.set 0 x).cell rfl; have d6 : ∀ x : Value, (v3.val.setCell ⟨gw, 0, none⟩ x).frozen? ⟨gw, 1, none⟩ = false := fun x => (R14.out.set 0 x).fz 1) | fail)
        have R15 : Hid (RowL ((v3.val.setCell ⟨gw, 0, none⟩ (.int .i64 na)).setCell ⟨gw, 1, none⟩ (.slice adR xa.length cpR)) gw 29 [.int .i64 na, .slice adR xa.length cpR]) := Lib.hid ((R14.out.set 0 _).set 1 _)
        have N15 : Hid (RowL ((v3.val.setCell ⟨gw, 0, none⟩ (.int .i64 na)).setCell ⟨gw, 1, none⟩ (.slice adR xa.length cpR)) gm 29 [.int .i64 na, .slice ad xa.length cp]) := Lib.hid (rowL_otherB (rowL_otherB (N13.out.keep v3.below) HYg.out.2.2 _) HYg.out.2.2 _)
        have HB15 : Hid (Bel V1 ((v3.val.setCell ⟨gw, 0, none⟩ (.int .i64 na)).setCell ⟨gw, 1, none⟩ (.slice adR xa.length cpR))) := Lib.hid (((HB13.out.up v3).set HYg.out.2.1 _).set HYg.out.2.1 _)
        have HW4 : Hid (∃ w : Later Y.heap.size Y, w.val = ((v3.val.setCell ⟨gw, 0, none⟩ (.int .i64 na)).setCell ⟨gw, 1, none⟩ (.slice adR xa.length cpR))) := Lib.hid ⟨(((w2.alloc _).up v3).set ⟨gw, 0, none⟩ HYg.out.1 _).set ⟨gw, 1, none⟩ HYg.out.1 _, rfl⟩
        have I2 : Hid (IntsAt ((v3.val.setCell ⟨gw, 0, none⟩ (.int .i64 na)).setCell ⟨gw, 1, none⟩ (.slice adR xa.length cpR)).heap.size ((v3.val.setCell ⟨gw, 0, none⟩ (.int .i64 na)).setCell ⟨gw, 1, none⟩ (.slice adR xa.length cpR)) adR xa) := Lib.hid (((HOR.out.set (by omega) _).set (by omega) _).reads)
        have I3 : Hid (IntsAt ((v3.val.setCell ⟨gw, 0, none⟩ (.int .i64 na)).setCell ⟨gw, 1, none⟩ (.slice adR xa.length cpR)).heap.size ((v3.val.setCell ⟨gw, 0, none⟩ (.int .i64 na)).setCell ⟨gw, 1, none⟩ (.slice adR xa.length cpR)) ad xa) := Lib.hid (by
          obtain ⟨w, hw⟩ := HB15.out.later
          rw [← hw]; exact I1.out.to w)
        clear R13 N13 HB13 HW3 R14 d3 d4 d5 d6 HOR HB15 KR3 qg hp2
        generalize ((v3.val.setCell ⟨gw, 0, none⟩ (.int .i64 na)).setCell ⟨gw, 1, none⟩ (.slice adR xa.length cpR)) = W4 at *
        obtain ⟨w4, hw4⟩ := HW4.out
        subst hw4
        clear HW4 v3 hsz
        have KBd := Lib.hid (KB.out w4.val o1 3)
        obtain ⟨f1, hf1⟩ : ∃ f1, f1 = errno o1 3 := ⟨_, rfl⟩
        have t0 : ∀ w : Later w4.val.heap.size w4.val, w.val.cell? ⟨gm, 0, none⟩ = some (.int .i64 na) := fun w => (N15.out.keep w.below).cell rfl
        have t1 : ∀ w : Later w4.val.heap.size w4.val, w.val.cell? ⟨gm, 1, none⟩ = some (.slice ad xa.length cp) := fun w => (N15.out.keep w.below).cell rfl
        have t2 : ∀ w : Later w4.val.heap.size w4.val, w.val.cell? ⟨gw, 0, none⟩ = some (.int .i64 na) := fun w => (R15.out.keep w.below).cell rfl
        have t3 : ∀ w : Later w4.val.heap.size w4.val, w.val.cell? ⟨gw, 1, none⟩ = some (.slice adR xa.length cpR) := fun w => (R15.out.keep w.below).cell rfl
        have KT : Hid (∀ w : Later w4.val.heap.size w4.val, Calls Try.prog 14 #[.agg #[.int .i64 na, .slice ad xa.length cp], .int .i64 e1, .agg #[.int .i64 na, .slice adR xa.length cpR], .int .i64 f1] w.val (Ret w4.val.heap.size w4.val (.bool true))) := Lib.hid (fun w => by
          obtain ⟨b1, b2⟩ := HG1.out (by trivial)
          exact c_told w na na xa xa ad adR cp cpR e1 f1 I3.out I2.out HL1.out (by rw [b1, hf1]) (by
            rw [hf1]
            cases o1
            · rw [if_neg (by decide)]; exact b2 rfl
            · rw [if_pos (by decide)]; exact ⟨rfl, rfl⟩))
        rw [← hf1] at KBd
        clear N15 R15 HG1 HB1 HL1 I1 I2 I3 hf1
        go_wp2_with (first | (go_at_call 4; (with_reducible refine (KBd.out).mono ?_); rintro e _ ⟨rfl, x0, rfl⟩) | (go_at_call 14; (with_reducible refine (KT.out x0).mono ?_); rintro e _ ⟨rfl, x1, rfl⟩) | fail)
        go_roundw
        case rel => exact ⟨0 + 1, w4.up x1, by omega, by first | rfl | trivial | simp, by first | rfl | trivial⟩
        case measure => simp [intOf]
    · have q0 : v.val.cell? ⟨gF, 1, none⟩ = some (.func (.func 7) #[] #[]) := (QF.out v.val (Bel.of v)).2.1
      have hp1 : ∀ (args : Array Value) (w : World), (callFunc 7 args).run Try.prog w = .ok (.enter 7 args) w := fun _ _ => by kernel_rfl
      have hp2 : ∀ (args : Array Value) (w : World), (callFunc 11 args).run Try.prog w = .ok (.enter 11 args) w := fun _ _ => by kernel_rfl
      have KP := Lib.hid (P1.out v.val hbv)
      have KR := Lib.hid R1.out
      have HB1 := Lib.hid (fun c => HBd.out c 1)
      have HG1 := Lib.hid (fun c => HGd.out c 1)
      have HL1 := Lib.hid (HLx.out 1)
      clear P0 P1 P2 P3 R0 R1 R2 R3 HBd HGd HLx PRk RRk HBR HGR HGood HLR QF
      generalize nA 1 = na at *
      generalize xA 1 = xa at *
      generalize er 1 = e1 at *
      generalize ok 1 = o1 at *
      go_upto_region 6 with (first | (go_at_call 7; (with_reducible refine (KP.out).mono ?_); rintro e _ ⟨_, rfl, ⟨ad, cp, rfl, hO⟩, v1, rfl⟩; have HO := Lib.hid hO; clear hO) | fail)
      have I1 : Hid (IntsAt v1.val.heap.size v1.val ad xa) := Lib.hid HO.out.reads
      have HYv : Hid (Y.heap.size ≤ v1.val.heap.size) := Lib.hid ((v.up v1).size)
      have HVv : Hid (∃ w : Later Y.heap.size Y, w.val = v1.val) := Lib.hid ⟨v.up v1, rfl⟩
      clear KP q0 hp1 HO hbv
      generalize v1.val = V1 at *
      clear v1 v
      have N10 : Hid (RowL (V1.alloc (.cells #[.int .i64 na, .slice ad xa.length cp] 29)) V1.heap.size 29 [.int .i64 na, .slice ad xa.length cp]) := Lib.hid (RowL.new _ _ _)
      have HB10 : Hid (Bel V1 (V1.alloc (.cells #[.int .i64 na, .slice ad xa.length cp] 29))) := Lib.hid ((Bel.of (Later.self V1)).alloc _)
      have HW1 : Hid (∃ w : Later Y.heap.size Y, w.val = (V1.alloc (.cells #[.int .i64 na, .slice ad xa.length cp] 29))) := Lib.hid (by
        obtain ⟨w, hw⟩ := HVv.out
        exact ⟨w.alloc _, by rw [← hw]; rfl⟩)
      have hgm : V1.heap.size < (V1.alloc (.cells #[.int .i64 na, .slice ad xa.length cp] 29)).heap.size := by simp
      generalize (V1.alloc (.cells #[.int .i64 na, .slice ad xa.length cp] 29)) = W1 at *
      obtain ⟨gm, hgm2⟩ : ∃ gm, V1.heap.size = gm := ⟨_, rfl⟩
      have HGm := Lib.hid hgm2
      rw [hgm2] at hgm N10 ⊢
      clear hgm2
      go_upto_region 7 with fail
      have R12 : Hid (RowL (W1.alloc (.cells #[.int .i64 0, .slice none 0 0] 29)) W1.heap.size 29 [.int .i64 0, .slice none 0 0]) := Lib.hid (RowL.new _ _ _)
      have HW2 : Hid (∃ w : Later Y.heap.size Y, w.val = (W1.alloc (.cells #[.int .i64 0, .slice none 0 0] 29))) := Lib.hid (by
        obtain ⟨w, hw⟩ := HW1.out
        exact ⟨w.alloc _, by rw [← hw]; rfl⟩)
      have N11 : Hid (RowL (W1.alloc (.cells #[.int .i64 0, .slice none 0 0] 29)) gm 29 [.int .i64 na, .slice ad xa.length cp]) := Lib.hid (N10.out.keep ((Below.refl _ _).alloc (Nat.le_refl _) _))
      have HB11 : Hid (Bel V1 (W1.alloc (.cells #[.int .i64 0, .slice none 0 0] 29))) := Lib.hid (HB10.out.alloc _)
      have HYg : Hid (Y.heap.size ≤ W1.heap.size ∧ V1.heap.size ≤ W1.heap.size ∧ gm ≠ W1.heap.size) := Lib.hid ⟨Nat.le_trans HYv.out HB10.out.2, HB10.out.2, by omega⟩
      have hgw : W1.heap.size < (W1.alloc (.cells #[.int .i64 0, .slice none 0 0] 29)).heap.size := by simp
      clear N10 HW1 HB10 hgm HGm
      generalize (W1.alloc (.cells #[.int .i64 0, .slice none 0 0] 29)) = W2 at *
      generalize W1.heap.size = gw at *
      clear W1
      obtain ⟨w2, hw2⟩ := HW2.out
      subst hw2
      clear HW2
      have hbw : Bel V w2.val := belTr HVY.out (Bel.of w2)
      cases fam
      · have he : e0 = 1 := HE.out
        have d0 : (e0 == 0) = false := by rw [he]; rfl
        have i1 : IntsAt w2.val.heap.size w2.val ad xa := by
          obtain ⟨w, hw⟩ := HB11.out.later
          rw [← hw]; exact I1.out.to w
        have t0 : ∀ w : Later w2.val.heap.size w2.val, w.val.cell? ⟨gm, 0, none⟩ = some (.int .i64 na) := fun w => (N11.out.keep w.below).cell rfl
        have t1 : ∀ w : Later w2.val.heap.size w2.val, w.val.cell? ⟨gm, 1, none⟩ = some (.slice ad xa.length cp) := fun w => (N11.out.keep w.below).cell rfl
        have t2 : ∀ w : Later w2.val.heap.size w2.val, w.val.cell? ⟨gw, 0, none⟩ = some (.int .i64 0) := fun w => (R12.out.keep w.below).cell rfl
        have t3 : ∀ w : Later w2.val.heap.size w2.val, w.val.cell? ⟨gw, 1, none⟩ = some (.slice none 0 0) := fun w => (R12.out.keep w.below).cell rfl
        have KT : Hid (∀ w : Later w2.val.heap.size w2.val, Calls Try.prog 14 #[.agg #[.int .i64 na, .slice ad xa.length cp], .int .i64 e1, .agg #[.int .i64 0, .slice none 0 0], .int .i64 e0] w.val (Ret w2.val.heap.size w2.val (.bool true))) := Lib.hid (fun w => by
          obtain ⟨b1, b2, b3⟩ := HB1.out rfl
          have h1 := c_told w na 0 xa [] ad none cp 0 e1 e0 i1 IntsAt.nil HL1.out (by rw [b3, he]) (by rw [he, if_neg (by decide)]; exact ⟨b1, b2⟩)
          exact h1)
        clear i1 N11 R12 KR HG1 HB1 HL1 he
        obtain ⟨z, hz⟩ : ∃ z : Later w2.val.heap.size w2.val, z.val = w2.val := ⟨Later.self _, rfl⟩
        rw [← hz]
        clear hz
        go_wp2_with (first | (go_at_call 14; (with_reducible refine (KT.out z).mono ?_); rintro e _ ⟨rfl, x1, rfl⟩) | fail)
        go_roundw
        case rel => exact ⟨1 + 1, w2.up x1, by omega, by first | rfl | trivial | simp, by first | rfl | trivial⟩
        case measure => simp [intOf]
      · have he : e0 = 0 := HE.out
        have d0 : (e0 == 0) = true := by rw [he]; rfl
        clear he
        go_upto_region 10 with fail
        have qg : (w2.val.alloc (.cells #[.func (.func 10) #[] #[], .func (.func 11) #[] #[], .func (.func 12) #[] #[], .func (.func 13) #[] #[]] 32)).cell? ⟨w2.val.heap.size, 1, none⟩ = some (.func (.func 11) #[] #[]) := (RowL.new w2.val 32 [.func (.func 10) #[] #[], .func (.func 11) #[] #[], .func (.func 12) #[] #[], .func (.func 13) #[] #[]]).cell rfl
        have KR3 := Lib.hid (KR.out rfl (w2.val.alloc (.cells #[.func (.func 10) #[] #[], .func (.func 11) #[] #[], .func (.func 12) #[] #[], .func (.func 13) #[] #[]] 32)) (hbw.alloc _))
        have R13 : Hid (RowL (w2.val.alloc (.cells #[.func (.func 10) #[] #[], .func (.func 11) #[] #[], .func (.func 12) #[] #[], .func (.func 13) #[] #[]] 32)) gw 29 [.int .i64 0, .slice none 0 0]) := Lib.hid (R12.out.keep ((Below.refl _ _).alloc (Nat.le_refl _) _))
        have N13 : Hid (RowL (w2.val.alloc (.cells #[.func (.func 10) #[] #[], .func (.func 11) #[] #[], .func (.func 12) #[] #[], .func (.func 13) #[] #[]] 32)) gm 29 [.int .i64 na, .slice ad xa.length cp]) := Lib.hid (N11.out.keep ((Below.refl _ _).alloc (Nat.le_refl _) _))
        have HB13 : Hid (Bel V1 (w2.val.alloc (.cells #[.func (.func 10) #[] #[], .func (.func 11) #[] #[], .func (.func 12) #[] #[], .func (.func 13) #[] #[]] 32))) := Lib.hid (HB11.out.alloc _)
        have HW3 : Hid (∃ w : Later Y.heap.size Y, w.val = (w2.val.alloc (.cells #[.func (.func 10) #[] #[], .func (.func 11) #[] #[], .func (.func 12) #[] #[], .func (.func 13) #[] #[]] 32))) := Lib.hid ⟨w2.alloc _, rfl⟩
        have hsz : w2.val.heap.size ≤ (w2.val.alloc (.cells #[.func (.func 10) #[] #[], .func (.func 11) #[] #[], .func (.func 12) #[] #[], .func (.func 13) #[] #[]] 32)).heap.size := by simp
        clear KR N11 R12 HB11
        go_upto_region 11 with (first | (go_at_call 11; (with_reducible refine (KR3.out).mono ?_); rintro e _ ⟨_, rfl, ⟨adR, cpR, rfl, hOR⟩, v3, rfl⟩; have HOR := Lib.hid hOR; clear hOR; have R14 : Hid (RowL v3.val gw 29 [.int .i64 0, .slice none 0 0]) := Lib.hid (R13.out.keep v3.below); have d3 : v3.val.cell? ⟨gw, 0, none⟩ = some (.int .i64 0) := R14.out.cell rfl; have d4 : v3.val.frozen? ⟨gw, 0, none⟩ = false := R14.out.fz 0; have d5 : ∀ x : Value, (v3.val.setCell ⟨gw, 0, none⟩ x).cell? ⟨gw, 1, none⟩ = some (.slice none 0 0) := fun x => (R14.out.set 0 x).cell rfl; have d6 : ∀ x : Value, (v3.val.setCell ⟨gw, 0, none⟩ x).frozen? ⟨gw, 1, none⟩ = false := fun x => (R14.out.set 0 x).fz 1) | fail)
        have R15 : Hid (RowL ((v3.val.setCell ⟨gw, 0, none⟩ (.int .i64 na)).setCell ⟨gw, 1, none⟩ (.slice adR xa.length cpR)) gw 29 [.int .i64 na, .slice adR xa.length cpR]) := Lib.hid ((R14.out.set 0 _).set 1 _)
        have N15 : Hid (RowL ((v3.val.setCell ⟨gw, 0, none⟩ (.int .i64 na)).setCell ⟨gw, 1, none⟩ (.slice adR xa.length cpR)) gm 29 [.int .i64 na, .slice ad xa.length cp]) := Lib.hid (rowL_otherB (rowL_otherB (N13.out.keep v3.below) HYg.out.2.2 _) HYg.out.2.2 _)
        have HB15 : Hid (Bel V1 ((v3.val.setCell ⟨gw, 0, none⟩ (.int .i64 na)).setCell ⟨gw, 1, none⟩ (.slice adR xa.length cpR))) := Lib.hid (((HB13.out.up v3).set HYg.out.2.1 _).set HYg.out.2.1 _)
        have HW4 : Hid (∃ w : Later Y.heap.size Y, w.val = ((v3.val.setCell ⟨gw, 0, none⟩ (.int .i64 na)).setCell ⟨gw, 1, none⟩ (.slice adR xa.length cpR))) := Lib.hid ⟨(((w2.alloc _).up v3).set ⟨gw, 0, none⟩ HYg.out.1 _).set ⟨gw, 1, none⟩ HYg.out.1 _, rfl⟩
        have I2 : Hid (IntsAt ((v3.val.setCell ⟨gw, 0, none⟩ (.int .i64 na)).setCell ⟨gw, 1, none⟩ (.slice adR xa.length cpR)).heap.size ((v3.val.setCell ⟨gw, 0, none⟩ (.int .i64 na)).setCell ⟨gw, 1, none⟩ (.slice adR xa.length cpR)) adR xa) := Lib.hid (((HOR.out.set (by omega) _).set (by omega) _).reads)
        have I3 : Hid (IntsAt ((v3.val.setCell ⟨gw, 0, none⟩ (.int .i64 na)).setCell ⟨gw, 1, none⟩ (.slice adR xa.length cpR)).heap.size ((v3.val.setCell ⟨gw, 0, none⟩ (.int .i64 na)).setCell ⟨gw, 1, none⟩ (.slice adR xa.length cpR)) ad xa) := Lib.hid (by
          obtain ⟨w, hw⟩ := HB15.out.later
          rw [← hw]; exact I1.out.to w)
        clear R13 N13 HB13 HW3 R14 d3 d4 d5 d6 HOR HB15 KR3 qg hp2
        generalize ((v3.val.setCell ⟨gw, 0, none⟩ (.int .i64 na)).setCell ⟨gw, 1, none⟩ (.slice adR xa.length cpR)) = W4 at *
        obtain ⟨w4, hw4⟩ := HW4.out
        subst hw4
        clear HW4 v3 hsz
        have KBd := Lib.hid (KB.out w4.val o1 3)
        obtain ⟨f1, hf1⟩ : ∃ f1, f1 = errno o1 3 := ⟨_, rfl⟩
        have t0 : ∀ w : Later w4.val.heap.size w4.val, w.val.cell? ⟨gm, 0, none⟩ = some (.int .i64 na) := fun w => (N15.out.keep w.below).cell rfl
        have t1 : ∀ w : Later w4.val.heap.size w4.val, w.val.cell? ⟨gm, 1, none⟩ = some (.slice ad xa.length cp) := fun w => (N15.out.keep w.below).cell rfl
        have t2 : ∀ w : Later w4.val.heap.size w4.val, w.val.cell? ⟨gw, 0, none⟩ = some (.int .i64 na) := fun w => (R15.out.keep w.below).cell rfl
        have t3 : ∀ w : Later w4.val.heap.size w4.val, w.val.cell? ⟨gw, 1, none⟩ = some (.slice adR xa.length cpR) := fun w => (R15.out.keep w.below).cell rfl
        have KT : Hid (∀ w : Later w4.val.heap.size w4.val, Calls Try.prog 14 #[.agg #[.int .i64 na, .slice ad xa.length cp], .int .i64 e1, .agg #[.int .i64 na, .slice adR xa.length cpR], .int .i64 f1] w.val (Ret w4.val.heap.size w4.val (.bool true))) := Lib.hid (fun w => by
          obtain ⟨b1, b2⟩ := HG1.out (by trivial)
          exact c_told w na na xa xa ad adR cp cpR e1 f1 I3.out I2.out HL1.out (by rw [b1, hf1]) (by
            rw [hf1]
            cases o1
            · rw [if_neg (by decide)]; exact b2 rfl
            · rw [if_pos (by decide)]; exact ⟨rfl, rfl⟩))
        rw [← hf1] at KBd
        clear N15 R15 HG1 HB1 HL1 I1 I2 I3 hf1
        go_wp2_with (first | (go_at_call 4; (with_reducible refine (KBd.out).mono ?_); rintro e _ ⟨rfl, x0, rfl⟩) | (go_at_call 14; (with_reducible refine (KT.out x0).mono ?_); rintro e _ ⟨rfl, x1, rfl⟩) | fail)
        go_roundw
        case rel => exact ⟨1 + 1, w4.up x1, by omega, by first | rfl | trivial | simp, by first | rfl | trivial⟩
        case measure => simp [intOf]
    · have q0 : v.val.cell? ⟨gF, 2, none⟩ = some (.func (.func 8) #[] #[]) := (QF.out v.val (Bel.of v)).2.2.1
      have hp1 : ∀ (args : Array Value) (w : World), (callFunc 8 args).run Try.prog w = .ok (.enter 8 args) w := fun _ _ => by kernel_rfl
      have hp2 : ∀ (args : Array Value) (w : World), (callFunc 12 args).run Try.prog w = .ok (.enter 12 args) w := fun _ _ => by kernel_rfl
      have KP := Lib.hid (P2.out v.val hbv)
      have KR := Lib.hid R2.out
      have HB1 := Lib.hid (fun c => HBd.out c 2)
      have HG1 := Lib.hid (fun c => HGd.out c 2)
      have HL1 := Lib.hid (HLx.out 2)
      clear P0 P1 P2 P3 R0 R1 R2 R3 HBd HGd HLx PRk RRk HBR HGR HGood HLR QF
      generalize nA 2 = na at *
      generalize xA 2 = xa at *
      generalize er 2 = e1 at *
      generalize ok 2 = o1 at *
      go_upto_region 6 with (first | (go_at_call 8; (with_reducible refine (KP.out).mono ?_); rintro e _ ⟨_, rfl, ⟨ad, cp, rfl, hO⟩, v1, rfl⟩; have HO := Lib.hid hO; clear hO) | fail)
      have I1 : Hid (IntsAt v1.val.heap.size v1.val ad xa) := Lib.hid HO.out.reads
      have HYv : Hid (Y.heap.size ≤ v1.val.heap.size) := Lib.hid ((v.up v1).size)
      have HVv : Hid (∃ w : Later Y.heap.size Y, w.val = v1.val) := Lib.hid ⟨v.up v1, rfl⟩
      clear KP q0 hp1 HO hbv
      generalize v1.val = V1 at *
      clear v1 v
      have N10 : Hid (RowL (V1.alloc (.cells #[.int .i64 na, .slice ad xa.length cp] 29)) V1.heap.size 29 [.int .i64 na, .slice ad xa.length cp]) := Lib.hid (RowL.new _ _ _)
      have HB10 : Hid (Bel V1 (V1.alloc (.cells #[.int .i64 na, .slice ad xa.length cp] 29))) := Lib.hid ((Bel.of (Later.self V1)).alloc _)
      have HW1 : Hid (∃ w : Later Y.heap.size Y, w.val = (V1.alloc (.cells #[.int .i64 na, .slice ad xa.length cp] 29))) := Lib.hid (by
        obtain ⟨w, hw⟩ := HVv.out
        exact ⟨w.alloc _, by rw [← hw]; rfl⟩)
      have hgm : V1.heap.size < (V1.alloc (.cells #[.int .i64 na, .slice ad xa.length cp] 29)).heap.size := by simp
      generalize (V1.alloc (.cells #[.int .i64 na, .slice ad xa.length cp] 29)) = W1 at *
      obtain ⟨gm, hgm2⟩ : ∃ gm, V1.heap.size = gm := ⟨_, rfl⟩
      have HGm := Lib.hid hgm2
      rw [hgm2] at hgm N10 ⊢
      clear hgm2
      go_upto_region 7 with fail
      have R12 : Hid (RowL (W1.alloc (.cells #[.int .i64 0, .slice none 0 0] 29)) W1.heap.size 29 [.int .i64 0, .slice none 0 0]) := Lib.hid (RowL.new _ _ _)
      have HW2 : Hid (∃ w : Later Y.heap.size Y, w.val = (W1.alloc (.cells #[.int .i64 0, .slice none 0 0] 29))) := Lib.hid (by
        obtain ⟨w, hw⟩ := HW1.out
        exact ⟨w.alloc _, by rw [← hw]; rfl⟩)
      have N11 : Hid (RowL (W1.alloc (.cells #[.int .i64 0, .slice none 0 0] 29)) gm 29 [.int .i64 na, .slice ad xa.length cp]) := Lib.hid (N10.out.keep ((Below.refl _ _).alloc (Nat.le_refl _) _))
      have HB11 : Hid (Bel V1 (W1.alloc (.cells #[.int .i64 0, .slice none 0 0] 29))) := Lib.hid (HB10.out.alloc _)
      have HYg : Hid (Y.heap.size ≤ W1.heap.size ∧ V1.heap.size ≤ W1.heap.size ∧ gm ≠ W1.heap.size) := Lib.hid ⟨Nat.le_trans HYv.out HB10.out.2, HB10.out.2, by omega⟩
      have hgw : W1.heap.size < (W1.alloc (.cells #[.int .i64 0, .slice none 0 0] 29)).heap.size := by simp
      clear N10 HW1 HB10 hgm HGm
      generalize (W1.alloc (.cells #[.int .i64 0, .slice none 0 0] 29)) = W2 at *
      generalize W1.heap.size = gw at *
      clear W1
      obtain ⟨w2, hw2⟩ := HW2.out
      subst hw2
      clear HW2
      have hbw : Bel V w2.val := belTr HVY.out (Bel.of w2)
      cases fam
      · have he : e0 = 1 := HE.out
        have d0 : (e0 == 0) = false := by rw [he]; rfl
        have i1 : IntsAt w2.val.heap.size w2.val ad xa := by
          obtain ⟨w, hw⟩ := HB11.out.later
          rw [← hw]; exact I1.out.to w
        have t0 : ∀ w : Later w2.val.heap.size w2.val, w.val.cell? ⟨gm, 0, none⟩ = some (.int .i64 na) := fun w => (N11.out.keep w.below).cell rfl
        have t1 : ∀ w : Later w2.val.heap.size w2.val, w.val.cell? ⟨gm, 1, none⟩ = some (.slice ad xa.length cp) := fun w => (N11.out.keep w.below).cell rfl
        have t2 : ∀ w : Later w2.val.heap.size w2.val, w.val.cell? ⟨gw, 0, none⟩ = some (.int .i64 0) := fun w => (R12.out.keep w.below).cell rfl
        have t3 : ∀ w : Later w2.val.heap.size w2.val, w.val.cell? ⟨gw, 1, none⟩ = some (.slice none 0 0) := fun w => (R12.out.keep w.below).cell rfl
        have KT : Hid (∀ w : Later w2.val.heap.size w2.val, Calls Try.prog 14 #[.agg #[.int .i64 na, .slice ad xa.length cp], .int .i64 e1, .agg #[.int .i64 0, .slice none 0 0], .int .i64 e0] w.val (Ret w2.val.heap.size w2.val (.bool true))) := Lib.hid (fun w => by
          obtain ⟨b1, b2, b3⟩ := HB1.out rfl
          have h1 := c_told w na 0 xa [] ad none cp 0 e1 e0 i1 IntsAt.nil HL1.out (by rw [b3, he]) (by rw [he, if_neg (by decide)]; exact ⟨b1, b2⟩)
          exact h1)
        clear i1 N11 R12 KR HG1 HB1 HL1 he
        obtain ⟨z, hz⟩ : ∃ z : Later w2.val.heap.size w2.val, z.val = w2.val := ⟨Later.self _, rfl⟩
        rw [← hz]
        clear hz
        go_wp2_with (first | (go_at_call 14; (with_reducible refine (KT.out z).mono ?_); rintro e _ ⟨rfl, x1, rfl⟩) | fail)
        go_roundw
        case rel => exact ⟨2 + 1, w2.up x1, by omega, by first | rfl | trivial | simp, by first | rfl | trivial⟩
        case measure => simp [intOf]
      · have he : e0 = 0 := HE.out
        have d0 : (e0 == 0) = true := by rw [he]; rfl
        clear he
        go_upto_region 10 with fail
        have qg : (w2.val.alloc (.cells #[.func (.func 10) #[] #[], .func (.func 11) #[] #[], .func (.func 12) #[] #[], .func (.func 13) #[] #[]] 32)).cell? ⟨w2.val.heap.size, 2, none⟩ = some (.func (.func 12) #[] #[]) := (RowL.new w2.val 32 [.func (.func 10) #[] #[], .func (.func 11) #[] #[], .func (.func 12) #[] #[], .func (.func 13) #[] #[]]).cell rfl
        have KR3 := Lib.hid (KR.out rfl (w2.val.alloc (.cells #[.func (.func 10) #[] #[], .func (.func 11) #[] #[], .func (.func 12) #[] #[], .func (.func 13) #[] #[]] 32)) (hbw.alloc _))
        have R13 : Hid (RowL (w2.val.alloc (.cells #[.func (.func 10) #[] #[], .func (.func 11) #[] #[], .func (.func 12) #[] #[], .func (.func 13) #[] #[]] 32)) gw 29 [.int .i64 0, .slice none 0 0]) := Lib.hid (R12.out.keep ((Below.refl _ _).alloc (Nat.le_refl _) _))
        have N13 : Hid (RowL (w2.val.alloc (.cells #[.func (.func 10) #[] #[], .func (.func 11) #[] #[], .func (.func 12) #[] #[], .func (.func 13) #[] #[]] 32)) gm 29 [.int .i64 na, .slice ad xa.length cp]) := Lib.hid (N11.out.keep ((Below.refl _ _).alloc (Nat.le_refl _) _))
        have HB13 : Hid (Bel V1 (w2.val.alloc (.cells #[.func (.func 10) #[] #[], .func (.func 11) #[] #[], .func (.func 12) #[] #[], .func (.func 13) #[] #[]] 32))) := Lib.hid (HB11.out.alloc _)
        have HW3 : Hid (∃ w : Later Y.heap.size Y, w.val = (w2.val.alloc (.cells #[.func (.func 10) #[] #[], .func (.func 11) #[] #[], .func (.func 12) #[] #[], .func (.func 13) #[] #[]] 32))) := Lib.hid ⟨w2.alloc _, rfl⟩
        have hsz : w2.val.heap.size ≤ (w2.val.alloc (.cells #[.func (.func 10) #[] #[], .func (.func 11) #[] #[], .func (.func 12) #[] #[], .func (.func 13) #[] #[]] 32)).heap.size := by simp
        clear KR N11 R12 HB11
        go_upto_region 11 with (first | (go_at_call 12; (with_reducible refine (KR3.out).mono ?_); rintro e _ ⟨_, rfl, ⟨adR, cpR, rfl, hOR⟩, v3, rfl⟩; have HOR := Lib.hid hOR; clear hOR; have R14 : Hid (RowL v3.val gw 29 [.int .i64 0, .slice none 0 0]) := Lib.hid (R13.out.keep v3.below); have d3 : v3.val.cell? ⟨gw, 0, none⟩ = some (.int .i64 0) := R14.out.cell rfl; have d4 : v3.val.frozen? ⟨gw, 0, none⟩ = false := R14.out.fz 0; have d5 : ∀ x : Value, (v3.val.setCell ⟨gw, 0, none⟩ x).cell? ⟨gw, 1, none⟩ = some (.slice none 0 0) := fun x => (R14.out.set 0 x).cell rfl; have d6 : ∀ x : Value, (v3.val.setCell ⟨gw, 0, none⟩ x).frozen? ⟨gw, 1, none⟩ = false := fun x => (R14.out.set 0 x).fz 1) | fail)
        have R15 : Hid (RowL ((v3.val.setCell ⟨gw, 0, none⟩ (.int .i64 na)).setCell ⟨gw, 1, none⟩ (.slice adR xa.length cpR)) gw 29 [.int .i64 na, .slice adR xa.length cpR]) := Lib.hid ((R14.out.set 0 _).set 1 _)
        have N15 : Hid (RowL ((v3.val.setCell ⟨gw, 0, none⟩ (.int .i64 na)).setCell ⟨gw, 1, none⟩ (.slice adR xa.length cpR)) gm 29 [.int .i64 na, .slice ad xa.length cp]) := Lib.hid (rowL_otherB (rowL_otherB (N13.out.keep v3.below) HYg.out.2.2 _) HYg.out.2.2 _)
        have HB15 : Hid (Bel V1 ((v3.val.setCell ⟨gw, 0, none⟩ (.int .i64 na)).setCell ⟨gw, 1, none⟩ (.slice adR xa.length cpR))) := Lib.hid (((HB13.out.up v3).set HYg.out.2.1 _).set HYg.out.2.1 _)
        have HW4 : Hid (∃ w : Later Y.heap.size Y, w.val = ((v3.val.setCell ⟨gw, 0, none⟩ (.int .i64 na)).setCell ⟨gw, 1, none⟩ (.slice adR xa.length cpR))) := Lib.hid ⟨(((w2.alloc _).up v3).set ⟨gw, 0, none⟩ HYg.out.1 _).set ⟨gw, 1, none⟩ HYg.out.1 _, rfl⟩
        have I2 : Hid (IntsAt ((v3.val.setCell ⟨gw, 0, none⟩ (.int .i64 na)).setCell ⟨gw, 1, none⟩ (.slice adR xa.length cpR)).heap.size ((v3.val.setCell ⟨gw, 0, none⟩ (.int .i64 na)).setCell ⟨gw, 1, none⟩ (.slice adR xa.length cpR)) adR xa) := Lib.hid (((HOR.out.set (by omega) _).set (by omega) _).reads)
        have I3 : Hid (IntsAt ((v3.val.setCell ⟨gw, 0, none⟩ (.int .i64 na)).setCell ⟨gw, 1, none⟩ (.slice adR xa.length cpR)).heap.size ((v3.val.setCell ⟨gw, 0, none⟩ (.int .i64 na)).setCell ⟨gw, 1, none⟩ (.slice adR xa.length cpR)) ad xa) := Lib.hid (by
          obtain ⟨w, hw⟩ := HB15.out.later
          rw [← hw]; exact I1.out.to w)
        clear R13 N13 HB13 HW3 R14 d3 d4 d5 d6 HOR HB15 KR3 qg hp2
        generalize ((v3.val.setCell ⟨gw, 0, none⟩ (.int .i64 na)).setCell ⟨gw, 1, none⟩ (.slice adR xa.length cpR)) = W4 at *
        obtain ⟨w4, hw4⟩ := HW4.out
        subst hw4
        clear HW4 v3 hsz
        have KBd := Lib.hid (KB.out w4.val o1 3)
        obtain ⟨f1, hf1⟩ : ∃ f1, f1 = errno o1 3 := ⟨_, rfl⟩
        have t0 : ∀ w : Later w4.val.heap.size w4.val, w.val.cell? ⟨gm, 0, none⟩ = some (.int .i64 na) := fun w => (N15.out.keep w.below).cell rfl
        have t1 : ∀ w : Later w4.val.heap.size w4.val, w.val.cell? ⟨gm, 1, none⟩ = some (.slice ad xa.length cp) := fun w => (N15.out.keep w.below).cell rfl
        have t2 : ∀ w : Later w4.val.heap.size w4.val, w.val.cell? ⟨gw, 0, none⟩ = some (.int .i64 na) := fun w => (R15.out.keep w.below).cell rfl
        have t3 : ∀ w : Later w4.val.heap.size w4.val, w.val.cell? ⟨gw, 1, none⟩ = some (.slice adR xa.length cpR) := fun w => (R15.out.keep w.below).cell rfl
        have KT : Hid (∀ w : Later w4.val.heap.size w4.val, Calls Try.prog 14 #[.agg #[.int .i64 na, .slice ad xa.length cp], .int .i64 e1, .agg #[.int .i64 na, .slice adR xa.length cpR], .int .i64 f1] w.val (Ret w4.val.heap.size w4.val (.bool true))) := Lib.hid (fun w => by
          obtain ⟨b1, b2⟩ := HG1.out (by trivial)
          exact c_told w na na xa xa ad adR cp cpR e1 f1 I3.out I2.out HL1.out (by rw [b1, hf1]) (by
            rw [hf1]
            cases o1
            · rw [if_neg (by decide)]; exact b2 rfl
            · rw [if_pos (by decide)]; exact ⟨rfl, rfl⟩))
        rw [← hf1] at KBd
        clear N15 R15 HG1 HB1 HL1 I1 I2 I3 hf1
        go_wp2_with (first | (go_at_call 4; (with_reducible refine (KBd.out).mono ?_); rintro e _ ⟨rfl, x0, rfl⟩) | (go_at_call 14; (with_reducible refine (KT.out x0).mono ?_); rintro e _ ⟨rfl, x1, rfl⟩) | fail)
        go_roundw
        case rel => exact ⟨2 + 1, w4.up x1, by omega, by first | rfl | trivial | simp, by first | rfl | trivial⟩
        case measure => simp [intOf]
    · have q0 : v.val.cell? ⟨gF, 3, none⟩ = some (.func (.func 9) #[] #[]) := (QF.out v.val (Bel.of v)).2.2.2
      have hp1 : ∀ (args : Array Value) (w : World), (callFunc 9 args).run Try.prog w = .ok (.enter 9 args) w := fun _ _ => by kernel_rfl
      have hp2 : ∀ (args : Array Value) (w : World), (callFunc 13 args).run Try.prog w = .ok (.enter 13 args) w := fun _ _ => by kernel_rfl
      have KP := Lib.hid (P3.out v.val hbv)
      have KR := Lib.hid R3.out
      have HB1 := Lib.hid (fun c => HBd.out c 3)
      have HG1 := Lib.hid (fun c => HGd.out c 3)
      have HL1 := Lib.hid (HLx.out 3)
      clear P0 P1 P2 P3 R0 R1 R2 R3 HBd HGd HLx PRk RRk HBR HGR HGood HLR QF
      generalize nA 3 = na at *
      generalize xA 3 = xa at *
      generalize er 3 = e1 at *
      generalize ok 3 = o1 at *
      go_upto_region 6 with (first | (go_at_call 9; (with_reducible refine (KP.out).mono ?_); rintro e _ ⟨_, rfl, ⟨ad, cp, rfl, hO⟩, v1, rfl⟩; have HO := Lib.hid hO; clear hO) | fail)
      have I1 : Hid (IntsAt v1.val.heap.size v1.val ad xa) := Lib.hid HO.out.reads
      have HYv : Hid (Y.heap.size ≤ v1.val.heap.size) := Lib.hid ((v.up v1).size)
      have HVv : Hid (∃ w : Later Y.heap.size Y, w.val = v1.val) := Lib.hid ⟨v.up v1, rfl⟩
      clear KP q0 hp1 HO hbv
      generalize v1.val = V1 at *
      clear v1 v
      have N10 : Hid (RowL (V1.alloc (.cells #[.int .i64 na, .slice ad xa.length cp] 29)) V1.heap.size 29 [.int .i64 na, .slice ad xa.length cp]) := Lib.hid (RowL.new _ _ _)
      have HB10 : Hid (Bel V1 (V1.alloc (.cells #[.int .i64 na, .slice ad xa.length cp] 29))) := Lib.hid ((Bel.of (Later.self V1)).alloc _)
      have HW1 : Hid (∃ w : Later Y.heap.size Y, w.val = (V1.alloc (.cells #[.int .i64 na, .slice ad xa.length cp] 29))) := Lib.hid (by
        obtain ⟨w, hw⟩ := HVv.out
        exact ⟨w.alloc _, by rw [← hw]; rfl⟩)
      have hgm : V1.heap.size < (V1.alloc (.cells #[.int .i64 na, .slice ad xa.length cp] 29)).heap.size := by simp
      generalize (V1.alloc (.cells #[.int .i64 na, .slice ad xa.length cp] 29)) = W1 at *
      obtain ⟨gm, hgm2⟩ : ∃ gm, V1.heap.size = gm := ⟨_, rfl⟩
      have HGm := Lib.hid hgm2
      rw [hgm2] at hgm N10 ⊢
      clear hgm2
      go_upto_region 7 with fail
      have R12 : Hid (RowL (W1.alloc (.cells #[.int .i64 0, .slice none 0 0] 29)) W1.heap.size 29 [.int .i64 0, .slice none 0 0]) := Lib.hid (RowL.new _ _ _)
      have HW2 : Hid (∃ w : Later Y.heap.size Y, w.val = (W1.alloc (.cells #[.int .i64 0, .slice none 0 0] 29))) := Lib.hid (by
        obtain ⟨w, hw⟩ := HW1.out
        exact ⟨w.alloc _, by rw [← hw]; rfl⟩)
      have N11 : Hid (RowL (W1.alloc (.cells #[.int .i64 0, .slice none 0 0] 29)) gm 29 [.int .i64 na, .slice ad xa.length cp]) := Lib.hid (N10.out.keep ((Below.refl _ _).alloc (Nat.le_refl _) _))
      have HB11 : Hid (Bel V1 (W1.alloc (.cells #[.int .i64 0, .slice none 0 0] 29))) := Lib.hid (HB10.out.alloc _)
      have HYg : Hid (Y.heap.size ≤ W1.heap.size ∧ V1.heap.size ≤ W1.heap.size ∧ gm ≠ W1.heap.size) := Lib.hid ⟨Nat.le_trans HYv.out HB10.out.2, HB10.out.2, by omega⟩
      have hgw : W1.heap.size < (W1.alloc (.cells #[.int .i64 0, .slice none 0 0] 29)).heap.size := by simp
      clear N10 HW1 HB10 hgm HGm
      generalize (W1.alloc (.cells #[.int .i64 0, .slice none 0 0] 29)) = W2 at *
      generalize W1.heap.size = gw at *
      clear W1
      obtain ⟨w2, hw2⟩ := HW2.out
      subst hw2
      clear HW2
      have hbw : Bel V w2.val := belTr HVY.out (Bel.of w2)
      cases fam
      · have he : e0 = 1 := HE.out
        have d0 : (e0 == 0) = false := by rw [he]; rfl
        have i1 : IntsAt w2.val.heap.size w2.val ad xa := by
          obtain ⟨w, hw⟩ := HB11.out.later
          rw [← hw]; exact I1.out.to w
        have t0 : ∀ w : Later w2.val.heap.size w2.val, w.val.cell? ⟨gm, 0, none⟩ = some (.int .i64 na) := fun w => (N11.out.keep w.below).cell rfl
        have t1 : ∀ w : Later w2.val.heap.size w2.val, w.val.cell? ⟨gm, 1, none⟩ = some (.slice ad xa.length cp) := fun w => (N11.out.keep w.below).cell rfl
        have t2 : ∀ w : Later w2.val.heap.size w2.val, w.val.cell? ⟨gw, 0, none⟩ = some (.int .i64 0) := fun w => (R12.out.keep w.below).cell rfl
        have t3 : ∀ w : Later w2.val.heap.size w2.val, w.val.cell? ⟨gw, 1, none⟩ = some (.slice none 0 0) := fun w => (R12.out.keep w.below).cell rfl
        have KT : Hid (∀ w : Later w2.val.heap.size w2.val, Calls Try.prog 14 #[.agg #[.int .i64 na, .slice ad xa.length cp], .int .i64 e1, .agg #[.int .i64 0, .slice none 0 0], .int .i64 e0] w.val (Ret w2.val.heap.size w2.val (.bool true))) := Lib.hid (fun w => by
          obtain ⟨b1, b2, b3⟩ := HB1.out rfl
          have h1 := c_told w na 0 xa [] ad none cp 0 e1 e0 i1 IntsAt.nil HL1.out (by rw [b3, he]) (by rw [he, if_neg (by decide)]; exact ⟨b1, b2⟩)
          exact h1)
        clear i1 N11 R12 KR HG1 HB1 HL1 he
        obtain ⟨z, hz⟩ : ∃ z : Later w2.val.heap.size w2.val, z.val = w2.val := ⟨Later.self _, rfl⟩
        rw [← hz]
        clear hz
        go_wp2_with (first | (go_at_call 14; (with_reducible refine (KT.out z).mono ?_); rintro e _ ⟨rfl, x1, rfl⟩) | fail)
        go_roundw
        case rel => exact ⟨3 + 1, w2.up x1, by omega, by first | rfl | trivial | simp, by first | rfl | trivial⟩
        case measure => simp [intOf]
      · have he : e0 = 0 := HE.out
        have d0 : (e0 == 0) = true := by rw [he]; rfl
        clear he
        go_upto_region 10 with fail
        have qg : (w2.val.alloc (.cells #[.func (.func 10) #[] #[], .func (.func 11) #[] #[], .func (.func 12) #[] #[], .func (.func 13) #[] #[]] 32)).cell? ⟨w2.val.heap.size, 3, none⟩ = some (.func (.func 13) #[] #[]) := (RowL.new w2.val 32 [.func (.func 10) #[] #[], .func (.func 11) #[] #[], .func (.func 12) #[] #[], .func (.func 13) #[] #[]]).cell rfl
        have KR3 := Lib.hid (KR.out rfl (w2.val.alloc (.cells #[.func (.func 10) #[] #[], .func (.func 11) #[] #[], .func (.func 12) #[] #[], .func (.func 13) #[] #[]] 32)) (hbw.alloc _))
        have R13 : Hid (RowL (w2.val.alloc (.cells #[.func (.func 10) #[] #[], .func (.func 11) #[] #[], .func (.func 12) #[] #[], .func (.func 13) #[] #[]] 32)) gw 29 [.int .i64 0, .slice none 0 0]) := Lib.hid (R12.out.keep ((Below.refl _ _).alloc (Nat.le_refl _) _))
        have N13 : Hid (RowL (w2.val.alloc (.cells #[.func (.func 10) #[] #[], .func (.func 11) #[] #[], .func (.func 12) #[] #[], .func (.func 13) #[] #[]] 32)) gm 29 [.int .i64 na, .slice ad xa.length cp]) := Lib.hid (N11.out.keep ((Below.refl _ _).alloc (Nat.le_refl _) _))
        have HB13 : Hid (Bel V1 (w2.val.alloc (.cells #[.func (.func 10) #[] #[], .func (.func 11) #[] #[], .func (.func 12) #[] #[], .func (.func 13) #[] #[]] 32))) := Lib.hid (HB11.out.alloc _)
        have HW3 : Hid (∃ w : Later Y.heap.size Y, w.val = (w2.val.alloc (.cells #[.func (.func 10) #[] #[], .func (.func 11) #[] #[], .func (.func 12) #[] #[], .func (.func 13) #[] #[]] 32))) := Lib.hid ⟨w2.alloc _, rfl⟩
        have hsz : w2.val.heap.size ≤ (w2.val.alloc (.cells #[.func (.func 10) #[] #[], .func (.func 11) #[] #[], .func (.func 12) #[] #[], .func (.func 13) #[] #[]] 32)).heap.size := by simp
        clear KR N11 R12 HB11
        go_upto_region 11 with (first | (go_at_call 13; (with_reducible refine (KR3.out).mono ?_); rintro e _ ⟨_, rfl, ⟨adR, cpR, rfl, hOR⟩, v3, rfl⟩; have HOR := Lib.hid hOR; clear hOR; have R14 : Hid (RowL v3.val gw 29 [.int .i64 0, .slice none 0 0]) := Lib.hid (R13.out.keep v3.below); have d3 : v3.val.cell? ⟨gw, 0, none⟩ = some (.int .i64 0) := R14.out.cell rfl; have d4 : v3.val.frozen? ⟨gw, 0, none⟩ = false := R14.out.fz 0; have d5 : ∀ x : Value, (v3.val.setCell ⟨gw, 0, none⟩ x).cell? ⟨gw, 1, none⟩ = some (.slice none 0 0) := fun x => (R14.out.set 0 x).cell rfl; have d6 : ∀ x : Value, (v3.val.setCell ⟨gw, 0, none⟩ x).frozen? ⟨gw, 1, none⟩ = false := fun x => (R14.out.set 0 x).fz 1) | fail)
        have R15 : Hid (RowL ((v3.val.setCell ⟨gw, 0, none⟩ (.int .i64 na)).setCell ⟨gw, 1, none⟩ (.slice adR xa.length cpR)) gw 29 [.int .i64 na, .slice adR xa.length cpR]) := Lib.hid ((R14.out.set 0 _).set 1 _)
        have N15 : Hid (RowL ((v3.val.setCell ⟨gw, 0, none⟩ (.int .i64 na)).setCell ⟨gw, 1, none⟩ (.slice adR xa.length cpR)) gm 29 [.int .i64 na, .slice ad xa.length cp]) := Lib.hid (rowL_otherB (rowL_otherB (N13.out.keep v3.below) HYg.out.2.2 _) HYg.out.2.2 _)
        have HB15 : Hid (Bel V1 ((v3.val.setCell ⟨gw, 0, none⟩ (.int .i64 na)).setCell ⟨gw, 1, none⟩ (.slice adR xa.length cpR))) := Lib.hid (((HB13.out.up v3).set HYg.out.2.1 _).set HYg.out.2.1 _)
        have HW4 : Hid (∃ w : Later Y.heap.size Y, w.val = ((v3.val.setCell ⟨gw, 0, none⟩ (.int .i64 na)).setCell ⟨gw, 1, none⟩ (.slice adR xa.length cpR))) := Lib.hid ⟨(((w2.alloc _).up v3).set ⟨gw, 0, none⟩ HYg.out.1 _).set ⟨gw, 1, none⟩ HYg.out.1 _, rfl⟩
        have I2 : Hid (IntsAt ((v3.val.setCell ⟨gw, 0, none⟩ (.int .i64 na)).setCell ⟨gw, 1, none⟩ (.slice adR xa.length cpR)).heap.size ((v3.val.setCell ⟨gw, 0, none⟩ (.int .i64 na)).setCell ⟨gw, 1, none⟩ (.slice adR xa.length cpR)) adR xa) := Lib.hid (((HOR.out.set (by omega) _).set (by omega) _).reads)
        have I3 : Hid (IntsAt ((v3.val.setCell ⟨gw, 0, none⟩ (.int .i64 na)).setCell ⟨gw, 1, none⟩ (.slice adR xa.length cpR)).heap.size ((v3.val.setCell ⟨gw, 0, none⟩ (.int .i64 na)).setCell ⟨gw, 1, none⟩ (.slice adR xa.length cpR)) ad xa) := Lib.hid (by
          obtain ⟨w, hw⟩ := HB15.out.later
          rw [← hw]; exact I1.out.to w)
        clear R13 N13 HB13 HW3 R14 d3 d4 d5 d6 HOR HB15 KR3 qg hp2
        generalize ((v3.val.setCell ⟨gw, 0, none⟩ (.int .i64 na)).setCell ⟨gw, 1, none⟩ (.slice adR xa.length cpR)) = W4 at *
        obtain ⟨w4, hw4⟩ := HW4.out
        subst hw4
        clear HW4 v3 hsz
        have KBd := Lib.hid (KB.out w4.val o1 3)
        obtain ⟨f1, hf1⟩ : ∃ f1, f1 = errno o1 3 := ⟨_, rfl⟩
        have t0 : ∀ w : Later w4.val.heap.size w4.val, w.val.cell? ⟨gm, 0, none⟩ = some (.int .i64 na) := fun w => (N15.out.keep w.below).cell rfl
        have t1 : ∀ w : Later w4.val.heap.size w4.val, w.val.cell? ⟨gm, 1, none⟩ = some (.slice ad xa.length cp) := fun w => (N15.out.keep w.below).cell rfl
        have t2 : ∀ w : Later w4.val.heap.size w4.val, w.val.cell? ⟨gw, 0, none⟩ = some (.int .i64 na) := fun w => (R15.out.keep w.below).cell rfl
        have t3 : ∀ w : Later w4.val.heap.size w4.val, w.val.cell? ⟨gw, 1, none⟩ = some (.slice adR xa.length cpR) := fun w => (R15.out.keep w.below).cell rfl
        have KT : Hid (∀ w : Later w4.val.heap.size w4.val, Calls Try.prog 14 #[.agg #[.int .i64 na, .slice ad xa.length cp], .int .i64 e1, .agg #[.int .i64 na, .slice adR xa.length cpR], .int .i64 f1] w.val (Ret w4.val.heap.size w4.val (.bool true))) := Lib.hid (fun w => by
          obtain ⟨b1, b2⟩ := HG1.out (by trivial)
          exact c_told w na na xa xa ad adR cp cpR e1 f1 I3.out I2.out HL1.out (by rw [b1, hf1]) (by
            rw [hf1]
            cases o1
            · rw [if_neg (by decide)]; exact b2 rfl
            · rw [if_pos (by decide)]; exact ⟨rfl, rfl⟩))
        rw [← hf1] at KBd
        clear N15 R15 HG1 HB1 HL1 I1 I2 I3 hf1
        go_wp2_with (first | (go_at_call 4; (with_reducible refine (KBd.out).mono ?_); rintro e _ ⟨rfl, x0, rfl⟩) | (go_at_call 14; (with_reducible refine (KT.out x0).mono ?_); rintro e _ ⟨rfl, x1, rfl⟩) | fail)
        go_roundw
        case rel => exact ⟨3 + 1, w4.up x1, by omega, by first | rfl | trivial | simp, by first | rfl | trivial⟩
        case measure => simp [intOf]
    · have KP := Lib.hid (PRk.out v.val hbv)
      clear P0 P1 P2 P3 R0 R1 R2 R3 HBd HGd HLx PRk QF
      go_upto_region 16 with (first | (go_at_call 15; (with_reducible refine (KP.out).mono ?_); rintro e _ ⟨_, rfl, ⟨ad, cp, rfl, hO⟩, v1, rfl⟩; have HO := Lib.hid hO; clear hO) | fail)
      have I1 : Hid (IntsAt v1.val.heap.size v1.val ad xR) := Lib.hid HO.out.reads
      have HVv : Hid (∃ w : Later Y.heap.size Y, w.val = v1.val) := Lib.hid ⟨v.up v1, rfl⟩
      clear KP HO hbv
      generalize v1.val = V1 at *
      clear v1 v
      have N10 : Hid (RowL (V1.alloc (.cells #[.int .i64 nR, .slice ad xR.length cp] 29)) V1.heap.size 29 [.int .i64 nR, .slice ad xR.length cp]) := Lib.hid (RowL.new _ _ _)
      have I2 : Hid (IntsAt (V1.alloc (.cells #[.int .i64 nR, .slice ad xR.length cp] 29)).heap.size (V1.alloc (.cells #[.int .i64 nR, .slice ad xR.length cp] 29)) ad xR) := Lib.hid (I1.out.to ((Later.self V1).alloc _))
      have HW1 : Hid (∃ w : Later Y.heap.size Y, w.val = (V1.alloc (.cells #[.int .i64 nR, .slice ad xR.length cp] 29))) := Lib.hid (by
        obtain ⟨w, hw⟩ := HVv.out
        exact ⟨w.alloc _, by rw [← hw]; rfl⟩)
      clear I1 HVv
      generalize (V1.alloc (.cells #[.int .i64 nR, .slice ad xR.length cp] 29)) = W1 at *
      generalize V1.heap.size = gm at *
      clear V1
      obtain ⟨w2, hw2⟩ := HW1.out
      subst hw2
      clear HW1
      have hbw : Bel V w2.val := belTr HVY.out (Bel.of w2)
      have t0 : ∀ w : Later w2.val.heap.size w2.val, w.val.cell? ⟨gm, 0, none⟩ = some (.int .i64 nR) := fun w => (N10.out.keep w.below).cell rfl
      have t1 : ∀ w : Later w2.val.heap.size w2.val, w.val.cell? ⟨gm, 1, none⟩ = some (.slice ad xR.length cp) := fun w => (N10.out.keep w.below).cell rfl
      have HUw : Hid (∀ w : Later w2.val.heap.size w2.val, ∃ w' : Later B W, w'.val = w.val) := Lib.hid (fun w => HU.out _ (hbw.up w))
      cases good
      · obtain ⟨b1, b2, b3⟩ := HBR.out rfl
        have KT : Hid (∀ w : Later w2.val.heap.size w2.val, Calls Try.prog 14 #[.agg #[.int .i64 nR, .slice ad xR.length cp], .int .i64 eR, .agg #[.int .i64 0, .slice none 0 0], .int .i64 1] w.val (Ret w2.val.heap.size w2.val (.bool true))) := Lib.hid (fun w => by
          have h1 := c_told w nR 0 xR [] ad none cp 0 eR 1 I2.out IntsAt.nil HLR.out (by rw [b3]) (by rw [if_neg (by decide)]; exact ⟨b1, b2⟩)
          exact h1)
        have HNg : Hid (¬ (0 ≤ n ∧ n ≤ 8 ∧ r.length = bit n.toNat)) := Lib.hid (fun c => by have := HGood.out.2 c; cases this)
        clear b1 b2 b3 N10 I2 HBR HGR HGood HLR RRk
        obtain ⟨z, hz⟩ : ∃ z : Later w2.val.heap.size w2.val, z.val = w2.val := ⟨Later.self _, rfl⟩
        rw [← hz]
        clear hz
        rcases ilt n 0 with ⟨g1, d1⟩ | ⟨g1, d1⟩
        · clear g1
          go_wp2_with (first | (go_at_call 14; (with_reducible refine (KT.out z).mono ?_); rintro e _ ⟨rfl, x1, rfl⟩) | fail)
          go_ret
          obtain ⟨w, hw⟩ := HUw.out x1
          rw [← hw]
          exact Ret.mk w rfl
        rcases ilt 8 n with ⟨g2, d2⟩ | ⟨g2, d2⟩
        · clear g1 g2
          go_wp2_with (first | (go_at_call 14; (with_reducible refine (KT.out z).mono ?_); rintro e _ ⟨rfl, x1, rfl⟩) | fail)
          go_ret
          obtain ⟨w, hw⟩ := HUw.out x1
          rw [← hw]
          exact Ret.mk w rfl
        obtain ⟨m, rfl⟩ := Int.eq_ofNat_of_zero_le g1
        have hbm := bit_le m (by omega)
        have bm := bit_cast m
        have w1 := IntWalk.i64_in (bit m : Int) (by omega)
        have hne : r.length ≠ bit m := fun c => HNg.out ⟨g1, g2, by rw [c]; rfl⟩
        have d3 : ((r.length : Int) != (bit m : Int)) = true := by rw [bne_iff_ne]; omega
        have hm8 : m ≤ 8 := by omega
        clear hne HNg g1 g2
        go_wp2_with (first | (go_at_call 14; (with_reducible refine (KT.out z).mono ?_); rintro e _ ⟨rfl, x1, rfl⟩) | fail)
        go_ret
        obtain ⟨w, hw⟩ := HUw.out x1
        rw [← hw]
        exact Ret.mk w rfl
      · obtain ⟨g1, g2, g3⟩ := HGood.out.1 rfl
        obtain ⟨m, rfl⟩ := Int.eq_ofNat_of_zero_le g1
        have hbm := bit_le m (by omega)
        have bm := bit_cast m
        have w1 := IntWalk.i64_in (bit m : Int) (by omega)
        have hm8 : m ≤ 8 := by omega
        have hrl : r.length = bit m := g3
        have d3 : ((r.length : Int) != (bit m : Int)) = false := by rw [bne_eq_false_iff_eq]; omega
        have d1 : decide ((m : Int) < 0) = false := by rw [decide_eq_false_iff_not]; omega
        have d2 : decide ((8 : Int) < m) = false := by rw [decide_eq_false_iff_not]; omega
        have KR := Lib.hid (RRk.out rfl w2.val hbw)
        clear g1 g2 g3 hrl HGood HBR RRk
        go_upto_region 19 with (first | (go_at_call 16; (with_reducible refine (KR.out).mono ?_); rintro e _ ⟨_, rfl, ⟨adR, cpR, rfl, hOR⟩, v3, rfl⟩; have HOR := Lib.hid hOR; clear hOR) | fail)
        have R13 : Hid (RowL (v3.val.alloc (.cells #[.int .i64 nR, .slice adR xR.length cpR] 29)) v3.val.heap.size 29 [.int .i64 nR, .slice adR xR.length cpR]) := Lib.hid (RowL.new _ _ _)
        have I3 : Hid (IntsAt (v3.val.alloc (.cells #[.int .i64 nR, .slice adR xR.length cpR] 29)).heap.size (v3.val.alloc (.cells #[.int .i64 nR, .slice adR xR.length cpR] 29)) adR xR) := Lib.hid (HOR.out.reads.to ((Later.self v3.val).alloc _))
        have HW3 : Hid (∃ w : Later w2.val.heap.size w2.val, w.val = (v3.val.alloc (.cells #[.int .i64 nR, .slice adR xR.length cpR] 29))) := Lib.hid ⟨v3.alloc _, rfl⟩
        clear HOR KR bm w1 d1 d2 d3
        generalize (v3.val.alloc (.cells #[.int .i64 nR, .slice adR xR.length cpR] 29)) = W3 at *
        generalize v3.val.heap.size = gw at *
        clear v3
        obtain ⟨w3, hw3⟩ := HW3.out
        subst hw3
        clear HW3
        have I4 : Hid (IntsAt w3.val.heap.size w3.val ad xR) := Lib.hid (I2.out.to w3)
        have s0 : ∀ w : Later w3.val.heap.size w3.val, w.val.cell? ⟨gm, 0, none⟩ = some (.int .i64 nR) := fun w => t0 (w3.up w)
        have s1 : ∀ w : Later w3.val.heap.size w3.val, w.val.cell? ⟨gm, 1, none⟩ = some (.slice ad xR.length cp) := fun w => t1 (w3.up w)
        have s2 : ∀ w : Later w3.val.heap.size w3.val, w.val.cell? ⟨gw, 0, none⟩ = some (.int .i64 nR) := fun w => (R13.out.keep w.below).cell rfl
        have s3 : ∀ w : Later w3.val.heap.size w3.val, w.val.cell? ⟨gw, 1, none⟩ = some (.slice adR xR.length cpR) := fun w => (R13.out.keep w.below).cell rfl
        obtain ⟨f1, hf1⟩ : ∃ f1, f1 = errno okR 3 := ⟨_, rfl⟩
        have KBd : Hid (∀ w : Later w3.val.heap.size w3.val, Calls Try.prog 4 #[.bool okR, .int .i64 3] w.val (Ret w3.val.heap.size w3.val (.int .i64 f1))) := Lib.hid (fun w => by rw [hf1]; exact c_bad w okR 3)
        have KT : Hid (∀ w : Later w3.val.heap.size w3.val, Calls Try.prog 14 #[.agg #[.int .i64 nR, .slice ad xR.length cp], .int .i64 eR, .agg #[.int .i64 nR, .slice adR xR.length cpR], .int .i64 f1] w.val (Ret w3.val.heap.size w3.val (.bool true))) := Lib.hid (fun w => by
          obtain ⟨b1, b2⟩ := HGR.out (by trivial)
          exact c_told w nR nR xR xR ad adR cp cpR eR f1 I4.out I3.out HLR.out (by rw [b1, hf1]) (by
            rw [hf1]
            cases okR
            · rw [if_neg (by decide)]; exact b2 rfl
            · rw [if_pos (by decide)]; exact ⟨rfl, rfl⟩))
        have HUz : Hid (∀ w : Later w3.val.heap.size w3.val, ∃ w' : Later B W, w'.val = w.val) := Lib.hid (fun w => HUw.out (w3.up w))
        clear t0 t1 R13 N10 I2 I3 I4 HGR HLR hf1 hbw HU
        obtain ⟨z, hz⟩ : ∃ z : Later w3.val.heap.size w3.val, z.val = w3.val := ⟨Later.self _, rfl⟩
        rw [← hz]
        clear hz
        refine wp_region_later z (by kernel_rfl) (by kernel_rfl) (fun _ => ?_)
        repeat (first | go_big_quiet_step ((first | (go_at_call 4; exact (KBd.out _)) | (go_at_call 14; exact (KT.out _)))) | (refine wpQuiet_step (fun K hK => ?_); go_simp; refine ⟨_, fun _ => rfl, ?_⟩; refine hK _ ?_; clear hK K))
        refine wpQuiet_nil ?_
        intro z
        go_wp2
        go_ret
        obtain ⟨w, hw⟩ := HUz.out z
        rw [← hw]
        exact Ret.mk w rfl
end Go.Proofs.Ytmcffbmhkbijlaa
