
/-
  rotaref.Levels.
-/
import Derived.Test.YtjpcelldbhdneaaFlR2
namespace Go.Proofs.Ytjpcelldbhdneaa
open Go.RowKit
set_option linter.unusedVariables false

/-- two new tables of nought -/
def TwoTabs (V : World) (R : Nat) (x y : Value) (w : World) : Prop := ∃ (ga gb : Nat) (v : Later V.heap.size V), x = .slice (some ⟨ga, 0, none⟩) (R + 1) (R + 1) ∧ y = .slice (some ⟨gb, 0, none⟩) (R + 1) (R + 1) ∧ w = v.val ∧ ITab v.val ga (R + 1) (fun _ => 0) ∧ ITab v.val gb (R + 1) (fun _ => 0) ∧ ga ≠ gb ∧ V.heap.size ≤ ga ∧ V.heap.size ≤ gb
theorem TwoTabs.one {V : World} {R : Nat} (y : Later V.heap.size V) (y2 : Later (y.val.alloc (.cells (madeCells #[.int .i64 0] (R + 1)) 3)).heap.size (y.val.alloc (.cells (madeCells #[.int .i64 0] (R + 1)) 3))) : TwoTabs V R (.slice (some ⟨y.val.heap.size, 0, none⟩) (R + 1) (R + 1)) (.slice (some ⟨y2.val.heap.size, 0, none⟩) (R + 1) (R + 1)) (y2.val.alloc (.cells (madeCells #[.int .i64 0] (R + 1)) 3)) := by
  have h1 := y.size
  have h2 := y2.size
  simp at h2
  exact ⟨_, _, ((y.alloc _).up y2).alloc _, rfl, rfl, rfl, ((ITab.made y.val (R + 1)).keep y2.below).keep ((Below.refl _ _).alloc (Nat.le_refl _) _), ITab.made y2.val (R + 1), by omega, h1, by omega⟩
theorem TwoTabs.two {V : World} {R : Nat} (y : Later V.heap.size V) (y2 : Later y.val.heap.size y.val) : TwoTabs V R (.slice (some ⟨y2.val.heap.size, 0, none⟩) (R + 1) (R + 1)) (.slice (some ⟨y2.val.heap.size + 1, 0, none⟩) (R + 1) (R + 1)) ((y2.val.alloc (.cells (madeCells #[.int .i64 0] (R + 1)) 3)).alloc (.cells (madeCells #[.int .i64 0] (R + 1)) 3)) := by
  have h1 := y.size
  have h2 := y2.size
  refine ⟨_, _, ((y.up y2).alloc _).alloc _, rfl, rfl, rfl, (ITab.made y2.val (R + 1)).keep ((Below.refl _ _).alloc (Nat.le_refl _) _), ?_, by omega, by omega, by omega⟩
  have h3 := ITab.made (y2.val.alloc (.cells (madeCells #[.int .i64 0] (R + 1)) 3)) (R + 1)
  have h4 : (y2.val.alloc (.cells (madeCells #[.int .i64 0] (R + 1)) 3)).heap.size = y2.val.heap.size + 1 := by simp
  rw [h4] at h3
  exact h3
theorem TwoTabs.swap {V : World} {R : Nat} {x y : Value} {w : World} (h : TwoTabs V R x y w) : TwoTabs V R y x w := by
  obtain ⟨ga, gb, v, h1, h2, h3, h4, h5, h6, h7, h8⟩ := h
  exact ⟨gb, ga, v, h2, h1, h3, h5, h4, Ne.symm h6, h8, h7⟩

set_option maxRecDepth 100000 in
set_option maxHeartbeats 8000000 in
theorem c_refLevels {B : Nat} {W : World} (u : Later B W) (m : Nat) (hm : m ≤ 8) (L : List Nat) (a : Option Addr) (cap : Nat) (h : IntsAt B W a (ints L)) (hlen : (ints L).length ≤ 4611686018427387904) (hf : isFam (m : Int) (ints L)) (hTN : toN (ints L) = L) (h256 : ∀ b, b ∈ L → b < 256) (hR : ∀ s, s < bit m → rk L s ≤ rk L (bit m - 1)) (F FL : List Nat) (hFe : those m (flatR (those m (circB m L))) = F) (hFL : those m (freeB L) = FL) (hFb : ∀ i, i < F.length → F.getD i 0 < bit m) (hFLb : ∀ i, i < FL.length → FL.getD i 0 < bit m ∧ sz (FL.getD i 0) ≤ rk L (bit m - 1)) (hFl : F.length ≤ 256) (hFLl : FL.length ≤ 256) :
    Calls Try.prog 68 #[.agg #[.int .i64 m, .slice a (ints L).length cap]] u.val (RetP B W (fun v w => ∃ g2 g3, v = .tuple #[.slice (some ⟨g2, 0, none⟩) (rk L (bit m - 1) + 1) (rk L (bit m - 1) + 1), .slice (some ⟨g3, 0, none⟩) (rk L (bit m - 1) + 1) (rk L (bit m - 1) + 1)] ∧ ITab w g2 (rk L (bit m - 1) + 1) (lvTo F L F.length) ∧ ITab w g3 (rk L (bit m - 1) + 1) (fun d => isum (fun i => if sz (FL.getD i 0) = d then 1 else 0) FL.length))) := by
  have hb := bit_le m hm
  have HR := Lib.hid hR
  have hR8 := rk_le8 L (bit m - 1)
  have T0 : Hid (Two (u.val.alloc (.cells #[.int .i64 m, .slice a (ints L).length cap] 24)) u.val.heap.size 24 (.int .i64 m) (.slice a (ints L).length cap)) := Lib.hid (Two.new _ _ _ _)
  have hrr : u.val.heap.size < (u.val.alloc (.cells #[.int .i64 m, .slice a (ints L).length cap] 24)).heap.size := by simp
  have hI : IntsAt (u.val.alloc (.cells #[.int .i64 m, .slice a (ints L).length cap] 24)).heap.size (u.val.alloc (.cells #[.int .i64 m, .slice a (ints L).length cap] 24)) a (ints L) := h.to (u.alloc _)
  have HV : Hid (∀ v : Later (u.val.alloc (.cells #[.int .i64 m, .slice a (ints L).length cap] 24)).heap.size (u.val.alloc (.cells #[.int .i64 m, .slice a (ints L).length cap] 24)), ∃ w : Later B W, w.val = v.val) := Lib.hid (fun v => ⟨(u.alloc _).up v, rfl⟩)
  have q0 : ∀ w : Later (u.val.alloc (.cells #[.int .i64 m, .slice a (ints L).length cap] 24)).heap.size (u.val.alloc (.cells #[.int .i64 m, .slice a (ints L).length cap] 24)), w.val.cell? ⟨u.val.heap.size, 0, none⟩ = some (.int .i64 m) := fun w => (T0.out.keep w.below).c0
  have q1 : ∀ w : Later (u.val.alloc (.cells #[.int .i64 m, .slice a (ints L).length cap] 24)).heap.size (u.val.alloc (.cells #[.int .i64 m, .slice a (ints L).length cap] 24)), w.val.cell? ⟨u.val.heap.size, 1, none⟩ = some (.slice a (ints L).length cap) := fun w => (T0.out.keep w.below).c1
  have p0 : (u.val.alloc (.cells #[.int .i64 m, .slice a (ints L).length cap] 24)).cell? ⟨u.val.heap.size, 0, none⟩ = some (.int .i64 m) := T0.out.c0
  have p1 : (u.val.alloc (.cells #[.int .i64 m, .slice a (ints L).length cap] 24)).cell? ⟨u.val.heap.size, 1, none⟩ = some (.slice a (ints L).length cap) := T0.out.c1
  have K0 := Lib.hid (show Calls Try.prog 16 #[.agg #[.int .i64 m, .slice a (ints L).length cap]] (u.val.alloc (.cells #[.int .i64 m, .slice a (ints L).length cap] 24)) _ from c_refRanks (Later.self (u.val.alloc (.cells #[.int .i64 m, .slice a (ints L).length cap] 24))) m hm (ints L) a cap hI hlen hf)
  rw [hTN] at K0
  have hmk := mk_tab1 (rk L (bit m - 1)) (by omega)
  go_enter Try.func68, Try.ntmps68
  go_upto_region 2 with (first | (go_at_call 16; ((with_reducible refine (K0.out).mono ?_); rintro e _ ⟨_, rfl, ⟨g, c, rfl, hT⟩, v1, rfl⟩)))
  have HT := Lib.hid hT
  have hgV : g < v1.val.heap.size := hT.lt
  have hIV : IntsAt v1.val.heap.size v1.val a (ints L) := hI.to v1
  have r0 : ∀ w : Later v1.val.heap.size v1.val, w.val.cell? ⟨u.val.heap.size, 0, none⟩ = some (.int .i64 m) := fun w => q0 (v1.up w)
  have r1 : ∀ w : Later v1.val.heap.size v1.val, w.val.cell? ⟨u.val.heap.size, 1, none⟩ = some (.slice a (ints L).length cap) := fun w => q1 (v1.up w)
  have HVB : Hid (∀ v : Later v1.val.heap.size v1.val, ∃ w : Later B W, w.val = v.val) := Lib.hid (fun v => HV.out (v1.up v))
  clear K0 q0 q1 p0 p1 HV T0 hrr hT hI h
  generalize u.val.heap.size = gu at *
  generalize v1.val = V at *
  have KA : Hid (∀ (B : Nat) (W : World) (v : Later B W), Calls Try.prog 123 #[.int .i64 m] v.val (Ret B W (.int .i64 ((bit m - 1 : Nat) : Int)))) := Lib.hid (fun B W v => by
    have := c_all v (m : Int) (by omega) (by omega)
    rwa [all_nat] at this)
  have hcR : ∀ w : Later V.heap.size V, w.val.cell? ⟨g, bit m - 1, none⟩ = some (.int .i64 (rk L (bit m - 1) : Int)) := fun w => (HT.out.keep w.below).cell (by omega)
  generalize hRk : rk L (bit m - 1) = R at *
  have hbi : bit m - 1 < bit m := by omega
  have hw1 := IntWalk.i64_in ((R : Int) + 1) (by omega)
  have s0 : V.drew.cell? ⟨gu, 0, none⟩ = some (.int .i64 m) ∧ V.drew.cell? ⟨g, bit m - 1, none⟩ = some (.int .i64 (R : Int)) := ⟨r0 (Later.self V).drew, hcR (Later.self V).drew⟩
  have KAd : Hid (Calls Try.prog 123 #[.int .i64 m] V.drew (Ret V.heap.size V (.int .i64 ((bit m - 1 : Nat) : Int)))) := Lib.hid (KA.out _ _ (Later.self V).drew)
  have sa : ∀ y : Later V.heap.size V, y.val.cell? ⟨gu, 0, none⟩ = some (.int .i64 m) ∧ y.val.cell? ⟨g, bit m - 1, none⟩ = some (.int .i64 (R : Int)) := fun y => ⟨r0 y, hcR y⟩
  go_upto_region 3 with fail
  go_cut [2, 3] from 10 to 66 (fun x y w => TwoTabs V R x y w)
  case first => as_aux_lemma =>
    go_region_held3 (fun w' => w'.cell? ⟨gu, 0, none⟩ = some (.int .i64 m) ∧ w'.cell? ⟨g, bit m - 1, none⟩ = some (.int .i64 (R : Int))) (first | exact s0 | exact sa y | exact sa (y.alloc _) | exact sa (y.up y2) | exact sa ((y.alloc _).up y2) | exact sa ((y.up y2).alloc _) | exact sa (((y.alloc _).up y2).alloc _) | exact sa (((y.up y2).alloc _).alloc _)) (first | (go_at_call 123; ((with_reducible refine (KAd.out).mono ?_); rintro e _ ⟨rfl, y, rfl⟩)) | (go_at_call 123; ((refine (KA.out _ _ (Later.self y.val)).mono ?_); rintro e _ ⟨rfl, y2, rfl⟩)) | (go_at_call 123; ((refine (KA.out _ _ (Later.self (y.val.alloc (.cells (madeCells #[.int .i64 0] (R + 1)) 3)))).mono ?_); rintro e _ ⟨rfl, y2, rfl⟩)))
    all_goals
      go_wp2
      go_meet
      case rel => first | exact TwoTabs.one y y2 | exact TwoTabs.two y y2 | exact (TwoTabs.two y y2).swap
  case rest => as_aux_lemma =>
    obtain ⟨g2, g3, y, rfl, rfl, rfl, hT2, hT3, hne, hB2, hB3⟩ := hcut
    have HT2 := Lib.hid hT2; have HT3 := Lib.hid hT3
    have KF : Hid (∀ v : Later V.heap.size V, Calls Try.prog 17 #[.agg #[.int .i64 m, .slice a (ints L).length cap]] v.val (RetOwn v.val.heap.size v.val (ints F))) := Lib.hid (fun v => by rw [← hFe]; exact c_refFlatsO (Later.self v.val) m hm L h256 (by rw [ints_len] at hlen; exact hlen) a cap (hIV.to v))
    have KL : Hid (∀ v : Later V.heap.size V, Calls Try.prog 14 #[.agg #[.int .i64 m, .slice a (ints L).length cap]] v.val (RetOwn v.val.heap.size v.val (ints FL))) := Lib.hid (fun v => by rw [← hFL]; exact c_freeO (Later.self v.val) m hm L h256 (by rw [ints_len] at hlen; exact hlen) a cap (hIV.to v))
    have HFb := Lib.hid hFb; have HFLb := Lib.hid hFLb
    have hg2y : g2 < y.val.heap.size := hT2.lt
    have hg3y : g3 < y.val.heap.size := hT3.lt
    clear hT2 hT3 hFe hFL hFb hFLb KA s0 KAd sa hcR hIV h256 hR
    go_wp2_with (first | (go_at_call 17; (with_reducible refine (threadP y (KF.out y)).mono ?_); rintro e _ ⟨y1, _, rfl, rfl, ⟨ad1, cp1, rfl, hO1⟩, hb1⟩))
    have HO := Lib.hid hO1
    have HB1 : Hid (y.val.heap.size ≤ y1.val.heap.size) := Lib.hid hb1.size
    have HT2' := Lib.hid (HT2.out.keep hb1); have HT3' := Lib.hid (HT3.out.keep hb1)
    clear hO1 hb1 HT2 HT3 KF
    generalize y.val.heap.size = By at *
    clear y
    rw [ints_len F]
    have hil := ints_len F
    go_loopw [6] (fun i wr => ∃ (k : Nat) (v : Later V.heap.size V), k ≤ F.length ∧ i = .int .i64 k ∧ wr = v.val ∧ Hid (ITab v.val g2 (R + 1) (lvTo F L k)) ∧ Hid (ITab v.val g3 (R + 1) (fun _ => 0)) ∧ Hid (Own By v.val ad1 cp1 (ints F)) ∧ By ≤ v.val.heap.size) (fun i _ => F.length - (intOf i).toNat)
    case atStart => exact ⟨0, y1, by omega, rfl, rfl, Lib.hid (HT2'.out.congr (fun j _ => rfl)), HT3', HO, HB1.out⟩
    case round =>
      clear y1 HT2' HT3' HO HB1
      obtain ⟨k, v, hk, rfl, rfl, HT2, HT3, HO, hBv⟩ := hrel
      by_cases hlt : k < F.length
      · obtain ⟨bb, off, rfl, hbB, hcell⟩ := HO.out.reads.at (k := k) (by rw [ints_len]; exact hlt)
        have c0 : v.val.cell? ⟨bb, off + k, none⟩ = some (.int .i64 ((F.getD k 0 : Nat) : Int)) := by rw [← ints_getD]; exact hcell (Later.self v.val) k (by rw [ints_len]; exact hlt)
        have hfk := HFb.out k hlt
        have c1 : v.val.cell? ⟨g, F.getD k 0, none⟩ = some (.int .i64 (rk L (F.getD k 0) : Int)) := (HT.out.keep v.below).cell hfk
        have hrR := HR.out (F.getD k 0) hfk
        have hrR2 : rk L (F.getD k 0) < R + 1 := by omega
        have c2 := HT2.out.cell hrR2
        have c3 := HT2.out.frozen (rk L (F.getD k 0))
        have hb1 := lvTo_le F L k (rk L (F.getD k 0))
        have HN : Hid (ITab (v.val.setCell ⟨g2, rk L (F.getD k 0), none⟩ (.int .i64 (lvTo F L k (rk L (F.getD k 0)) + 1))) g2 (R + 1) (lvTo F L (k + 1))) := Lib.hid (HT2.out.set _ _ (fun j _ => lvTo_step F L k j))
        have HN3 : Hid (∀ (i : Nat) (x : Value), ITab (v.val.setCell ⟨g2, i, none⟩ x) g3 (R + 1) (fun _ => 0)) := Lib.hid (fun i x => HT3.out.other (Ne.symm hne) x)
        have HNO : Hid (∀ (i : Nat) (x : Value), Own By (v.val.setCell ⟨g2, i, none⟩ x) (some ⟨bb, off, none⟩) cp1 (ints F)) := Lib.hid (fun i x => HO.out.set hg2y x)
        clear hcell HT2 HT3 HO
        have hw := IntWalk.i64_in (lvTo F L k (rk L (F.getD k 0)) + 1) (by omega)
        have hb2 : Hid (rk L (F.getD k 0) ≤ 8) := Lib.hid (rk_le8 L _)
        generalize lvTo F L k (rk L (F.getD k 0)) = q at *
        generalize rk L (F.getD k 0) = p at *
        generalize F.getD k 0 = f at *
        go_wp2
        go_roundw
        case rel => exact ⟨k+1, v.set ⟨g2, p, none⟩ hB2 _, by omega, by go_num, rfl, HN, Lib.hid (HN3.out p _), Lib.hid (HNO.out p _), by show By ≤ (World.setCell _ _ _).heap.size; simp; exact hBv⟩
        case measure => simp [intOf]; omega
      · have hke : Hid (k = F.length) := Lib.hid (by omega)
        rw [hke.out] at HT2
        clear HO HFb
        go_wp2_with (first | (go_at_call 14; (with_reducible refine (threadP v (KL.out v)).mono ?_); rintro e _ ⟨y1, _, rfl, rfl, ⟨ad2, cp2, rfl, hO1⟩, hb1⟩))
        have HO := Lib.hid hO1
        have HB1 : Hid (v.val.heap.size ≤ y1.val.heap.size) := Lib.hid hb1.size
        have HT2' := Lib.hid (HT2.out.keep hb1); have HT3' := Lib.hid (HT3.out.keep hb1)
        clear hO1 hb1 HT2 HT3 KL
        have hg3v : g3 < v.val.heap.size := by omega
        generalize v.val.heap.size = Bv at *
        clear v
        rw [ints_len FL]
        have hil := ints_len FL
        go_loopw [7] (fun i wr => ∃ (k : Nat) (v : Later V.heap.size V), k ≤ FL.length ∧ i = .int .i64 k ∧ wr = v.val ∧ Hid (ITab v.val g2 (R + 1) (lvTo F L F.length)) ∧ Hid (ITab v.val g3 (R + 1) (fun d => isum (fun i => if sz (FL.getD i 0) = d then 1 else 0) k)) ∧ Hid (Own Bv v.val ad2 cp2 (ints FL))) (fun i _ => FL.length - (intOf i).toNat)
        case atStart => exact ⟨0, y1, by omega, rfl, rfl, HT2', Lib.hid (HT3'.out.congr (fun j _ => rfl)), HO⟩
        case round =>
          clear y1 HT2' HT3' HO HB1
          obtain ⟨k, v, hk, rfl, rfl, HT2, HT3, HO⟩ := hrel
          by_cases hlt : k < FL.length
          · obtain ⟨bb, off, rfl, hbB, hcell⟩ := HO.out.reads.at (k := k) (by rw [ints_len]; exact hlt)
            obtain ⟨hfk, hszR⟩ := HFLb.out k hlt
            have hszR2 : sz (FL.getD k 0) < R + 1 := by omega
            have c0 : ∀ y : Later v.val.heap.size v.val, y.val.cell? ⟨bb, off + k, none⟩ = some (.int .i64 ((FL.getD k 0 : Nat) : Int)) := fun y => by rw [← ints_getD]; exact hcell y k (by rw [ints_len]; exact hlt)
            have HTw : Hid (∀ y : Later v.val.heap.size v.val, ITab y.val g3 (R + 1) (fun d => isum (fun i => if sz (FL.getD i 0) = d then 1 else 0) k)) := Lib.hid (fun y => HT3.out.keep y.below)
            have c2 : ∀ y : Later v.val.heap.size v.val, y.val.cell? ⟨g3, sz (FL.getD k 0), none⟩ = some (.int .i64 (isum (fun i => if sz (FL.getD i 0) = sz (FL.getD k 0) then 1 else 0) k)) := fun y => (HTw.out y).cell hszR2
            have c3 : ∀ y : Later v.val.heap.size v.val, y.val.frozen? ⟨g3, sz (FL.getD k 0), none⟩ = false := fun y => (HTw.out y).frozen _
            have KS := Lib.hid (fun y : Later v.val.heap.size v.val => c_size y (FL.getD k 0) (by omega))
            have hb1 := isum_le (b := 1) (n := k) (f := fun i => if sz (FL.getD i 0) = sz (FL.getD k 0) then 1 else 0) (fun i _ => by
              show -((1 : Nat) : Int) ≤ (if _ then _ else _) ∧ (if _ then _ else _) ≤ ((1 : Nat) : Int)
              split <;> decide)
            rw [Nat.mul_one] at hb1
            have HN : Hid (∀ w : World, ITab w g3 (R + 1) (fun d => isum (fun i => if sz (FL.getD i 0) = d then 1 else 0) k) → ITab (w.setCell ⟨g3, sz (FL.getD k 0), none⟩ (.int .i64 (isum (fun i => if sz (FL.getD i 0) = sz (FL.getD k 0) then 1 else 0) k + 1))) g3 (R + 1) (fun d => isum (fun i => if sz (FL.getD i 0) = d then 1 else 0) (k + 1))) := Lib.hid (fun w h => h.set _ _ (fun j _ => by
              simp only [isum]
              by_cases c : j = sz (FL.getD k 0)
              · subst c; rw [if_pos rfl, if_pos rfl]
              · rw [if_neg (Ne.symm c), if_neg c, Int.add_zero]))
            have HN2 : Hid (∀ (y : Later v.val.heap.size v.val) (i : Nat) (x : Value), ITab (y.val.setCell ⟨g3, i, none⟩ x) g2 (R + 1) (lvTo F L F.length)) := Lib.hid (fun y i x => (HT2.out.keep y.below).other hne x)
            have HNO : Hid (∀ (y : Later v.val.heap.size v.val) (i : Nat) (x : Value), Own Bv (y.val.setCell ⟨g3, i, none⟩ x) (some ⟨bb, off, none⟩) cp2 (ints FL)) := Lib.hid (fun y i x => (HO.out.keep y.below).set hg3v x)
            clear hcell HT2 HT3 HO
            have hw := IntWalk.i64_in (isum (fun i => if sz (FL.getD i 0) = sz (FL.getD k 0) then 1 else 0) k + 1) (by omega)
            have hz8 := sz_le (FL.getD k 0)
            generalize isum (fun i => if sz (FL.getD i 0) = sz (FL.getD k 0) then 1 else 0) k = q at *
            generalize sz (FL.getD k 0) = p at *
            generalize FL.getD k 0 = f at *
            obtain ⟨y, hy⟩ : ∃ y : Later v.val.heap.size v.val, y.val = v.val := ⟨Later.self _, rfl⟩
            rw [← hy]
            clear hy
            go_wp2_with (first | (go_at_call 44; ((with_reducible refine (KS.out _).mono ?_); rintro e _ ⟨rfl, y, rfl⟩)))
            go_roundw
            case rel => exact ⟨k+1, (v.up y).set ⟨g3, p, none⟩ hB3 _, by omega, by go_num, rfl, Lib.hid (HN2.out y p _), Lib.hid (HN.out _ (HTw.out y)), Lib.hid (HNO.out y p _)⟩
            case measure => simp [intOf]; omega
          · have hke : Hid (k = FL.length) := Lib.hid (by omega)
            go_wp2
            go_ret2
            rw [hke.out] at HT3
            rw [hRk]
            exact RetP.of (HVB.out v) ⟨g2, g3, rfl, HT2.out, HT3.out⟩

end Go.Proofs.Ytjpcelldbhdneaa
