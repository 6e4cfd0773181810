
/-
  field.inverse, field.twin.
-/
import Derived.Test.YtffnpokceomncaaMxO
import Derived.Test.YtffnpokceomncaaRowL
import Derived.Deep.RegionLaw
import Derived.Deep.CutRange
namespace Go.Proofs.Ytffnpokceomncaa
open Go.RowKit
set_option linter.unusedVariables false

theorem exists_least {P : Nat → Prop} : ∀ b, P b → ∃ c, P c ∧ ∀ k, k < c → ¬ P k := by
  intro b
  induction b using Nat.strongRecOn with
  | _ b ih =>
    intro hb
    by_cases h : ∃ k, k < b ∧ P k
    · obtain ⟨k, h1, h2⟩ := h
      exact ih k h1 h2
    · exact ⟨b, hb, fun k hk hP => h ⟨k, hk, hP⟩⟩
theorem inv_first {p : Nat} (hp : PrimeP p) (a : Nat) (ha : a < 8) (h0 : 0 < a) (h1 : a < p) : ∃ b, b < 8 ∧ 0 < b ∧ b < p ∧ a * b % p = 1 ∧ ∀ k, k < b → 0 < k → a * k % p ≠ 1 := by
  obtain ⟨b, h2, h3, h4, h5⟩ := inv_nat hp a ha h0 h1
  obtain ⟨c, ⟨c1, c2, c3⟩, c4⟩ := exists_least (P := fun b => 0 < b ∧ b < p ∧ a * b % p = 1) b ⟨h3, h4, h5⟩
  have := hp.le
  exact ⟨c, by omega, c1, c2, c3, fun k hk hk0 e => c4 k hk ⟨hk0, by omega, e⟩⟩
set_option maxHeartbeats 1000000 in
theorem c_fieldInverse (a p : Nat) (hp : PrimeP p) (h0 : 0 < a) (h1 : a < p) : ∃ b : Nat, b < p ∧ ((a : Int) * b) % (p : Int) = 1 ∧ ∀ {B : Nat} {W : World} (u : Later B W),
    Calls Try.prog 35 #[.int .i64 a, .int .i64 p] u.val (Ret B W (.int .i64 b)) := by
  have hp7 := hp.le
  obtain ⟨b0, _, hb0, hbp, hb, hfirst⟩ := inv_first hp a (by omega) h0 h1
  refine ⟨b0, hbp, ?_, ?_⟩
  · rw [show ((a : Int) * b0) = ((a * b0 : Nat) : Int) by simp]
    have : ((a * b0 : Nat) : Int) % (p : Int) = ((a * b0 % p : Nat) : Int) := rfl
    rw [this, hb]; rfl
  intro B W u
  go_enter Try.func35, Try.ntmps35
  go_wp2
  go_loopw [5] (fun i wr => ∃ (k : Nat) (v : Later B W), 1 ≤ k ∧ k ≤ b0 ∧ i = .int .i64 k ∧ wr = v.val) (fun i _ => p - (intOf i).toNat)
  case atStart => exact ⟨1, u, by omega, by omega, by simp, rfl⟩
  case round =>
    obtain ⟨k, v, hk1, hk2, rfl, rfl⟩ := hrel
    have hkp : k < p := by omega
    have hm : a * k < 64 := by
      have := Nat.mul_lt_mul'' (show a < 8 by omega) (show k < 8 by omega)
      omega
    have w1 := IntWalk.i64_in ((a : Int) * k) (by
      have e : ((a : Int) * k) = ((a * k : Nat) : Int) := by simp
      omega)
    have e1 : ((a : Int) * k).tmod (p : Int) = ((a * k % p : Nat) : Int) := by
      rw [show ((a : Int) * k) = ((a * k : Nat) : Int) by simp]
      rfl
    have hp0 : (p : Int) ≠ 0 := by omega
    have hml : a * k % p < p := Nat.mod_lt _ (by omega)
    have HF := Lib.hid (hfirst k)
    have hcase : k = b0 ∨ k < b0 := by omega
    rcases hcase with rfl | hlt
    · rw [hb] at e1
      have tm : Int.tmod ((a : Int) * k) (p : Int) = 1 := by simpa using e1
      clear e1 hfirst hb HF hml
      go_wp2
      go_ret
      exact Ret.mk v rfl
    · have hne := HF.out hlt (by omega)
      clear hb hfirst HF
      generalize hr : a * k % p = rr at *
      have f1 : ((rr : Int) == 1) = false := by rw [beq_eq_false_iff_ne]; omega
      have f2 : (rr == 1) = false := by rw [beq_eq_false_iff_ne]; exact hne
      clear hr
      go_wp2
      go_roundw
      case rel => exact ⟨k + 1, v, by omega, by omega, by go_num, by trivial⟩
      case measure => simp [intOf]; omega

theorem rowO_of_own {B : Nat} {w : World} {ad : Option Addr} {cp C : Nat} {xs : List Int} (h : Own B w ad cp xs) (hC : xs.length = C) : ∃ rr, RowO B w C ad rr cp (fun j => xs.getD j 0) ∧ (0 < C → B ≤ rr) := by
  by_cases h0 : 0 < C
  · obtain ⟨g, rfl⟩ := own_some h (by rintro rfl; simp at hC; omega)
    have e : tabL C (fun j => xs.getD j 0) = xs := by
      apply List.ext_getElem
      · rw [tabL_len, hC]
      · intro k h1 h2
        simp [tabL, List.getElem?_eq_getElem h2]
    exact ⟨g, ⟨fun _ => rfl, fun _ => by rw [e]; exact h, fun e => by cases e⟩, fun _ => h.ltL.1⟩
  · exact ⟨0, ⟨fun h => absurd h h0, fun h => absurd h h0, h.cap⟩, fun h => absurd h h0⟩
theorem RowO.mono {B B' : Nat} {w : World} {C : Nat} {hd : Option Addr} {r cp : Nat} {Q : Nat → Int} (h : RowO B w C hd r cp Q) (hb : B' ≤ B) : RowO B' w C hd r cp Q := ⟨h.hdr, fun hC => (h.row hC).mono hb, h.nil⟩

set_option maxRecDepth 100000 in
set_option maxHeartbeats 8000000 in
theorem c_twin {B : Nat} {W : World} (u : Later B W) (p c : Int) (rows : Lls) (a : Option Addr) (cap C : Nat) (h : RowsI B W a rows) (hN : rows.length ≤ 6) (hC : C ≤ 8) (hrl : ∀ i, i < rows.length → (rows.getD i []).length = C) :
    Calls Try.prog 34 #[.agg #[.int .i64 p, .int .i64 c, .slice a rows.length cap]] u.val (RetP B W (fun v w => ∃ ad gc hd r cp, v = .agg #[.int .i64 p, .int .i64 c, .slice ad rows.length gc] ∧ Mtx B w ad gc rows.length C hd r cp (ent rows))) := by
  have hB := u.size
  have hs0 : (u.val.alloc (.cells #[.int .i64 p, .int .i64 c, .slice a rows.length cap] 24)).heap.size = u.val.heap.size + 1 := by simp
  have hs1 : ((u.val.alloc (.cells #[.int .i64 p, .int .i64 c, .slice a rows.length cap] 24)).alloc (.cells #[.int .i64 0, .int .i64 0, .slice none 0 0] 24)).heap.size = u.val.heap.size + 1 + 1 := by simp
  have T0 : Hid (RowL (((u.val.alloc (.cells #[.int .i64 p, .int .i64 c, .slice a rows.length cap] 24)).alloc (.cells #[.int .i64 0, .int .i64 0, .slice none 0 0] 24)).alloc (.cells #[.int .i64 p, .int .i64 c, .slice none 0 0] 24)) u.val.heap.size 24 [.int .i64 p, .int .i64 c, .slice a rows.length cap]) := Lib.hid (((RowL.new u.val 24 _).keep ((Below.refl _ _).alloc (Nat.le_refl _) _)).keep ((Below.refl _ _).alloc (Nat.le_refl _) _))
  have T1 : Hid (RowL (((u.val.alloc (.cells #[.int .i64 p, .int .i64 c, .slice a rows.length cap] 24)).alloc (.cells #[.int .i64 0, .int .i64 0, .slice none 0 0] 24)).alloc (.cells #[.int .i64 p, .int .i64 c, .slice none 0 0] 24)) (u.val.heap.size + 1) 24 [.int .i64 0, .int .i64 0, .slice none 0 0]) := Lib.hid (by
    have h := (RowL.new (u.val.alloc (.cells #[.int .i64 p, .int .i64 c, .slice a rows.length cap] 24)) 24 [.int .i64 0, .int .i64 0, .slice none 0 0]).keep ((Below.refl _ _).alloc (Nat.le_refl _) (.cells #[.int .i64 p, .int .i64 c, .slice none 0 0] 24))
    rwa [hs0] at h)
  have T2 : Hid (RowL (((u.val.alloc (.cells #[.int .i64 p, .int .i64 c, .slice a rows.length cap] 24)).alloc (.cells #[.int .i64 0, .int .i64 0, .slice none 0 0] 24)).alloc (.cells #[.int .i64 p, .int .i64 c, .slice none 0 0] 24)) (u.val.heap.size + 1 + 1) 24 [.int .i64 p, .int .i64 c, .slice none 0 0]) := Lib.hid (by
    have h := RowL.new ((u.val.alloc (.cells #[.int .i64 p, .int .i64 c, .slice a rows.length cap] 24)).alloc (.cells #[.int .i64 0, .int .i64 0, .slice none 0 0] 24)) 24 [.int .i64 p, .int .i64 c, .slice none 0 0]
    rwa [hs1] at h)
  have HZ : Hid ((((u.val.alloc (.cells #[.int .i64 p, .int .i64 c, .slice a rows.length cap] 24)).alloc (.cells #[.int .i64 0, .int .i64 0, .slice none 0 0] 24)).alloc (.cells #[.int .i64 p, .int .i64 c, .slice none 0 0] 24)).heap.size = u.val.heap.size + 1 + 1 + 1) := Lib.hid (by simp)
  have HV : Hid (∀ v : Later (u.val.heap.size + 1 + 1) (((u.val.alloc (.cells #[.int .i64 p, .int .i64 c, .slice a rows.length cap] 24)).alloc (.cells #[.int .i64 0, .int .i64 0, .slice none 0 0] 24)).alloc (.cells #[.int .i64 p, .int .i64 c, .slice none 0 0] 24)), ∀ w : World, Below (u.val.heap.size + 1) v.val w → ∃ x : Later B W, x.val = w) := Lib.hid (fun v w hb => ⟨⟨w, ((((u.alloc _).alloc _).alloc _).below.trans (v.below.mono (by omega))).trans (hb.mono (by omega)), by have := v.size; have := hb.size; omega⟩, rfl⟩)
  have HR : Hid (RowsI (((u.val.alloc (.cells #[.int .i64 p, .int .i64 c, .slice a rows.length cap] 24)).alloc (.cells #[.int .i64 0, .int .i64 0, .slice none 0 0] 24)).alloc (.cells #[.int .i64 p, .int .i64 c, .slice none 0 0] 24)).heap.size (((u.val.alloc (.cells #[.int .i64 p, .int .i64 c, .slice a rows.length cap] 24)).alloc (.cells #[.int .i64 0, .int .i64 0, .slice none 0 0] 24)).alloc (.cells #[.int .i64 p, .int .i64 c, .slice none 0 0] 24)) a rows) := Lib.hid (h.to (((u.alloc _).alloc _).alloc _))
  have HRo : Hid (RowsI B (((u.val.alloc (.cells #[.int .i64 p, .int .i64 c, .slice a rows.length cap] 24)).alloc (.cells #[.int .i64 0, .int .i64 0, .slice none 0 0] 24)).alloc (.cells #[.int .i64 p, .int .i64 c, .slice none 0 0] 24)) a rows) := Lib.hid (h.later (((u.alloc _).alloc _).alloc _).below)
  have HRl := Lib.hid hrl
  clear h hrl hs0 hs1
  go_enter Try.func34, Try.ntmps34
  go_upto_region 2 with fail
  generalize (((u.val.alloc (.cells #[.int .i64 p, .int .i64 c, .slice a rows.length cap] 24)).alloc (.cells #[.int .i64 0, .int .i64 0, .slice none 0 0] 24)).alloc (.cells #[.int .i64 p, .int .i64 c, .slice none 0 0] 24)) = X at *
  generalize u.val.heap.size = g0 at *
  have hgB : B ≤ g0 := hB
  clear u hB
  have q2 : ∀ v : Later (g0 + 1 + 1) X, v.val.cell? ⟨g0, 2, none⟩ = some (.slice a rows.length cap) := fun v => (T0.out.keep_at v.below (by omega)).cell rfl
  obtain ⟨z, hz⟩ : ∃ z : Later (g0 + 1 + 1) X, z.val = X := ⟨⟨X, Below.refl _ _, by rw [HZ.out]; omega⟩, rfl⟩
  have q2z := q2 z
  rw [hz] at q2z
  go_wp2
  clear q2z
  go_loopw [14] (fun i wr => ∃ (k : Nat) (v : Later (g0 + 1 + 1) X) (ad : Option Addr) (gc : Nat) (hd : Nat → Option Addr) (r cp : Nat → Nat), k ≤ rows.length ∧ i = .int .i64 k ∧ wr = v.val ∧ Hid (g0 + 1 + 1 + 1 ≤ v.val.heap.size) ∧ Hid (RowL v.val (g0 + 1 + 1) 24 [.int .i64 p, .int .i64 c, .slice ad k gc]) ∧ Hid (Mtx (g0 + 1 + 1 + 1) v.val ad gc k C hd r cp (ent rows))) (fun i _ => rows.length - (intOf i).toNat)
  case atStart => exact ⟨0, z, none, 0, fun _ => none, fun _ => 0, fun _ => 0, by omega, rfl, hz.symm, Lib.hid (by rw [hz, HZ.out]; omega), Lib.hid (by rw [hz]; exact T2.out), Lib.hid (Mtx.start _ _ _ _ _ _ _)⟩
  case round =>
    clear hz z
    obtain ⟨k, v, ad, gc, hd, r, cp, hk, rfl, rfl, HS, HB, HM⟩ := hrel
    by_cases hlt : k < rows.length
    · obtain ⟨be, ofe, rfl, hbe, ad', cp', hI, hn, hcell⟩ := HRo.out.atN hlt
      have hrk := HRl.out k hlt
      have hcv : ∀ w : World, Below (g0 + 1 + 1) X w → w.cell? ⟨be, ofe + k, none⟩ = some (.slice ad' (rows.getD k []).length cp') := fun w hb => by
        rw [World.cell?_of_block (w := X) (hb.block be (by omega))]
        exact hcell (⟨X, Below.refl _ _, by rw [HZ.out]; omega⟩ : Later B X)
      have c0 := hcv _ v.below
      have HIv : Hid (IntsAt v.val.drew.heap.size v.val.drew ad' (rows.getD k [])) := Lib.hid ((hI.later (v.below.mono (by omega))).mono (by show B ≤ v.val.heap.size; have := HS.out; omega))
      have HEnt : Hid (∀ j, ent rows k j = (rows.getD k []).getD j 0) := Lib.hid (fun _ => rfl)
      have KC := Lib.hid (c_cloneM (Later.self v.val.drew) (rows.getD k []) ad' cp' HIv.out hn (by omega))
      dsimp only [Later.self] at KC
      clear hcv hI hcell
      generalize rows.getD k [] = row at *
      have hyb : ∀ y : Later v.val.drew.heap.size v.val.drew, Below v.val.heap.size v.val y.val := fun y => ((Below.refl _ _).drew).trans y.below
      have d0 : v.val.drew.cell? ⟨g0 + 1 + 1, 2, none⟩ = some (.slice ad k gc) := HB.out.cell rfl
      have d1 : ∀ y : Later v.val.drew.heap.size v.val.drew, y.val.cell? ⟨g0 + 1 + 1, 2, none⟩ = some (.slice ad k gc) := fun y => (HB.out.keep (hyb y)).cell rfl
      have d2 : ∀ (y : Later v.val.drew.heap.size v.val.drew) (o : Obj), (y.val.alloc o).cell? ⟨g0 + 1 + 1, 2, none⟩ = some (.slice ad k gc) := fun y o => d1 (y.alloc o)
      have HMy : Hid (∀ y : Later v.val.drew.heap.size v.val.drew, Mtx (g0 + 1 + 1 + 1) y.val ad gc k C hd r cp (ent rows)) := Lib.hid (fun y => HM.out.keep (hyb y))
      have HBp : Hid (∀ (y : Later v.val.drew.heap.size v.val.drew) (ar : Option Addr) (rr cr : Nat) (Q : Nat → Int) (pp : PushM (g0 + 1 + 1 + 1) y.val ad gc k C hd r cp (ent rows) ar rr cr Q), RowL pp.val (g0 + 1 + 1) 24 [.int .i64 p, .int .i64 c, .slice ad k gc]) := Lib.hid (fun y ar rr cr Q pp => (HB.out.keep (hyb y)).keep_at pp.below (by omega))
      have d3 : ∀ (y : Later v.val.drew.heap.size v.val.drew) (ar : Option Addr) (rr cr : Nat) (Q : Nat → Int) (pp : PushM (g0 + 1 + 1 + 1) y.val ad gc k C hd r cp (ent rows) ar rr cr Q), pp.val.cell? ⟨g0 + 1 + 1, 2, none⟩ = some (.slice ad k gc) := fun y ar rr cr Q pp => (HBp.out y ar rr cr Q pp).cell rfl
      have d4 : ∀ (y : Later v.val.drew.heap.size v.val.drew) (ar : Option Addr) (rr cr : Nat) (Q : Nat → Int) (pp : PushM (g0 + 1 + 1 + 1) y.val ad gc k C hd r cp (ent rows) ar rr cr Q), pp.val.frozen? ⟨g0 + 1 + 1, 2, none⟩ = false := fun y ar rr cr Q pp => (HBp.out y ar rr cr Q pp).fz 2
      have HRn : Hid (∀ (y : Later v.val.drew.heap.size v.val.drew) (adC : Option Addr) (cpC : Nat), Own v.val.drew.heap.size y.val adC cpC row → ∃ rr, RowO (g0 + 1 + 1 + 1) y.val C adC rr cpC (fun j => row.getD j 0) ∧ (0 < C → (∀ i, i < k → r i ≠ rr) ∧ ∀ g, ad = some ⟨g, 0, none⟩ → rr ≠ g)) := Lib.hid (fun y adC cpC hO => by
        obtain ⟨rr, h1, h2⟩ := rowO_of_own hO hrk
        refine ⟨rr, h1.mono (by have := HS.out; exact this), fun hC0 => ⟨fun i hi e => ?_, fun g hg e => ?_⟩⟩
        · have := (HM.out.rlt hC0 hi).2
          have := h2 hC0
          have e3 : v.val.drew.heap.size = v.val.heap.size := rfl
          omega
        · have := h2 hC0
          rcases HM.out.form with ⟨e1, _⟩ | ⟨g', e1, e2⟩
          · rw [hg] at e1; cases e1
          · rw [hg] at e1
            cases e1
            have e3 : v.val.drew.heap.size = v.val.heap.size := rfl
            omega)
      have hBy : Hid (∀ y : Later v.val.drew.heap.size v.val.drew, g0 + 1 + 1 + 1 ≤ y.val.heap.size) := Lib.hid (fun y => by have := y.size; have := HS.out; have e3 : v.val.drew.heap.size = v.val.heap.size := rfl; omega)
      have hk1 : k + 1 ≤ 4294967296 := by omega
      go_upto_region 5 with fail
      rw [hrk] at KC
      go_region_law (first | ((refine step_pushM (w := y2.val) (HMy.out y2) hRO hRN (hBy.out y2) (by rfl) _ _ (by rfl) (by rfl) (by rfl) hk1 ?_; intro pp)) | (go_simp; go_at_call 57; (with_reducible refine (KC.out).mono ?_); rintro e _ ⟨_, rfl, ⟨adC, cpC, rfl, hC⟩, y2, rfl⟩; obtain ⟨rr, hRO, hRN⟩ := HRn.out y2 adC cpC hC))
      all_goals
        have HMp : Hid (Mtx (g0 + 1 + 1 + 1) (pp.val.setCell ⟨g0 + 1 + 1, 2, none⟩ (.slice (some ⟨pp.g, 0, none⟩) (k + 1) pp.gc')) (some ⟨pp.g, 0, none⟩) pp.gc' (k + 1) C (fun i => if i = k then adC else hd i) (fun i => if i = k then rr else r i) (fun i => if i = k then cpC else cp i) (ent rows)) := Lib.hid ((pp.out.old (by omega) _).congr (fun i j hi hj => by
          by_cases e : i = k
          · subst e; rw [if_pos rfl, HEnt.out]
          · rw [if_neg e]))
        have HBn : Hid (RowL (pp.val.setCell ⟨g0 + 1 + 1, 2, none⟩ (.slice (some ⟨pp.g, 0, none⟩) (k + 1) pp.gc')) (g0 + 1 + 1) 24 [.int .i64 p, .int .i64 c, .slice (some ⟨pp.g, 0, none⟩) ((k + 1 : Nat)) pp.gc']) := Lib.hid ((HBp.out y2 adC rr cpC _ pp).set 2 _)
        obtain ⟨x, hx⟩ : ∃ x : Later (g0 + 1 + 1) X, x.val = pp.val.setCell ⟨g0 + 1 + 1, 2, none⟩ (.slice (some ⟨pp.g, 0, none⟩) (k + 1) pp.gc') := ⟨⟨_, (v.below.trans ((hyb y2).mono (by have := HS.out; omega))).trans ((pp.below.mono (by omega)).trans (below_set (Nat.le_refl _) _)), by have := pp.below.size; have := hBy.out y2; simp; omega⟩, rfl⟩
        have HSn : Hid (g0 + 1 + 1 + 1 ≤ x.val.heap.size) := Lib.hid (by rw [hx]; have := pp.below.size; have := hBy.out y2; simp; omega)
        rw [← hx] at HMp HBn
        go_wp2
        go_roundw
        case rel => exact ⟨k + 1, x, _, _, _, _, _, by omega, by go_num, hx.symm, HSn, HBn, HMp⟩
        case measure => simp [intOf]; omega
    · have hke : k = rows.length := by omega
      subst hke
      have F0 : v.val.cell? ⟨g0 + 1 + 1, 0, none⟩ = some (.int .i64 p) := HB.out.cell rfl
      have F1 : v.val.cell? ⟨g0 + 1 + 1, 1, none⟩ = some (.int .i64 c) := HB.out.cell rfl
      have F2 : v.val.cell? ⟨g0 + 1 + 1, 2, none⟩ = some (.slice ad rows.length gc) := HB.out.cell rfl
      have T1v := T1.out.keep_at v.below (by omega)
      have Z0 : v.val.frozen? ⟨g0 + 1, 0, none⟩ = false := T1v.fz 0
      have Z1 : ∀ x : Value, (v.val.setCell ⟨g0 + 1, 0, none⟩ x).frozen? ⟨g0 + 1, 1, none⟩ = false := fun x => (T1v.set 0 x).fz 1
      have Z2 : ∀ x y : Value, ((v.val.setCell ⟨g0 + 1, 0, none⟩ x).setCell ⟨g0 + 1, 1, none⟩ y).frozen? ⟨g0 + 1, 2, none⟩ = false := fun x y => ((T1v.set 0 x).set 1 y).fz 2
      have G0 : v.val.cell? ⟨g0 + 1, 0, none⟩ = some (.int .i64 0) := T1v.cell rfl
      have G1 : ∀ x : Value, (v.val.setCell ⟨g0 + 1, 0, none⟩ x).cell? ⟨g0 + 1, 1, none⟩ = some (.int .i64 0) := fun x => (T1v.set 0 x).cell rfl
      have G2 : ∀ x y : Value, ((v.val.setCell ⟨g0 + 1, 0, none⟩ x).setCell ⟨g0 + 1, 1, none⟩ y).cell? ⟨g0 + 1, 2, none⟩ = some (.slice none 0 0) := fun x y => ((T1v.set 0 x).set 1 y).cell rfl
      have HT1 := Lib.hid T1v
      have hvs := HS.out
      clear T1v
      go_wp2
      refine bodyPost_ret (results_cell_row rfl _ _ (g0 + 1) 24 #[.int .i64 p, .int .i64 c, .slice ad rows.length gc] (0, 0) _ rfl (((HT1.out.set 0 _).set 1 _).set 2 _) Try.underlying24 rfl (by kernel_rfl)) rfl ?_
      obtain ⟨z, hz⟩ := HV.out v (((v.val.setCell ⟨g0 + 1, 0, none⟩ (.int .i64 p)).setCell ⟨g0 + 1, 1, none⟩ (.int .i64 c)).setCell ⟨g0 + 1, 2, none⟩ (.slice ad rows.length gc)) (((below_set (Nat.le_refl _) _).trans (below_set (Nat.le_refl _) _)).trans (below_set (Nat.le_refl _) _))
      refine RetP.of ⟨z, hz⟩ ?_
      exact ⟨ad, gc, hd, r, cp, rfl, (((HM.out.old (by omega) _).old (by omega) _).old (by omega) _).mono (by omega)⟩

end Go.Proofs.Ytffnpokceomncaa
