
/-
  rotalaw.SameSays where the first one is a matroid, under contracts.
-/
import Derived.Test.YtdcdhdlklppalaaPk29
import Derived.Test.YtdcdhdlklppalaaPk47
import Derived.Test.YtdcdhdlklppalaaPk06
import Derived.Test.YtdcdhdlklppalaaPk04
import Derived.Test.YtdcdhdlklppalaaPk35
import Derived.Test.YtdcdhdlklppalaaPk25
import Derived.Test.YtdcdhdlklppalaaPk09
import Derived.Deep.CutRange
import Derived.Deep.CutBlock
namespace Go.Proofs.Ytdcdhdlklppalaa
open Go.RowKit
set_option linter.unusedVariables false

/-- a matroid in a box -/
def BMs (w : World) (g : Nat) (n : Int) (xs : List Int) : Prop := ∃ ad cp, RowL w g 24 [.int .i64 n, .slice ad xs.length cp] ∧ IntsAt w.heap.size w ad xs
theorem BMs.bel {w w' : World} {g : Nat} {n : Int} {xs : List Int} (h : BMs w g n xs) (hb : Bel w w') : BMs w' g n xs := by
  obtain ⟨v, rfl⟩ := hb.later
  obtain ⟨ad, cp, h1, h2⟩ := h
  exact ⟨ad, cp, h1.keep v.below, h2.to v⟩
theorem BMs.new {w : World} {n : Int} {ad : Option Addr} {cp : Nat} {xs : List Int} (h : IntsAt w.heap.size w ad xs) : BMs (w.alloc (.cells #[.int .i64 n, .slice ad xs.length cp] 24)) w.heap.size n xs :=
  ⟨ad, cp, RowL.new w 24 [.int .i64 n, .slice ad xs.length cp], h.to ((Later.self w).alloc _)⟩
theorem belTr {a b c : World} (h : Bel a b) (k : Bel b c) : Bel a c := ⟨h.1.trans (k.1.mono h.2), Nat.le_trans h.2 k.2⟩
/-- a list of the call's own -/
def RdO (B : Nat) (xs : List Int) (v : Value) (w : World) : Prop := ∃ ad cp, v = .slice ad xs.length cp ∧ Own B w ad cp xs
theorem RdO.bel {B : Nat} {w w' : World} {xs : List Int} {v : Value} (h : RdO B xs v w) (hb : Bel w w') : RdO B xs v w' := by
  obtain ⟨y, rfl⟩ := hb.later
  obtain ⟨ad, cp, e, h2⟩ := h
  exact ⟨ad, cp, e, h2.keep y.below⟩
theorem RdO.set {B : Nat} {w : World} {xs : List Int} {v : Value} (h : RdO B xs v w) {g i : Nat} (hg : g < B) (x : Value) : RdO B xs v (w.setCell ⟨g, i, none⟩ x) := by
  obtain ⟨ad, cp, e, h2⟩ := h
  exact ⟨ad, cp, e, ownsRow_setCell_below h2 (show g < B from hg) _⟩
/-- a list that is read -/
def RdL (xs : List Int) (v : Value) (w : World) : Prop := ∃ ad cp, v = .slice ad xs.length cp ∧ IntsAt w.heap.size w ad xs
theorem RdL.bel {w w' : World} {xs : List Int} {v : Value} (h : RdL xs v w) (hb : Bel w w') : RdL xs v w' := by
  obtain ⟨y, rfl⟩ := hb.later
  obtain ⟨ad, cp, e, h2⟩ := h
  exact ⟨ad, cp, e, h2.to y⟩
def ZIfS (e n : Int) (xs : List Int) : Prop := e ≠ 0 → n = 0 ∧ xs = []
theorem told_okS {e n : Int} {xs : List Int} (h : ZIfS e n xs) : if e = 0 then n = n ∧ xs = xs else n = 0 ∧ xs = [] := by
  split
  · exact ⟨rfl, rfl⟩
  · rename_i c; exact h c
theorem RdO.rd {B : Nat} {w : World} {xs : List Int} {v : Value} (h : RdO B xs v w) : RdL xs v w := by
  obtain ⟨ad, cp, e, h2⟩ := h
  exact ⟨ad, cp, e, h2.reads⟩
/-- a list whose own block is not below -/
def AtB (B : Nat) (w : World) (ad : Option Addr) (xs : List Int) : Prop := IntsAt w.heap.size w ad xs ∧ ∀ x, ad = some x → B ≤ x.block
theorem AtB.bel {B : Nat} {w w' : World} {ad : Option Addr} {xs : List Int} (h : AtB B w ad xs) (hb : Bel w w') : AtB B w' ad xs := by
  obtain ⟨y, rfl⟩ := hb.later
  exact ⟨h.1.to y, h.2⟩
theorem AtB.set {B : Nat} {w : World} {ad : Option Addr} {xs : List Int} (h : AtB B w ad xs) {g i : Nat} (hg : g < B) (x : Value) : AtB B (w.setCell ⟨g, i, none⟩ x) ad xs := by
  refine ⟨fun hne => ?_, h.2⟩
  obtain ⟨gb, off, rfl, hlt, hc⟩ := h.1 hne
  have h2 : B ≤ gb := h.2 _ rfl
  refine ⟨gb, off, rfl, by simpa using hlt, fun i hi => ?_⟩
  rw [World.cell?_setCell_far _ _ _ _ (show g ≠ gb by omega)]
  exact hc i hi
/-- stored into a box -/
theorem BMs.store {B : Nat} {w : World} {g : Nat} {vs : Value × Value} {n : Int} {ad : Option Addr} {cp : Nat} {xs : List Int} (h0 : RowL w g 24 [vs.1, vs.2]) (h : IntsAt w.heap.size w ad xs) (hd : ∀ x, ad = some x → x.block ≠ g) : BMs ((w.setCell ⟨g, 0, none⟩ (.int .i64 n)).setCell ⟨g, 1, none⟩ (.slice ad xs.length cp)) g n xs := by
  refine ⟨ad, cp, (h0.set 0 _).set 1 _, fun hne => ?_⟩
  obtain ⟨gb, off, rfl, hlt, hc⟩ := h hne
  have hg : g ≠ gb := fun e => hd _ rfl e.symm
  refine ⟨gb, off, rfl, by simpa using hlt, fun i hi => ?_⟩
  rw [World.cell?_setCell_far _ _ _ _ hg, World.cell?_setCell_far _ _ _ _ hg]
  exact hc i hi

set_option maxRecDepth 100000 in
set_option maxHeartbeats 40000000 in
theorem law_ss {B : Nat} {W : World} (u : Later B W) (n1 n2 : Int) (l1 l2 p : List Int) (a b c : Option Addr) (cap capb capc : Nat) (e2 f g N nA : Int) (o ok : Bool) (xs ys xA : List Int) (Can : List Int → Prop)
    (hg : g = errno o 1) (hf2 : e2 ≠ 0 → f = e2) (hf : e2 = 0 → f = errno ok 5) (hz : ZIfS g nA xA) (hnA : g = 0 → nA = n1) (hx : f ≠ 0 → xs = []) (hC : ∀ X Y, Can X → Can Y → X = Y) (hCl : ∀ X, Can X → X.length ≤ 4611686018427387904)
    (hl1 : xs.length ≤ 4611686018427387904) (hl2 : ys.length ≤ 4611686018427387904) (hl3 : xA.length ≤ 4611686018427387904)
    (M1 : ∀ w, Bel u.val w → Calls Try.prog 4 #[.agg #[.int .i64 n1, .slice a l1.length cap]] w (Ret w.heap.size w (.int .i64 0)))
    (M2 : ∀ w, Bel u.val w → Calls Try.prog 4 #[.agg #[.int .i64 n2, .slice b l2.length capb]] w (Ret w.heap.size w (.int .i64 e2)))
    (rO : ∀ w, Bel u.val w → Calls Try.prog 6 #[.slice c p.length capc, .int .i64 n1] w (Ret w.heap.size w (.bool o)))
    (rG : ∀ w, Bel u.val w → Calls Try.prog 7 #[.agg #[.int .i64 n1, .slice a l1.length cap]] w (RetP w.heap.size w (fun v w' => ∃ x, v = .tuple #[.int .i64 N, x] ∧ RdO w.heap.size ys x w')))
    (rC : ∀ w, Bel u.val w → Calls Try.prog 8 #[.agg #[.int .i64 n1, .slice a l1.length cap]] w (RetP w.heap.size w (fun v w' => ∃ X ad cp, Can X ∧ v = .agg #[.int .i64 n1, .slice ad X.length cp] ∧ IntsAt w'.heap.size w' ad X ∧ ∀ x, ad = some x → w.heap.size ≤ x.block)))
    (rR : g = 0 → ∀ w, Bel u.val w → Calls Try.prog 9 #[.agg #[.int .i64 n1, .slice a l1.length cap], .slice c p.length capc] w (RetP w.heap.size w (MatO w.heap.size nA xA)))
    (rI : e2 = 0 → ∀ w, Bel u.val w → Calls Try.prog 10 #[.agg #[.int .i64 n1, .slice a l1.length cap], .agg #[.int .i64 n2, .slice b l2.length capb]] w (RetP w.heap.size w (fun v w' => ∃ x, v = .tuple #[x, .bool ok] ∧ RdL xs x w')))
    (pR : ∀ w, Bel u.val w → Calls Try.prog 11 #[.agg #[.int .i64 n1, .slice a l1.length cap], .slice c p.length capc] w (RetP w.heap.size w (MatTO w.heap.size nA xA g)))
    (pI : ∀ w, Bel u.val w → Calls Try.prog 12 #[.agg #[.int .i64 n1, .slice a l1.length cap], .agg #[.int .i64 n2, .slice b l2.length capb]] w (RetP w.heap.size w (fun v w' => ∃ x, v = .tuple #[x, .int .i64 f] ∧ RdL xs x w')))
    (pG : ∀ w, Bel u.val w → Calls Try.prog 13 #[.agg #[.int .i64 n1, .slice a l1.length cap]] w (Ret w.heap.size w (.tuple #[.int .i64 N, .int .i64 0])))
    (pO : ∀ w, Bel u.val w → Calls Try.prog 14 #[.agg #[.int .i64 n1, .slice a l1.length cap]] w (RetP w.heap.size w (fun v w' => ∃ x, v = .tuple #[x, .int .i64 0] ∧ RdL ys x w')))
    (pC : ∀ w, Bel u.val w → Calls Try.prog 15 #[.agg #[.int .i64 n1, .slice a l1.length cap]] w (RetP w.heap.size w (fun v w' => ∃ X ad cp, Can X ∧ v = .tuple #[.agg #[.int .i64 n1, .slice ad X.length cp], .int .i64 0] ∧ IntsAt w'.heap.size w' ad X))) :
    Calls Try.prog 3 #[.agg #[.int .i64 n1, .slice a l1.length cap], .agg #[.int .i64 n2, .slice b l2.length capb], .slice c p.length capc] u.val (Ret B W (.bool true)) := by
  obtain ⟨V, hV⟩ : ∃ V, V = u.val := ⟨_, rfl⟩
  have HU : Hid (∀ w, Bel V w → ∃ w' : Later B W, w'.val = w) := Lib.hid (fun w h => by
    subst hV
    obtain ⟨v, rfl⟩ := h.later
    exact ⟨u.up v, rfl⟩)
  rw [← hV] at M1 M2 rO rG rC rR rI pR pI pG pO pC ⊢
  clear hV
  have KM1 := Lib.hid M1
  have KM2 := Lib.hid M2
  have KrO := Lib.hid rO
  have KrG := Lib.hid rG
  have KrC := Lib.hid rC
  have KrR := Lib.hid rR
  have KrI := Lib.hid rI
  have KpR := Lib.hid pR
  have KpI := Lib.hid pI
  have KpG := Lib.hid pG
  have KpO := Lib.hid pO
  have KpC := Lib.hid pC
  have HG := Lib.hid hg
  have HF2 := Lib.hid hf2
  have HF := Lib.hid hf
  have HZ := Lib.hid hz
  have HX := Lib.hid hx
  have HC := Lib.hid hC
  have HCl := Lib.hid hCl
  have HnA := Lib.hid hnA
  have HLn := Lib.hid (And.intro hl1 (And.intro hl2 hl3))
  clear M1 M2 rO rG rC rR rI pR pI pG pO pC hg hf2 hf hz hx hC hCl hl1 hl2 hl3 hnA
  have hs1 : (V.alloc (.cells #[.int .i64 n1, .slice a l1.length cap] 24)).heap.size = V.heap.size + 1 := by simp
  have HA : Hid (RowL ((V.alloc (.cells #[.int .i64 n1, .slice a l1.length cap] 24)).alloc (.cells #[.int .i64 n2, .slice b l2.length capb] 24)) V.heap.size 24 [.int .i64 n1, .slice a l1.length cap]) := Lib.hid ((RowL.new _ _ _).keep ((Below.refl _ _).alloc (Nat.le_refl _) _))
  have HB2 : Hid (RowL ((V.alloc (.cells #[.int .i64 n1, .slice a l1.length cap] 24)).alloc (.cells #[.int .i64 n2, .slice b l2.length capb] 24)) (V.heap.size + 1) 24 [.int .i64 n2, .slice b l2.length capb]) := Lib.hid (by
    have := RowL.new (V.alloc (.cells #[.int .i64 n1, .slice a l1.length cap] 24)) 24 [.int .i64 n2, .slice b l2.length capb]
    rwa [hs1] at this)
  have HVY : Hid (Bel V ((V.alloc (.cells #[.int .i64 n1, .slice a l1.length cap] 24)).alloc (.cells #[.int .i64 n2, .slice b l2.length capb] 24))) := Lib.hid (((Bel.of (Later.self V)).alloc _).alloc _)
  clear hs1
  go_enter Try.func3, Try.ntmps3
  go_upto_region 1 with fail
  generalize ((V.alloc (.cells #[.int .i64 n1, .slice a l1.length cap] 24)).alloc (.cells #[.int .i64 n2, .slice b l2.length capb] 24)) = Y at *
  generalize V.heap.size = g0 at *
  have qa : ∀ w, Bel Y w → w.cell? ⟨g0, 0, none⟩ = some (.int .i64 n1) ∧ w.cell? ⟨g0, 1, none⟩ = some (.slice a l1.length cap) ∧ w.cell? ⟨g0 + 1, 0, none⟩ = some (.int .i64 n2) ∧ w.cell? ⟨g0 + 1, 1, none⟩ = some (.slice b l2.length capb) := fun w hw => by
    obtain ⟨v, rfl⟩ := hw.later
    exact ⟨(HA.out.keep v.below).cell rfl, (HA.out.keep v.below).cell rfl, (HB2.out.keep v.below).cell rfl, (HB2.out.keep v.below).cell rfl⟩
  have hbY : Bel Y Y := Bel.of (Later.self Y)
  obtain ⟨p0, p1, p2, p3⟩ := qa Y hbY
  have z0 : ((0 : Int) == 0) = true := rfl
  have KA := Lib.hid (KM1.out Y HVY.out)
  generalize g0 + 1 = g1 at *
  clear HA HB2 u
  go_upto_region 5 with (first | (go_at_call 4; (with_reducible refine (KA.out).mono ?_); rintro e _ ⟨rfl, v1, rfl⟩; have hb1 := hbY.up v1; have KB := Lib.hid (KM2.out v1.val (belTr HVY.out hb1)); obtain ⟨r0, r1, r2, r3⟩ := qa v1.val hb1) | (go_at_call 4; (with_reducible refine (KB.out).mono ?_); rintro e _ ⟨rfl, v2, rfl⟩; have hb2 := hb1.up v2) | fail)
  clear KA KB KM1 KM2 p0 p1 p2 p3 r0 r1 r2 r3 hbY hb1
  go_upto_region 6 with fail
  have hz1 : (v2.val.alloc (.cells #[.int .i64 0, .slice none 0 0] 24)).heap.size = v2.val.heap.size + 1 := by simp
  have R10 : Hid (RowL ((v2.val.alloc (.cells #[.int .i64 0, .slice none 0 0] 24)).alloc (.cells #[.int .i64 0, .slice none 0 0] 24)) v2.val.heap.size 24 [.int .i64 0, .slice none 0 0]) := Lib.hid ((RowL.new _ _ _).keep ((Below.refl _ _).alloc (Nat.le_refl _) _))
  have R11 : Hid (RowL ((v2.val.alloc (.cells #[.int .i64 0, .slice none 0 0] 24)).alloc (.cells #[.int .i64 0, .slice none 0 0] 24)) (v2.val.heap.size + 1) 24 [.int .i64 0, .slice none 0 0]) := Lib.hid (by
    have h := RowL.new (v2.val.alloc (.cells #[.int .i64 0, .slice none 0 0] 24)) 24 [.int .i64 0, .slice none 0 0]
    rwa [hz1] at h)
  have hbZ : Bel Y ((v2.val.alloc (.cells #[.int .i64 0, .slice none 0 0] 24)).alloc (.cells #[.int .i64 0, .slice none 0 0] 24)) := (hb2.alloc _).alloc _
  have HHs : Hid (Y.heap.size ≤ v2.val.heap.size ∧ v2.val.heap.size + 1 < ((v2.val.alloc (.cells #[.int .i64 0, .slice none 0 0] 24)).alloc (.cells #[.int .i64 0, .slice none 0 0] 24)).heap.size) := Lib.hid ⟨hb2.2, by simp⟩
  clear hz1 hb2
  generalize ((v2.val.alloc (.cells #[.int .i64 0, .slice none 0 0] 24)).alloc (.cells #[.int .i64 0, .slice none 0 0] 24)) = Z at *
  generalize v2.val.heap.size = h at *
  clear v2 v1
  have KBd : Hid (∀ w : World, Calls Try.prog 5 #[.bool o, .int .i64 1] w (Ret w.heap.size w (.int .i64 g))) := Lib.hid (fun w => by rw [HG.out]; exact c_bad (Later.self w) o 1)
  have KB5 : Hid (∀ w : World, Calls Try.prog 5 #[.bool ok, .int .i64 5] w (Ret w.heap.size w (.int .i64 (errno ok 5)))) := Lib.hid (fun w => c_bad (Later.self w) ok 5)
  have KO := Lib.hid (KrO.out Z (belTr HVY.out hbZ))
  obtain ⟨p0, p1, p2, p3⟩ := qa Z hbZ
  go_upto_region 10 with (first | (go_at_call 6; (with_reducible refine (KO.out).mono ?_); rintro e _ ⟨rfl, v3, rfl⟩; have KD := Lib.hid (KBd.out v3.val)) | (go_at_call 5; (with_reducible refine (KD.out).mono ?_); rintro e _ ⟨rfl, v4, rfl⟩) | fail)
  have HbZ4 : Hid (Bel Z v4.val) := Lib.hid ((Bel.of v3).up v4)
  have hb4 : Bel Y v4.val := belTr hbZ HbZ4.out
  generalize v4.val = V4 at *
  clear v4 v3 KO KD KrO p0 p1 p2 p3
  obtain ⟨p0, p1, p2, p3⟩ := qa V4 hb4
  have KG := Lib.hid (KrG.out V4 (belTr HVY.out hb4))
  go_upto_region 11 with (first | (go_at_call 7; (with_reducible refine (KG.out).mono ?_); rintro e _ ⟨_, rfl, ⟨x13, rfl, hR13⟩, v5, rfl⟩; have HR13 := Lib.hid hR13; clear hR13) | fail)
  have hb5 : Bel Y v5.val := hb4.up v5
  have HbZ5 : Hid (Bel Z v5.val) := Lib.hid (HbZ4.out.up v5)
  have HB5 : Hid (V4.heap.size ≤ v5.val.heap.size) := Lib.hid v5.size
  generalize v5.val = V5 at *
  clear v5 KG KrG p0 p1 p2 p3
  obtain ⟨p0, p1, p2, p3⟩ := qa V5 hb5
  have KCn := Lib.hid (KrC.out V5 (belTr HVY.out hb5))
  go_upto_if 49 with (first | (go_at_call 8; (with_reducible refine (KCn.out).mono ?_); rintro e _ ⟨_, rfl, ⟨X, adC, cpC, hCX, rfl, hIX, hbX⟩, v6, rfl⟩; have HAt : Hid (AtB V5.heap.size v6.val adC X) := Lib.hid ⟨hIX, hbX⟩; have HCX := Lib.hid hCX; clear hCX hIX hbX; have R6 : Hid (RowL v6.val (h + 1) 24 [.int .i64 0, .slice none 0 0]) := Lib.hid (R11.out.keep (HbZ5.out.up v6).1); have d0 : v6.val.cell? ⟨h + 1, 0, none⟩ = some (.int .i64 0) := R6.out.cell rfl; have d1 : v6.val.frozen? ⟨h + 1, 0, none⟩ = false := R6.out.fz 0; have d2 : ∀ x : Value, (v6.val.setCell ⟨h + 1, 0, none⟩ x).cell? ⟨h + 1, 1, none⟩ = some (.slice none 0 0) := fun x => (R6.out.set 0 x).cell rfl; have d3 : ∀ x : Value, (v6.val.setCell ⟨h + 1, 0, none⟩ x).frozen? ⟨h + 1, 1, none⟩ = false := fun x => (R6.out.set 0 x).fz 1) | fail)
  have hb6 : Bel Y v6.val := hb5.up v6
  have HN6 : Hid (h + 1 < V4.heap.size ∧ h + 1 < V5.heap.size) := Lib.hid (by have := HHs.out; have := HbZ4.out.2; have := HB5.out; omega)
  have HYh : Hid (Y.heap.size ≤ h) := Lib.hid HHs.out.1
  have HR6a : Hid (RowL v6.val h 24 [.int .i64 0, .slice none 0 0]) := Lib.hid (R10.out.keep (HbZ5.out.up v6).1)
  have HRd6 : Hid (RdO V4.heap.size ys x13 v6.val) := Lib.hid (HR13.out.bel (Bel.of v6))
  have R10b : Hid (RowL ((v6.val.setCell ⟨h + 1, 0, none⟩ (.int .i64 n1)).setCell ⟨h + 1, 1, none⟩ (.slice adC X.length cpC)) h 24 [.int .i64 0, .slice none 0 0]) := Lib.hid (rowL_other (rowL_other HR6a.out (by omega) _) (by omega) _)
  have R11b : Hid (RowL ((v6.val.setCell ⟨h + 1, 0, none⟩ (.int .i64 n1)).setCell ⟨h + 1, 1, none⟩ (.slice adC X.length cpC)) (h + 1) 24 [.int .i64 n1, .slice adC X.length cpC]) := Lib.hid ((R6.out.set 0 _).set 1 _)
  have HAt6 : Hid (AtB V5.heap.size ((v6.val.setCell ⟨h + 1, 0, none⟩ (.int .i64 n1)).setCell ⟨h + 1, 1, none⟩ (.slice adC X.length cpC)) adC X) := Lib.hid ((HAt.out.set HN6.out.2 _).set HN6.out.2 _)
  have HRd : Hid (RdO V4.heap.size ys x13 ((v6.val.setCell ⟨h + 1, 0, none⟩ (.int .i64 n1)).setCell ⟨h + 1, 1, none⟩ (.slice adC X.length cpC))) := Lib.hid ((HRd6.out.set HN6.out.1 _).set HN6.out.1 _)
  have HYh1 : Y.heap.size ≤ h + 1 := by have := HYh.out; omega
  have hb7 : Bel Y ((v6.val.setCell ⟨h + 1, 0, none⟩ (.int .i64 n1)).setCell ⟨h + 1, 1, none⟩ (.slice adC X.length cpC)) := (hb6.set HYh1 _).set HYh1 _
  clear HR6a HRd6 HAt R6 d0 d1 d2 d3 hb6 hb5 hb4 hbZ HR13 KCn KrC R10 R11 HbZ4 HbZ5 p0 p1 p2 p3 HYh1
  generalize ((v6.val.setCell ⟨h + 1, 0, none⟩ (.int .i64 n1)).setCell ⟨h + 1, 1, none⟩ (.slice adC X.length cpC)) = W6 at *
  clear v6
  go_cut [49] from 48 to 52 (fun _ w => Bel Y w ∧ BMs w h nA xA ∧ BMs w (h + 1) n1 X ∧ RdL ys x13 w)
  case first => as_aux_lemma =>
    rcases ieq g 0 with ⟨c1, d1, d2⟩ | ⟨c1, d1, d2⟩
    · have KR := Lib.hid (KrR.out c1 W6 (belTr HVY.out hb7))
      obtain ⟨p0, p1, p2, p3⟩ := qa W6 hb7
      have HHl : Hid (h < W6.heap.size) := Lib.hid R10b.out.lt
      have HB7 := Lib.hid hb7
      have HC1 := Lib.hid c1
      clear c1
      go_wp2_with (first | (go_at_call 9; (with_reducible refine (KR.out).mono ?_); rintro e _ ⟨_, rfl, ⟨adR, cpR, rfl, hOR⟩, v7, rfl⟩; have HOR := Lib.hid hOR; clear hOR; have R7 : Hid (RowL v7.val h 24 [.int .i64 0, .slice none 0 0]) := Lib.hid (R10b.out.keep v7.below); have d3 : v7.val.cell? ⟨h, 0, none⟩ = some (.int .i64 0) := R7.out.cell rfl; have d4 : v7.val.frozen? ⟨h, 0, none⟩ = false := R7.out.fz 0; have d5 : ∀ x : Value, (v7.val.setCell ⟨h, 0, none⟩ x).cell? ⟨h, 1, none⟩ = some (.slice none 0 0) := fun x => (R7.out.set 0 x).cell rfl; have d6 : ∀ x : Value, (v7.val.setCell ⟨h, 0, none⟩ x).frozen? ⟨h, 1, none⟩ = false := fun x => (R7.out.set 0 x).fz 1) | fail)
      go_meet
      case rel =>
        have hhl := HHl.out
        have hhy := HYh.out
        have hn6 := HN6.out
        refine ⟨((HB7.out.up v7).set hhy _).set hhy _, ⟨adR, cpR, (R7.out.set 0 _).set 1 _, ((HOR.out.set hhl _).set hhl _).reads⟩, ⟨adC, cpC, rowL_other (rowL_other (R11b.out.keep v7.below) (by omega) _) (by omega) _, ?_⟩, ?_⟩
        · exact (((HAt6.out.bel (Bel.of v7)).set (by omega) _).set (by omega) _).1
        · exact (((HRd.out.bel (Bel.of v7)).set (by omega) _).set (by omega) _).rd
    · obtain ⟨e1, e2'⟩ := HZ.out c1
      have HB7 := Lib.hid hb7
      clear c1
      go_wp2
      go_meet
      case rel =>
        refine ⟨HB7.out, ⟨none, 0, ?_, ?_⟩, ⟨adC, cpC, R11b.out, HAt6.out.1⟩, HRd.out.rd⟩
        · rw [e1, e2']; exact R10b.out
        · rw [e2']; exact IntsAt.nil
  case rest => as_aux_lemma =>
    clear R10b R11b HAt6 HRd hb7 W6 HN6 HB5 HHs Z V4 V5 KrR
    obtain ⟨hb8, h10, h11, h13⟩ := hcut
    have N10 := Lib.hid h10
    have N11 := Lib.hid h11
    have N13 := Lib.hid h13
    clear h10 h11 h13
    generalize wc = W8 at *
    go_upto_if 54 with fail
    go_cut [8, 12, 15] from 53 to 62 (fun x8 x12 _ w => x8 = .int .i64 f ∧ RdL xs x12 w ∧ Bel W8 w)
    case first => as_aux_lemma =>
      rcases ieq e2 0 with ⟨c1, d1, d2⟩ | ⟨c1, d1, d2⟩
      · have KI := Lib.hid (KrI.out c1 W8 (belTr HVY.out hb8))
        obtain ⟨p0, p1, p2, p3⟩ := qa W8 hb8
        have HFc := Lib.hid (HF.out c1)
        clear c1
        go_wp2_with (first | (go_at_call 10; (with_reducible refine (KI.out).mono ?_); rintro e _ ⟨_, rfl, ⟨x12, rfl, hR12⟩, v9, rfl⟩; have HR12 := Lib.hid hR12; clear hR12; have KD := Lib.hid (KB5.out v9.val)) | (go_at_call 5; (with_reducible refine (KD.out).mono ?_); rintro e _ ⟨rfl, v10, rfl⟩) | fail)
        go_meet
        case rel => exact ⟨by rw [HFc.out], HR12.out.bel (Bel.of v10), (Bel.of v9).up v10⟩
      · have HFc := Lib.hid (HF2.out c1)
        have HXc := Lib.hid (HX.out (by rw [HF2.out c1]; exact c1))
        clear c1
        go_wp2
        go_meet
        case rel => exact ⟨by rw [HFc.out], ⟨none, 0, by rw [HXc.out]; rfl, by rw [HXc.out]; exact IntsAt.nil⟩, Bel.of (Later.self W8)⟩
    case rest => as_aux_lemma =>
      obtain ⟨rfl, h12, hb9⟩ := hcut
      have N12 := Lib.hid h12
      replace N10 := Lib.hid (N10.out.bel hb9)
      replace N11 := Lib.hid (N11.out.bel hb9)
      replace N13 := Lib.hid (N13.out.bel hb9)
      have hbA : Bel Y wc := belTr hb8 hb9
      generalize wc = WA at *
      clear h12 hb9 hb8 W8 KrI KB5 KBd
      have K1 := Lib.hid (KpR.out WA (belTr HVY.out hbA))
      obtain ⟨p0, p1, p2, p3⟩ := qa WA hbA
      go_upto_region 19 with (first | (go_at_call 11; (with_reducible refine (K1.out).mono ?_); rintro e _ ⟨_, rfl, ⟨adA, cpA, rfl, hOA⟩, vA, rfl⟩; have HOA := Lib.hid hOA; clear hOA) | fail)
      have N16 : Hid (BMs (vA.val.alloc (.cells #[.int .i64 nA, .slice adA xA.length cpA] 24)) vA.val.heap.size nA xA) := Lib.hid (BMs.new HOA.out.reads)
      have hc1 : Bel WA (vA.val.alloc (.cells #[.int .i64 nA, .slice adA xA.length cpA] 24)) := (Bel.of vA).alloc _
      replace N10 := Lib.hid (N10.out.bel hc1)
      replace N11 := Lib.hid (N11.out.bel hc1)
      replace N12 := Lib.hid (N12.out.bel hc1)
      replace N13 := Lib.hid (N13.out.bel hc1)
      have hbB : Bel Y (vA.val.alloc (.cells #[.int .i64 nA, .slice adA xA.length cpA] 24)) := belTr hbA hc1
      generalize vA.val.heap.size = h16 at *
      generalize vA.val.alloc (.cells #[.int .i64 nA, .slice adA xA.length cpA] 24) = WB at *
      clear HOA vA hc1 hbA K1 KpR p0 p1 p2 p3 WA
      have K2 := Lib.hid (KpI.out WB (belTr HVY.out hbB))
      obtain ⟨p0, p1, p2, p3⟩ := qa WB hbB
      go_upto_region 20 with (first | (go_at_call 12; (with_reducible refine (K2.out).mono ?_); rintro e _ ⟨_, rfl, ⟨x18, rfl, hR18⟩, vB, rfl⟩; have N18 := Lib.hid hR18; clear hR18) | fail)
      have hc2 : Bel WB vB.val := Bel.of vB
      replace N10 := Lib.hid (N10.out.bel hc2)
      replace N11 := Lib.hid (N11.out.bel hc2)
      replace N12 := Lib.hid (N12.out.bel hc2)
      replace N13 := Lib.hid (N13.out.bel hc2)
      replace N16 := Lib.hid (N16.out.bel hc2)
      have hbC : Bel Y vB.val := belTr hbB hc2
      generalize vB.val = WC at *
      clear vB hc2 hbB K2 KpI p0 p1 p2 p3 WB
      have K3 := Lib.hid (KpG.out WC (belTr HVY.out hbC))
      obtain ⟨p0, p1, p2, p3⟩ := qa WC hbC
      go_upto_region 21 with (first | (go_at_call 13; (with_reducible refine (K3.out).mono ?_); rintro e _ ⟨rfl, vC, rfl⟩) | fail)
      have hc3 : Bel WC vC.val := Bel.of vC
      replace N10 := Lib.hid (N10.out.bel hc3)
      replace N11 := Lib.hid (N11.out.bel hc3)
      replace N12 := Lib.hid (N12.out.bel hc3)
      replace N13 := Lib.hid (N13.out.bel hc3)
      replace N16 := Lib.hid (N16.out.bel hc3)
      replace N18 := Lib.hid (N18.out.bel hc3)
      have hbD : Bel Y vC.val := belTr hbC hc3
      generalize vC.val = WD at *
      clear vC hc3 hbC K3 KpG p0 p1 p2 p3 WC
      have K4 := Lib.hid (KpO.out WD (belTr HVY.out hbD))
      obtain ⟨p0, p1, p2, p3⟩ := qa WD hbD
      go_upto_region 22 with (first | (go_at_call 14; (with_reducible refine (K4.out).mono ?_); rintro e _ ⟨_, rfl, ⟨x22, rfl, hR22⟩, vD, rfl⟩; have N22 := Lib.hid hR22; clear hR22) | fail)
      have hc4 : Bel WD vD.val := Bel.of vD
      replace N10 := Lib.hid (N10.out.bel hc4)
      replace N11 := Lib.hid (N11.out.bel hc4)
      replace N12 := Lib.hid (N12.out.bel hc4)
      replace N13 := Lib.hid (N13.out.bel hc4)
      replace N16 := Lib.hid (N16.out.bel hc4)
      replace N18 := Lib.hid (N18.out.bel hc4)
      have hbE : Bel Y vD.val := belTr hbD hc4
      generalize vD.val = WE at *
      clear vD hc4 hbD K4 KpO p0 p1 p2 p3 WD
      have K5 := Lib.hid (KpC.out WE (belTr HVY.out hbE))
      obtain ⟨p0, p1, p2, p3⟩ := qa WE hbE
      go_upto_region 23 with (first | (go_at_call 15; (with_reducible refine (K5.out).mono ?_); rintro e _ ⟨_, rfl, ⟨X2, adE, cpE, hCX2, rfl, hIE⟩, vE, rfl⟩; have HCX2 := Lib.hid hCX2; have HIE := Lib.hid hIE; clear hCX2 hIE) | fail)
      have hXX : X2 = X := HC.out _ _ HCX2.out HCX.out
      subst hXX
      have N24 : Hid (BMs (vE.val.alloc (.cells #[.int .i64 n1, .slice adE X2.length cpE] 24)) vE.val.heap.size n1 X2) := Lib.hid (BMs.new HIE.out)
      have hc5 : Bel WE (vE.val.alloc (.cells #[.int .i64 n1, .slice adE X2.length cpE] 24)) := (Bel.of vE).alloc _
      replace N10 := Lib.hid (N10.out.bel hc5)
      replace N11 := Lib.hid (N11.out.bel hc5)
      replace N12 := Lib.hid (N12.out.bel hc5)
      replace N13 := Lib.hid (N13.out.bel hc5)
      replace N16 := Lib.hid (N16.out.bel hc5)
      replace N18 := Lib.hid (N18.out.bel hc5)
      replace N22 := Lib.hid (N22.out.bel hc5)
      have hbF : Bel Y (vE.val.alloc (.cells #[.int .i64 n1, .slice adE X2.length cpE] 24)) := belTr hbE hc5
      generalize vE.val.heap.size = h24 at *
      generalize vE.val.alloc (.cells #[.int .i64 n1, .slice adE X2.length cpE] 24) = WF at *
      clear HIE vE hc5 hbE K5 KpC p0 p1 p2 p3 WE
      obtain ⟨a10, c10, r10, i10⟩ := N10.out
      obtain ⟨a11, c11, r11, i11⟩ := N11.out
      obtain ⟨a16, c16, r16, i16⟩ := N16.out
      obtain ⟨a24, c24, r24, i24⟩ := N24.out
      obtain ⟨a12, c12, rfl, i12⟩ := N12.out
      obtain ⟨a13, c13, rfl, i13⟩ := N13.out
      obtain ⟨a18, c18, rfl, i18⟩ := N18.out
      obtain ⟨a22, c22, rfl, i22⟩ := N22.out
      have y10 : ∀ w : Later WF.heap.size WF, w.val.cell? ⟨h, 0, none⟩ = some (.int .i64 nA) := fun w => (r10.keep w.below).cell rfl
      have z10 : ∀ w : Later WF.heap.size WF, w.val.cell? ⟨h, 1, none⟩ = some (.slice a10 xA.length c10) := fun w => (r10.keep w.below).cell rfl
      have y11 : ∀ w : Later WF.heap.size WF, w.val.cell? ⟨(h + 1), 0, none⟩ = some (.int .i64 n1) := fun w => (r11.keep w.below).cell rfl
      have z11 : ∀ w : Later WF.heap.size WF, w.val.cell? ⟨(h + 1), 1, none⟩ = some (.slice a11 X2.length c11) := fun w => (r11.keep w.below).cell rfl
      have y16 : ∀ w : Later WF.heap.size WF, w.val.cell? ⟨h16, 0, none⟩ = some (.int .i64 nA) := fun w => (r16.keep w.below).cell rfl
      have z16 : ∀ w : Later WF.heap.size WF, w.val.cell? ⟨h16, 1, none⟩ = some (.slice a16 xA.length c16) := fun w => (r16.keep w.below).cell rfl
      have y24 : ∀ w : Later WF.heap.size WF, w.val.cell? ⟨h24, 0, none⟩ = some (.int .i64 n1) := fun w => (r24.keep w.below).cell rfl
      have z24 : ∀ w : Later WF.heap.size WF, w.val.cell? ⟨h24, 1, none⟩ = some (.slice a24 X2.length c24) := fun w => (r24.keep w.below).cell rfl
      have KT1 : Hid (∀ w : Later WF.heap.size WF, Calls Try.prog 16 #[.agg #[.int .i64 nA, .slice a16 xA.length c16], .int .i64 g, .agg #[.int .i64 nA, .slice a10 xA.length c10], .int .i64 g] w.val (Ret WF.heap.size WF (.bool true))) := Lib.hid (fun w => c_told w nA nA xA xA a16 a10 c16 c10 g g i16 i10 HLn.out.2.2 rfl (told_okS HZ.out))
      have KT2 : Hid (∀ w : Later WF.heap.size WF, Calls Try.prog 16 #[.agg #[.int .i64 n1, .slice a24 X2.length c24], .int .i64 0, .agg #[.int .i64 n1, .slice a11 X2.length c11], .int .i64 0] w.val (Ret WF.heap.size WF (.bool true))) := Lib.hid (fun w => c_told w n1 n1 X2 X2 a24 a11 c24 c11 0 0 i24 i11 (HCl.out _ HCX2.out) rfl (by rw [if_pos rfl]; exact ⟨rfl, rfl⟩))
      have KL1 : Hid (∀ w : Later WF.heap.size WF, Calls Try.prog 17 #[.slice a18 xs.length c18, .int .i64 f, .slice a12 xs.length c12, .int .i64 f] w.val (Ret WF.heap.size WF (.bool true))) := Lib.hid (fun w => c_list w xs xs a18 a12 c18 c12 f f i18 i12 HLn.out.1 rfl (by split; exact rfl; rename_i hne; exact HX.out hne))
      have KL2 : Hid (∀ w : Later WF.heap.size WF, Calls Try.prog 17 #[.slice a22 ys.length c22, .int .i64 0, .slice a13 ys.length c13, .int .i64 0] w.val (Ret WF.heap.size WF (.bool true))) := Lib.hid (fun w => c_list w ys ys a22 a13 c22 c13 0 0 i22 i13 HLn.out.2.1 rfl (by rw [if_pos rfl]))
      have KN : Hid (∀ w : Later WF.heap.size WF, Calls Try.prog 18 #[.int .i64 N, .int .i64 0, .int .i64 N, .int .i64 0] w.val (Ret WF.heap.size WF (.bool true))) := Lib.hid (fun w => c_one_yes w N)
      have HWW : Hid (∀ w : Later WF.heap.size WF, ∃ w' : Later B W, w'.val = w.val) := Lib.hid (fun w => HU.out _ (belTr HVY.out (hbF.up w)))
      clear N10 N11 N12 N13 N16 N18 N22 N24 r10 r11 r16 r24 i10 i11 i12 i13 i16 i18 i22 i24 HU HC HCX HCX2 HCl HZ HX HF HF2 HG HnA HLn hbF HVY qa HYh
      obtain ⟨z, hz⟩ : ∃ z : Later WF.heap.size WF, z.val = WF := ⟨Later.self _, rfl⟩
      rw [← hz]
      clear hz
      go_wp2_with (first | (go_at_call 16; (with_reducible refine (KT1.out z).mono ?_); rintro e _ ⟨rfl, x1, rfl⟩) | (go_at_call 17; (with_reducible refine (KL1.out x1).mono ?_); rintro e _ ⟨rfl, x2, rfl⟩) | (go_at_call 18; (with_reducible refine (KN.out x2).mono ?_); rintro e _ ⟨rfl, x3, rfl⟩) | (go_at_call 17; (with_reducible refine (KL2.out x3).mono ?_); rintro e _ ⟨rfl, x4, rfl⟩) | (go_at_call 16; (with_reducible refine (KT2.out x4).mono ?_); rintro e _ ⟨rfl, x5, rfl⟩) | fail)
      go_ret
      obtain ⟨w, hw⟩ := HWW.out x5
      rw [← hw]
      exact Ret.mk w rfl
end Go.Proofs.Ytdcdhdlklppalaa
