
/-
  same.Isomorphic's function value, told the first order.
  What the check of a matroid tells where it finds nothing, plainly.
  same.Minor where one of the two is no matroid.
-/
import Derived.Test.YtjenaglgloaejaaPk37
import Derived.Test.YtjenaglgloaejaaPk22
import Derived.Test.YtjenaglgloaejaaPk05
namespace Go.Proofs.Ytjenaglgloaejaa
open Go.RowKit
set_option linter.unusedVariables false

/-- what the function value leaves: nothing, or the first order that it was told -/
structure IsoI (bo bd bp : Nat) (o : Option Nat) (l : List (List Nat)) (w : World) : Prop where
  ob : ∀ g, o = some g → g ≠ bo ∧ g ≠ bd
  no : l = [] → RowAt1 w bo 22 (.slice none 0 0) ∧ RowAt1 w bd 4 (.bool false)
  yes : ∀ q l', l = q :: l' → ∃ ar cr, RowAt1 w bo 22 (.slice ar q.length cr) ∧ RowV w bp o q ar cr ∧ RowAt1 w bd 4 (.bool true)
theorem IsoI.lt {bo bd bp : Nat} {o : Option Nat} {l : List (List Nat)} {w : World} (h : IsoI bo bd bp o l w) : bo < w.heap.size ∧ bd < w.heap.size := by
  cases l with
  | nil => exact ⟨(h.no rfl).1.lt, (h.no rfl).2.lt⟩
  | cons q l' =>
    obtain ⟨ar, cr, h1, _, h3⟩ := h.yes q l' rfl
    exact ⟨h1.lt, h3.lt⟩
theorem IsoI.kept {bo bd bp : Nat} (hb : bo ≠ bp ∧ bd ≠ bp) {o o' : Option Nat} {l : List (List Nat)} {w w' : World} (h : IsoI bo bd bp o l w) (hk : Kept bp o w w') (hn : NewB w o o') : IsoI bo bd bp o' l w' where
  ob := fun g hg => by
    rcases hn with e | ⟨x, e, hx⟩
    · exact h.ob g (e ▸ hg)
    · have hl := h.lt
      rw [e] at hg
      have : x = g := by simpa using hg
      subst this
      exact ⟨by omega, by omega⟩
  no := fun hl => by
    obtain ⟨h1, h2⟩ := h.no hl
    exact ⟨row1_kept h1 hk hb.1 (fun x hx => (h.ob x hx).1), row1_kept h2 hk hb.2 (fun x hx => (h.ob x hx).2)⟩
  yes := fun q l' hl => by
    obtain ⟨ar, cr, h1, h2, h3⟩ := h.yes q l' hl
    exact ⟨ar, cr, row1_kept h1 hk hb.1 (fun x hx => (h.ob x hx).1), h2.kept hk hn, row1_kept h3 hk hb.2 (fun x hx => (h.ob x hx).2)⟩

set_option maxRecDepth 100000 in
set_option maxHeartbeats 4000000 in
theorem c_isoDo {B bp : Nat} {W : World} {n bo bd : Nat} (hn : n ≤ 8) (hbp : bp < B) (h1 : bo < bp) (h2 : bd < bp) (hne : bo ≠ bd) (v : Off B (fun k => k = bp ∨ (k = bo ∨ k = bd)) W) (q : List Nat) (ad : Option Addr) (cp : Nat) (hq : q.length = n) (hP : PAt B bp v.val ad cp q) (hI : IsoI bo bd bp (ownBlk ad) [] v.val) :
    Calls Try.prog 46 #[.slice ad q.length cp, .pointer (some ⟨bo, 0, none⟩), .pointer (some ⟨bd, 0, none⟩)] v.val (fun e w' => e = .returned (.bool false) ∧ ∃ v' : Off B (fun k => k = bp ∨ (k = bo ∨ k = bd)) W, w' = v'.val ∧ PAt B bp v'.val ad cp q ∧ IsoI bo bd bp (ownBlk ad) [q] v'.val) := by
  obtain ⟨r1, r2⟩ := hI.no rfl
  have hvB := v.base
  have KC : Hid (Calls Try.prog 47 #[.slice ad q.length cp] v.val (RetOwn v.val.heap.size v.val (ints q))) := Lib.hid (by
    have := c_clone (Later.self v.val) (ints q) ad cp hP.2.reads (by rw [ints_len]; omega)
    rwa [ints_len] at this)
  have HR1 := Lib.hid r1
  have HR2 := Lib.hid r2
  have HFin : Hid (∀ (v1 : Later v.val.heap.size v.val) (ar : Option Addr) (cr : Nat), Own v.val.heap.size v1.val ar cr (ints q) → ∃ v' : Off B (fun k => k = bp ∨ (k = bo ∨ k = bd)) W, (v1.val.setCell ⟨bo, 0, none⟩ (.slice ar q.length cr)).setCell ⟨bd, 0, none⟩ (.bool true) = v'.val ∧ PAt B bp v'.val ad cp q ∧ IsoI bo bd bp (ownBlk ad) [q] v'.val) := Lib.hid (fun v1 ar cr ho => by
    have hP1 := hP.keep v1.below
    refine ⟨((v.up v1).store bo 0 (.inr (.inl rfl)) _).store bd 0 (.inr (.inr rfl)) _, rfl, ⟨?_, ?_⟩, hI.ob, (fun h => by cases h), fun q' l' hl => ?_⟩
    · exact row1_other (row1_other hP1.1 (by omega) _) (by omega) _
    · exact ownsRow_setCell_below (ownsRow_setCell_below hP1.2 (show bo < B by omega) _) (show bd < B by omega) _
    · cases hl
      have ho2 : Own v.val.heap.size ((v1.val.setCell ⟨bo, 0, none⟩ (.slice ar q.length cr)).setCell ⟨bd, 0, none⟩ (.bool true)) ar cr (ints q) := ownsRow_setCell_below (ownsRow_setCell_below ho (show bo < v.val.heap.size by omega) _) (show bd < v.val.heap.size by omega) _
      refine ⟨ar, cr, row1_other ((r1.keep v1.below).store) hne _, ⟨ho2.cap, ho2.reads, fun a ha => ?_⟩, (row1_other (r2.keep v1.below) (fun e => hne e.symm) _).store⟩
      have hb := ho2.blk a ha
      refine ⟨hb.2, by omega, fun e => ?_⟩
      have := hP.blk _ e
      omega)
  clear hP hI r1 r2 hq
  have hbo : bo < v.val.heap.size := HR1.out.lt
  have hbd : bd < v.val.heap.size := HR2.out.lt
  have z1 : ∀ y : Later v.val.heap.size v.val, y.val.cell? ⟨bo, 0, none⟩ = some (.slice none 0 0) := fun y => (HR1.out.keep y.below).c0
  have z2 : ∀ y : Later v.val.heap.size v.val, y.val.frozen? ⟨bo, 0, none⟩ = false := fun y => (HR1.out.keep y.below).frozen
  have z3 : ∀ (y : Later v.val.heap.size v.val) (x : Value), (y.val.setCell ⟨bo, 0, none⟩ x).cell? ⟨bd, 0, none⟩ = some (.bool false) := fun y x => (row1_other (HR2.out.keep y.below) (fun e => hne e.symm) x).c0
  have z4 : ∀ (y : Later v.val.heap.size v.val) (x : Value), (y.val.setCell ⟨bo, 0, none⟩ x).frozen? ⟨bd, 0, none⟩ = false := fun y x => (row1_other (HR2.out.keep y.below) (fun e => hne e.symm) x).frozen
  have hil : (ints q).length = q.length := ints_len q
  go_enter Try.func46, Try.ntmps46
  go_wp2_with (first | (go_at_call 47; (with_reducible refine (KC.out).mono ?_); rintro e _ ⟨_, rfl, ⟨ar, cr, rfl, hO⟩, v1, rfl⟩; rw [hil]; have HO := Lib.hid hO; clear hO; have y1 := z1 v1; have y2 := z2 v1) | fail)
  go_ret
  obtain ⟨v', e1, e2, e3⟩ := HFin.out v1 ar cr HO.out
  exact ⟨rfl, v', e1, e2, e3⟩
theorem iso_do (B bp : Nat) (W : World) (n bo bd : Nat) (hn : n ≤ 8) (hbp : bp < B) (h1 : bo < bp) (h2 : bd < bp) (hne : bo ≠ bd) : DoOn B bp W (fun k => k = bo ∨ k = bd) n false 46 #[.pointer (some ⟨bo, 0, none⟩), .pointer (some ⟨bd, 0, none⟩)] (IsoI bo bd bp) where
  plain := fun _ _ => by kernel_rfl
  keep := fun o o' l w w' h hk hn => h.kept ⟨by omega, by omega⟩ hk hn
  call := fun v l q ad cp hq hl hP hI => by
    have hl0 := hl rfl
    subst hl0
    exact c_isoDo hn hbp h1 h2 hne v q ad cp hq.len hP hI
end Go.Proofs.Ytjenaglgloaejaa

namespace Go.Proofs.Ytjenaglgloaejaa
set_option linter.unusedVariables false

theorem MatIs.ok {n : Int} {l : List Int} (h : MatIs n l 0) : okM n l ∧ Exch (toN l) := by
  by_cases c : okM n l
  · refine ⟨c, ?_⟩
    apply Classical.byContradiction
    intro g
    exact absurd (h.2.1 c g) (by decide)
  · exact absurd (h.1 c) (by decide)
end Go.Proofs.Ytjenaglgloaejaa

namespace Go.Proofs.Ytjenaglgloaejaa
open Go.RowKit
set_option linter.unusedVariables false

set_option maxRecDepth 100000 in
set_option maxHeartbeats 8000000 in
theorem c_sameMinor_no {B : Nat} {W : World} (u : Later B W) (n1 n2 : Int) (l1 l2 : List Int) (a b : Option Addr) (cap capb : Nat) (h1 : IntsAt B W a l1) (h2 : IntsAt B W b l2) (hlen1 : l1.length ≤ 4611686018427387904) (hlen2 : l2.length ≤ 4611686018427387904) (e1 e2 er : Int) (he1 : MatIs n1 l1 e1) (he2 : MatIs n2 l2 e2) (hc : (e1 ≠ 0 ∧ er = e1) ∨ (e1 = 0 ∧ e2 ≠ 0 ∧ er = e2)) :
    Calls Try.prog 5 #[.agg #[.int .i64 n1, .slice a l1.length cap], .agg #[.int .i64 n2, .slice b l2.length capb]] u.val (Ret B W (.tuple #[.int .i64 0, .int .i64 0, .int .i64 er])) := by
  have hs1 : (u.val.alloc (.cells #[.int .i64 n1, .slice a l1.length cap] 24)).heap.size = u.val.heap.size + 1 := by simp
  have HA : Hid (RowL ((u.val.alloc (.cells #[.int .i64 n1, .slice a l1.length cap] 24)).alloc (.cells #[.int .i64 n2, .slice b l2.length capb] 24)) u.val.heap.size 24 [.int .i64 n1, .slice a l1.length cap]) := Lib.hid ((RowL.new _ _ _).keep ((Below.refl _ _).alloc (Nat.le_refl _) _))
  have HB2 : Hid (RowL ((u.val.alloc (.cells #[.int .i64 n1, .slice a l1.length cap] 24)).alloc (.cells #[.int .i64 n2, .slice b l2.length capb] 24)) (u.val.heap.size + 1) 24 [.int .i64 n2, .slice b l2.length capb]) := Lib.hid (by
    have := RowL.new (u.val.alloc (.cells #[.int .i64 n1, .slice a l1.length cap] 24)) 24 [.int .i64 n2, .slice b l2.length capb]
    rwa [hs1] at this)
  have HVY : Hid (∀ v : Later ((u.val.alloc (.cells #[.int .i64 n1, .slice a l1.length cap] 24)).alloc (.cells #[.int .i64 n2, .slice b l2.length capb] 24)).heap.size ((u.val.alloc (.cells #[.int .i64 n1, .slice a l1.length cap] 24)).alloc (.cells #[.int .i64 n2, .slice b l2.length capb] 24)), ∃ w : Later B W, w.val = v.val) := Lib.hid (fun v => ⟨((u.alloc _).alloc _).up v, rfl⟩)
  have I1 : Hid (IntsAt ((u.val.alloc (.cells #[.int .i64 n1, .slice a l1.length cap] 24)).alloc (.cells #[.int .i64 n2, .slice b l2.length capb] 24)).heap.size ((u.val.alloc (.cells #[.int .i64 n1, .slice a l1.length cap] 24)).alloc (.cells #[.int .i64 n2, .slice b l2.length capb] 24)) a l1) := Lib.hid (h1.to ((u.alloc _).alloc _))
  have I2 : Hid (IntsAt ((u.val.alloc (.cells #[.int .i64 n1, .slice a l1.length cap] 24)).alloc (.cells #[.int .i64 n2, .slice b l2.length capb] 24)).heap.size ((u.val.alloc (.cells #[.int .i64 n1, .slice a l1.length cap] 24)).alloc (.cells #[.int .i64 n2, .slice b l2.length capb] 24)) b l2) := Lib.hid (h2.to ((u.alloc _).alloc _))
  obtain ⟨en, hen⟩ : ∃ en : Int → List Int → Int, ∀ n l, MatIs n l (en n l) := ⟨fun n l => Classical.choose (MatIs.ex n l), fun n l => Classical.choose_spec (MatIs.ex n l)⟩
  have uq : ∀ n l e, MatIs n l e → en n l = e := fun n l e h => by
    have h2 := hen n l
    by_cases c : okM n l
    · by_cases d : Exch (toN l)
      · rw [h.2.2 c d, h2.2.2 c d]
      · rw [h.2.1 c d, h2.2.1 c d]
    · rw [h.1 c, h2.1 c]
  have KC := Lib.hid (fun (v : Later ((u.val.alloc (.cells #[.int .i64 n1, .slice a l1.length cap] 24)).alloc (.cells #[.int .i64 n2, .slice b l2.length capb] 24)).heap.size ((u.val.alloc (.cells #[.int .i64 n1, .slice a l1.length cap] 24)).alloc (.cells #[.int .i64 n2, .slice b l2.length capb] 24))) (n' : Int) (l' : List Int) (a' : Option Addr) (c' : Nat) (h' : IntsAt ((u.val.alloc (.cells #[.int .i64 n1, .slice a l1.length cap] 24)).alloc (.cells #[.int .i64 n2, .slice b l2.length capb] 24)).heap.size ((u.val.alloc (.cells #[.int .i64 n1, .slice a l1.length cap] 24)).alloc (.cells #[.int .i64 n2, .slice b l2.length capb] 24)) a' l') (hl : l'.length ≤ 4611686018427387904) => c_axCheck v n' l' a' c' (en n' l') h' hl (hen n' l'))
  have E1 := uq _ _ _ he1
  have E2 := uq _ _ _ he2
  have HC := Lib.hid hc
  clear h1 h2 he1 he2 hs1 hc uq hen
  go_enter Try.func5, Try.ntmps5
  go_upto_region 1 with fail
  generalize ((u.val.alloc (.cells #[.int .i64 n1, .slice a l1.length cap] 24)).alloc (.cells #[.int .i64 n2, .slice b l2.length capb] 24)) = Y at *
  generalize u.val.heap.size = g at *
  obtain ⟨y, hy⟩ : ∃ y : Later Y.heap.size Y, y.val = Y := ⟨Later.self _, rfl⟩
  have q0 : ∀ w : Later Y.heap.size Y, w.val.cell? ⟨g, 0, none⟩ = some (.int .i64 n1) := fun w => (HA.out.keep w.below).cell rfl
  have q1 : ∀ w : Later Y.heap.size Y, w.val.cell? ⟨g, 1, none⟩ = some (.slice a l1.length cap) := fun w => (HA.out.keep w.below).cell rfl
  have q2 : ∀ w : Later Y.heap.size Y, w.val.cell? ⟨g + 1, 0, none⟩ = some (.int .i64 n2) := fun w => (HB2.out.keep w.below).cell rfl
  have q3 : ∀ w : Later Y.heap.size Y, w.val.cell? ⟨g + 1, 1, none⟩ = some (.slice b l2.length capb) := fun w => (HB2.out.keep w.below).cell rfl
  rw [← hy]
  clear hy
  refine wp_region_later y (by kernel_rfl) (by kernel_rfl) (fun _ => ?_)
  repeat (first | go_big_quiet_step ((go_at_call 22; exact KC.out _ _ _ _ _ (by first | exact I1.out | exact I2.out) (by first | exact hlen1 | exact hlen2))) | (refine wpQuiet_step (fun K hK => ?_); go_simp; refine ⟨_, fun _ => rfl, ?_⟩; refine hK _ ?_; clear hK K))
  refine wpQuiet_nil ?_
  intro y
  have z0 : ((0 : Int) != 0) = false := rfl
  rcases HC.out with ⟨g1, rfl⟩ | ⟨rfl, g1, rfl⟩
  · have d0 : (er != 0) = true := by rw [bne_iff_ne]; exact g1
    clear HC
    go_wp2
    go_ret3
    exact Ret.of (HVY.out y) (by first | rfl | (rw [E1]; rfl))
  · have d0 : (er != 0) = true := by rw [bne_iff_ne]; exact g1
    clear HC
    go_wp2
    go_ret3
    exact Ret.of (HVY.out y) (by first | rfl | (rw [E2]; rfl))
end Go.Proofs.Ytjenaglgloaejaa
