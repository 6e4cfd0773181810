
/-
  rotaref.Group.
  rotaref.Group: how many orders, and where elements go.
  minors.made.
-/
import Derived.Test.YtdcdhdlklppalaaPk28
import Derived.Test.YtdcdhdlklppalaaPk02
import Derived.Test.YtdcdhdlklppalaaPk27
import Derived.Test.YtdcdhdlklppalaaPk18
import Derived.Test.YtdcdhdlklppalaaPk12
namespace Go.Proofs.Ytdcdhdlklppalaa
open Go.RowKit
set_option linter.unusedVariables false

theorem rowL_other {w : World} {g b i : Nat} {t : TypeId} {vs : List Value} (h : RowL w g t vs) (hne : g ≠ b) (x : Value) : RowL (w.setCell ⟨b, i, none⟩ x) g t vs := by
  show (w.setCell _ _).heap[g]? = _
  rw [Below.heap_setCell _ _ _ _ (by rintro rfl; exact hne rfl)]
  exact h
/-- a count and a table, and a matroid's box that stays -/
structure GrR (n bn bm bo bt c bp : Nat) (l1 : List Value) (o : Option Nat) (l : List (List Nat)) (w : World) : Prop where
  gp : GpI bn bp o l w
  tb : OrI n bo bt c bp o (orT l) w
  md : RowL w bm 24 l1
  ob : ∀ g, o = some g → g ≠ bm
theorem GrR.kept {n bn bm bo bt c bp : Nat} {l1 : List Value} (h1 : bn ≠ bp) (h2 : bm ≠ bp) (h3 : bo ≠ bp) (h4 : bt ≠ bp) {o o' : Option Nat} {l : List (List Nat)} {w w' : World} (h : GrR n bn bm bo bt c bp l1 o l w) (hk : Kept bp o w w') (hn : NewB w o o') : GrR n bn bm bo bt c bp l1 o' l w' where
  gp := h.gp.kept h1 hk hn
  tb := h.tb.kept h3 h4 hk hn
  md := by
    show w'.heap[bm]? = _
    rw [hk.block bm h.md.lt h2 (fun e => h.ob bm e rfl)]
    exact h.md
  ob := fun g hg => by
    rcases hn with e | ⟨x, e, hx⟩
    · exact h.ob g (e ▸ hg)
    · have hl := h.md.lt
      rw [e] at hg
      have : x = g := by simpa using hg
      omega

set_option maxRecDepth 100000 in
set_option maxHeartbeats 4000000 in
theorem c_grpDoR {B bp : Nat} {W : World} {n bn bm bo bt c : Nat} {lv : List Value} {vm : Value} (hn : n ≤ 8) (hlv : lv = [.int .i64 n, vm]) (hbp : bp < B) (h1 : bn < bp) (h2 : bm < bp) (h3 : bo < bp) (h4 : bt < bp) (k1 : bn ≠ bm) (k2 : bn ≠ bo) (k3 : bn ≠ bt) (k4 : bm ≠ bt) (k5 : bo ≠ bt) (v : Off B (fun k => k = bp ∨ (k = bn ∨ k = bt)) W) (l : List (List Nat)) (q : List Nat) (ad : Option Addr) (cp : Nat) (hq : Pm n q) (hP : PAt B bp v.val ad cp q) (hI : GrR n bn bm bo bt c bp lv (ownBlk ad) l v.val) :
    Calls Try.prog 25 #[.slice ad q.length cp, .pointer (some ⟨bn, 0, none⟩), .pointer (some ⟨bm, 0, none⟩), .pointer (some ⟨bo, 0, none⟩)] v.val (fun e w' => e = .returned (.bool true) ∧ ∃ v' : Off B (fun k => k = bp ∨ (k = bn ∨ k = bt)) W, w' = v'.val ∧ PAt B bp v'.val ad cp q ∧ GrR n bn bm bo bt c bp lv (ownBlk ad) (l ++ [q]) v'.val) := by
  subst hlv
  have hql := hq.len
  subst hql
  have hbn := bit_le q.length hn
  have HQ : Hid (∀ k, k < q.length → q.getD k 0 < q.length) := Lib.hid hq.lt
  have HSn := Lib.hid (orT_snoc l q)
  have c0 : v.val.cell? ⟨bn, 0, none⟩ = some (.int .i64 (cntN l.length)) := hI.gp.row.c0
  have c1 : v.val.frozen? ⟨bn, 0, none⟩ = false := hI.gp.row.frozen
  have HP1 : Hid (PAt B bp (v.val.setCell ⟨bn, 0, none⟩ (.int .i64 (wrap64 (cntN l.length + 1)))) ad cp q) := Lib.hid ⟨row1_other hP.1 (by omega) _, ownsRow_setCell_below hP.2 (show bn < B by omega) _⟩
  have HG1 : Hid (GpI bn bp (ownBlk ad) (l ++ [q]) (v.val.setCell ⟨bn, 0, none⟩ (.int .i64 (wrap64 (cntN l.length + 1))))) := Lib.hid (by
    refine ⟨hI.gp.ob, ?_⟩
    have : cntN (l ++ [q]).length = wrap64 (cntN l.length + 1) := by rw [List.length_append]; rfl
    rw [this]
    exact hI.gp.row.store)
  have HT1 : Hid (OrI q.length bo bt c bp (ownBlk ad) (orT l) (v.val.setCell ⟨bn, 0, none⟩ (.int .i64 (wrap64 (cntN l.length + 1))))) := Lib.hid (hI.tb.other (fun e => k2 e.symm) (fun e => k3 e.symm) _)
  have HM1 : Hid (RowL (v.val.setCell ⟨bn, 0, none⟩ (.int .i64 (wrap64 (cntN l.length + 1)))) bm 24 [.int .i64 q.length, vm]) := Lib.hid (rowL_other hI.md (fun e => k1 e.symm) _)
  obtain ⟨v1, hv1⟩ : ∃ v1 : Off B (fun k => k = bp ∨ (k = bn ∨ k = bt)) W, v1.val = v.val.setCell ⟨bn, 0, none⟩ (.int .i64 (wrap64 (cntN l.length + 1))) := ⟨v.store bn 0 (.inr (.inl rfl)) _, rfl⟩
  have HOb := Lib.hid hI.ob
  rw [← hv1] at HP1 HG1 HT1 HM1
  have HV1 := Lib.hid hv1
  clear hv1
  have HPo : Hid (∀ y : Off B (fun k => k = bp ∨ (k = bn ∨ k = bt)) W, PAt B bp y.val ad cp q → ∀ i x, PAt B bp (y.val.setCell ⟨bt, i, none⟩ x) ad cp q) := Lib.hid (fun y h i x => ⟨row1_other h.1 (by omega) _, ownsRow_setCell_below h.2 (show bt < B by omega) _⟩)
  generalize hA1 : orT (l ++ [q]) = A1 at *
  have HA1 := Lib.hid hA1
  clear hA1
  generalize hA0 : orT l = A0 at *
  clear hA0
  clear hP hI hq
  go_enter Try.func25, Try.ntmps25
  go_upto_region 2 with fail
  rw [← HV1.out]
  clear HV1 c0 c1 v
  go_wp2
  go_loopw [6] (fun kv wr => ∃ (k : Nat) (y : Off B (fun k => k = bp ∨ (k = bn ∨ k = bt)) W), k ≤ q.length ∧ kv = .int .i64 k ∧ wr = y.val ∧ Hid (PAt B bp y.val ad cp q) ∧ Hid (OrI q.length bo bt c bp (ownBlk ad) (fun i => if i < k then A1 i else A0 i) y.val) ∧ Hid (GpI bn bp (ownBlk ad) (l ++ [q]) y.val) ∧ Hid (RowL y.val bm 24 [.int .i64 q.length, vm])) (fun kv _ => q.length - (intOf kv).toNat)
  case atStart => exact ⟨0, v1, by omega, rfl, rfl, HP1, Lib.hid (HT1.out.congr (fun i _ => by simp)), HG1, HM1⟩
  case round =>
    clear v1 HP1 HT1 HG1 HM1
    obtain ⟨k, y, hk, rfl, rfl, HP, HI, HG, HM⟩ := hrel
    have m0 : ∀ w : Later y.val.heap.size y.val, w.val.cell? ⟨bm, 0, none⟩ = some (.int .i64 q.length) := fun w => (HM.out.keep w.below).cell rfl
    have m0y : y.val.cell? ⟨bm, 0, none⟩ = some (.int .i64 q.length) := HM.out.cell rfl
    by_cases hlt : k < q.length
    · have HIq : Hid (IntsAt y.val.heap.size y.val ad (ints q)) := Lib.hid HP.out.2.reads
      obtain ⟨bb, off, rfl, hbB, hcell⟩ := HIq.out.at (k := k) (by rw [ints_len]; omega)
      have c0 : ∀ w : Later y.val.heap.size y.val, w.val.cell? ⟨bb, off + k, none⟩ = some (.int .i64 ((q.getD k 0 : Nat) : Int)) := fun w => by rw [← ints_getD]; exact hcell w k (by rw [ints_len]; omega)
      have hx := HQ.out k hlt
      have hlk := HI.out.lt k hlt
      have b0 : ∀ w : Later y.val.heap.size y.val, w.val.cell? ⟨bo, 0, none⟩ = some (.slice (some ⟨bt, 0, none⟩) q.length c) := fun w => (HI.out.row.keep w.below).c0
      have t0 : ∀ w : Later y.val.heap.size y.val, w.val.cell? ⟨bt, k, none⟩ = some (.int .i64 (A0 k : Int)) := fun w => by
        have := (HI.out.tab.keep w.below).cell hlt
        simpa using this
      have t1 : ∀ w : Later y.val.heap.size y.val, w.val.frozen? ⟨bt, k, none⟩ = false := fun w => (HI.out.tab.keep w.below).frozen _
      have HN : Hid (A1 k = A0 k ||| bit (q.getD k 0)) := Lib.hid (HSn.out k)
      have hA0 : A0 k < bit q.length := by simpa using hlk
      clear hcell hlk HIq
      generalize q.getD k 0 = x at *
      have bx := bit_cast x
      have hbx := bit_lt x (by omega)
      have hbxn := bit_lt_bit hx
      have hor : A0 k ||| bit x < bit q.length := or_lt_bit hA0 hbxn
      have w1 := IntWalk.i64_in (bit x : Int) (by omega)
      have o1 := i64_or (A0 k) (bit x) (by omega) (by omega)
      have HSt : Hid (∀ w : Later y.val.heap.size y.val, OrI q.length bo bt c bp (ownBlk (some ⟨bb, off, none⟩)) (fun i => if i < k + 1 then A1 i else A0 i) (w.val.setCell ⟨bt, k, none⟩ (.int .i64 ((A0 k ||| bit x : Nat) : Int)))) := Lib.hid (fun w => (HI.out.up w.below).set k5 k (A0 k ||| bit x) hor (fun j _ => by
        by_cases e : j = k
        · subst e; rw [if_pos (by omega), if_pos rfl, HN.out]
        · rw [if_neg e]
          by_cases e2 : j < k
          · rw [if_pos (by omega), if_pos e2]
          · rw [if_neg (by omega), if_neg e2]))
      have HPn : Hid (∀ (w : Later y.val.heap.size y.val) (z : Value), PAt B bp (w.val.setCell ⟨bt, k, none⟩ z) (some ⟨bb, off, none⟩) cp q) := Lib.hid (fun w z => HPo.out (y.up w) (HP.out.keep w.below) k z)
      have HGn : Hid (∀ (w : Later y.val.heap.size y.val) (z : Value), GpI bn bp (ownBlk (some ⟨bb, off, none⟩)) (l ++ [q]) (w.val.setCell ⟨bt, k, none⟩ z)) := Lib.hid (fun w z => ⟨HG.out.ob, row1_other (HG.out.row.keep w.below) k3 _⟩)
      have HMn : Hid (∀ (w : Later y.val.heap.size y.val) (z : Value), RowL (w.val.setCell ⟨bt, k, none⟩ z) bm 24 [.int .i64 q.length, vm]) := Lib.hid (fun w z => rowL_other (HM.out.keep w.below) k4 _)
      clear HI HP HN HG HM
      generalize A0 k = t at *
      generalize t ||| bit x = z at *
      go_upto_region 5 with fail
      refine wp_region_later_tail (Later.self y.val) 11 (by kernel_rfl) (by kernel_rfl) (fun z2 => ?_)
      simp only [List.take_succ_cons, List.take_zero, List.drop_succ_cons, List.drop_zero]
      repeat still_step
      refine wpStill_nil ?_
      go_wp2
      go_roundw
      case rel => exact ⟨k + 1, (y.up z2).store bt k (.inr (.inr rfl)) _, by omega, by go_num, by first | rfl | trivial, HPn.out z2 _, HSt.out z2, HGn.out z2 _, HMn.out z2 _⟩
      case measure => simp [intOf]; omega
    · have hke : k = q.length := by omega
      subst hke
      clear hlt hk
      go_wp2
      go_ret
      exact ⟨rfl, y, rfl, HP.out, HG.out, by rw [HA1.out]; exact HI.out.congr (fun i hi => by simp [hi]), HM.out, HOb.out⟩
theorem grp_doR (B bp : Nat) (W : World) (n bn bm bo bt c : Nat) (lv : List Value) (vm : Value) (hn : n ≤ 8) (hlv : lv = [.int .i64 n, vm]) (hbp : bp < B) (h1 : bn < bp) (h2 : bm < bp) (h3 : bo < bp) (h4 : bt < bp) (k1 : bn ≠ bm) (k2 : bn ≠ bo) (k3 : bn ≠ bt) (k4 : bm ≠ bt) (k5 : bo ≠ bt) : DoOn B bp W (fun k => k = bn ∨ k = bt) n true 25 #[.pointer (some ⟨bn, 0, none⟩), .pointer (some ⟨bm, 0, none⟩), .pointer (some ⟨bo, 0, none⟩)] (fun o l w => GrR n bn bm bo bt c bp lv o l w) where
  plain := fun _ _ => by kernel_rfl
  keep := fun o o' l w w' h hk hn => h.kept (by omega) (by omega) (by omega) (by omega) hk hn
  call := fun v l q ad cp hq hl hP hI => c_grpDoR hn hlv hbp h1 h2 h3 h4 k1 k2 k3 k4 k5 v l q ad cp hq hP hI
end Go.Proofs.Ytdcdhdlklppalaa

namespace Go.Proofs.Ytdcdhdlklppalaa
open Go.RowKit
set_option linter.unusedVariables false

set_option maxRecDepth 100000 in
set_option maxHeartbeats 4000000 in
theorem c_grpTell {B : Nat} {W : World} (u : Later B W) (A : List Nat) (hlen : A.length ≤ 4611686018427387904) (cap g : Nat) (a : Option Addr) (s : Nat) (h : IntsAt B W a (ints A)) (hg : g < B) (hbox : W.cell? ⟨g, 0, none⟩ = some (.slice a A.length cap)) :
    Calls Try.prog 27 #[.int .i64 s, .pointer (some ⟨g, 0, none⟩)] u.val (Ret B W (.bool (decide (s ∈ A)))) := by
  have q1 : u.val.cell? ⟨g, 0, none⟩ = some (.slice a A.length cap) := by rw [u.cell hg, hbox]
  have KH : Hid (Calls Try.prog 23 #[.slice a A.length cap, .int .i64 s] u.val (Ret B W (.bool (decide (s ∈ A))))) := Lib.hid (by
    have := c_contains u (ints A) (s : Int) a cap h (by rw [ints_len]; omega)
    rwa [show decide ((s : Int) ∈ ints A) = decide (s ∈ A) by simp only [mem_ints], ints_len] at this)
  clear h hbox
  generalize decide (s ∈ A) = d at *
  go_enter Try.func27, Try.ntmps27
  go_wp2_with (first | (go_at_call 23; refine (KH.out).mono ?_; rintro e _ ⟨rfl, v2, rfl⟩))
  go_ret
  exact Ret.mk v2 rfl

/-- what rotaref.Group answers -/
def GrpAns (B n : Nat) (F : List (List Nat)) (v : Value) (w : World) : Prop := ∃ ad cp, v = .tuple #[.int .i64 (cntN F.length), .slice ad (ints (those n (fun s => decide (s ∈ orbL n F)))).length cp] ∧ Own B w ad cp (ints (those n (fun s => decide (s ∈ orbL n F))))

set_option maxRecDepth 100000 in
set_option maxHeartbeats 16000000 in
theorem c_refGroup {B : Nat} {W : World} (u : Later B W) (n : Nat) (hn : n ≤ 8) (L : List Nat) (a : Option Addr) (cap : Nat) (h : IntsAt B W a (ints L)) (hlen : L.length ≤ 256) (hne : L ≠ []) (hlt : ∀ x, x ∈ L → x < bit n) :
    Calls Try.prog 7 #[.agg #[.int .i64 n, .slice a L.length cap]] u.val (RetP B W (GrpAns B n (ordF true n n L L))) := by
  have hs1 : (u.val.alloc (.cells #[.int .i64 n, .slice a L.length cap] 24)).heap.size = u.val.heap.size + 1 := by simp
  have hs2 : ((u.val.alloc (.cells #[.int .i64 n, .slice a L.length cap] 24)).alloc (.cells #[.int .i64 0] 3)).heap.size = u.val.heap.size + 2 := by simp
  have hs3 : (((u.val.alloc (.cells #[.int .i64 n, .slice a L.length cap] 24)).alloc (.cells #[.int .i64 0] 3)).alloc (.cells (madeCells #[.int .i64 0] n) 3)).heap.size = u.val.heap.size + 3 := by simp
  have huB := u.size
  have hZs : Hid (((((u.val.alloc (.cells #[.int .i64 n, .slice a L.length cap] 24)).alloc (.cells #[.int .i64 0] 3)).alloc (.cells (madeCells #[.int .i64 0] n) 3)).alloc (.cells #[.slice (some ⟨u.val.heap.size + 1 + 1, 0, none⟩) n n] 22)).heap.size = u.val.heap.size + 4) := Lib.hid (by simp)
  have HA : Hid (RowL ((((u.val.alloc (.cells #[.int .i64 n, .slice a L.length cap] 24)).alloc (.cells #[.int .i64 0] 3)).alloc (.cells (madeCells #[.int .i64 0] n) 3)).alloc (.cells #[.slice (some ⟨u.val.heap.size + 1 + 1, 0, none⟩) n n] 22)) u.val.heap.size 24 [.int .i64 n, .slice a L.length cap]) := Lib.hid ((((RowL.new _ _ _).keep ((Below.refl _ _).alloc (Nat.le_refl _) _)).keep ((Below.refl _ _).alloc (Nat.le_refl _) _)).keep ((Below.refl _ _).alloc (Nat.le_refl _) _))
  have R1 : Hid (RowAt1 ((((u.val.alloc (.cells #[.int .i64 n, .slice a L.length cap] 24)).alloc (.cells #[.int .i64 0] 3)).alloc (.cells (madeCells #[.int .i64 0] n) 3)).alloc (.cells #[.slice (some ⟨u.val.heap.size + 1 + 1, 0, none⟩) n n] 22)) (u.val.heap.size + 1) 3 (.int .i64 0)) := Lib.hid (by
    have h : RowAt1 ((u.val.alloc (.cells #[.int .i64 n, .slice a L.length cap] 24)).alloc (.cells #[.int .i64 0] 3)) (u.val.alloc (.cells #[.int .i64 n, .slice a L.length cap] 24)).heap.size 3 (.int .i64 0) := heap_alloc_new _ _
    rw [hs1] at h
    exact (h.keep ((Below.refl _ _).alloc (Nat.le_refl _) _)).keep ((Below.refl _ _).alloc (Nat.le_refl _) _))
  have R2 : Hid (ITab ((((u.val.alloc (.cells #[.int .i64 n, .slice a L.length cap] 24)).alloc (.cells #[.int .i64 0] 3)).alloc (.cells (madeCells #[.int .i64 0] n) 3)).alloc (.cells #[.slice (some ⟨u.val.heap.size + 1 + 1, 0, none⟩) n n] 22)) (u.val.heap.size + 2) n (fun _ => 0)) := Lib.hid (by
    have h := ITab.made ((u.val.alloc (.cells #[.int .i64 n, .slice a L.length cap] 24)).alloc (.cells #[.int .i64 0] 3)) n
    rw [hs2] at h
    exact h.keep ((Below.refl _ _).alloc (Nat.le_refl _) _))
  have R3 : Hid (RowAt1 ((((u.val.alloc (.cells #[.int .i64 n, .slice a L.length cap] 24)).alloc (.cells #[.int .i64 0] 3)).alloc (.cells (madeCells #[.int .i64 0] n) 3)).alloc (.cells #[.slice (some ⟨u.val.heap.size + 1 + 1, 0, none⟩) n n] 22)) (u.val.heap.size + 3) 22 (.slice (some ⟨u.val.heap.size + 2, 0, none⟩) n n)) := Lib.hid (by
    have h : RowAt1 ((((u.val.alloc (.cells #[.int .i64 n, .slice a L.length cap] 24)).alloc (.cells #[.int .i64 0] 3)).alloc (.cells (madeCells #[.int .i64 0] n) 3)).alloc (.cells #[.slice (some ⟨u.val.heap.size + 1 + 1, 0, none⟩) n n] 22)) (((u.val.alloc (.cells #[.int .i64 n, .slice a L.length cap] 24)).alloc (.cells #[.int .i64 0] 3)).alloc (.cells (madeCells #[.int .i64 0] n) 3)).heap.size 22 (.slice (some ⟨u.val.heap.size + 1 + 1, 0, none⟩) n n) := heap_alloc_new _ _
    rwa [hs3] at h)
  obtain ⟨x, hx⟩ : ∃ x : Later B W, x.val = ((((u.val.alloc (.cells #[.int .i64 n, .slice a L.length cap] 24)).alloc (.cells #[.int .i64 0] 3)).alloc (.cells (madeCells #[.int .i64 0] n) 3)).alloc (.cells #[.slice (some ⟨u.val.heap.size + 1 + 1, 0, none⟩) n n] 22)) := ⟨(((u.alloc _).alloc _).alloc _).alloc _, rfl⟩
  have y0 : ((u.val.alloc (.cells #[.int .i64 n, .slice a L.length cap] 24)).alloc (.cells #[.int .i64 0] 3)).cell? ⟨u.val.heap.size, 0, none⟩ = some (.int .i64 n) := (((RowL.new u.val 24 [.int .i64 n, .slice a L.length cap]).keep ((Below.refl _ _).alloc (Nat.le_refl _) _)).cell rfl)
  have hmk := mk_tab n (by omega)
  have HX := Lib.hid hx
  rw [← hx] at HA R1 R2 R3 hZs
  clear hx hs1 hs2 hs3
  have HI : Hid (IntsAt B W a (ints L)) := Lib.hid h
  clear h
  go_enter Try.func7, Try.ntmps7
  go_upto_region 3 with fail
  rw [← HX.out]
  clear HX y0 hmk
  have p0 : x.val.cell? ⟨u.val.heap.size, 0, none⟩ = some (.int .i64 n) := HA.out.cell rfl
  have p1 : x.val.cell? ⟨u.val.heap.size, 1, none⟩ = some (.slice a L.length cap) := HA.out.cell rfl
  rw [show u.val.heap.size + 1 + 1 + 1 = u.val.heap.size + 3 from rfl]
  generalize u.val.heap.size = g at *
  have hz := hZs.out
  have K := Lib.hid (c_orders x n n hn hn L L a a cap cap HI.out HI.out hlen hlen hne hne hlt hlt (fun k => k = g + 1 ∨ k = g + 2) (fun k hk => by show k < x.val.heap.size; omega) (fun k hk => by omega) true 25 #[.pointer (some ⟨g + 1, 0, none⟩), .pointer (some ⟨g, 0, none⟩), .pointer (some ⟨g + 3, 0, none⟩)] (fun bp o l w => GrR n (g + 1) g (g + 3) (g + 2) n bp [.int .i64 n, .slice a L.length cap] o l w)
    (fun bp W' k1 k2 k3 => grp_doR W'.heap.size bp W' n (g + 1) g (g + 3) (g + 2) n _ _ hn rfl k2 (by have : x.val.heap.size ≤ bp := k1; omega) (by have : x.val.heap.size ≤ bp := k1; omega) (by have : x.val.heap.size ≤ bp := k1; omega) (by have : x.val.heap.size ≤ bp := k1; omega) (by omega) (by omega) (by omega) (by omega) (by omega))
    (fun bp w k1 k2 => ⟨⟨(fun g hg => by cases hg), R1.out.keep k2⟩, ⟨(fun g hg => by cases hg), R3.out.keep k2, (R2.out.keep k2).congr (fun j _ => rfl), fun i _ => by have := (bit_le n hn).1; show 0 < bit n; omega⟩, HA.out.keep k2, (fun g hg => by cases hg)⟩))
  have hp1 : ∀ (args : Array Value) (w : World), (callFunc 25 args).run Try.prog w = .ok (.enter 25 args) w := fun _ _ => by kernel_rfl
  have HV : Hid (∀ v : Off x.val.heap.size (fun k => k = g + 1 ∨ k = g + 2) x.val, ∃ w : Later B W, w.val = v.val) := Lib.hid (fun v => by
    have hb := v.below (B0 := B) (by have := x.size; omega) (fun k hk => by omega)
    exact ⟨x.to v.val hb, rfl⟩)
  generalize hF : ordF true n n L L = F at *
  have K2 : Hid (Calls Try.prog 24 #[.agg #[.int .i64 n, .slice a L.length cap], .agg #[.int .i64 n, .slice a L.length cap], .func (.func 25) #[] #[.pointer (some ⟨g + 1, 0, none⟩), .pointer (some ⟨g, 0, none⟩), .pointer (some ⟨g + 3, 0, none⟩)]] x.val (fun e w' => e = .returned (.tuple #[]) ∧ ∃ v' : Later B W, w' = v'.val ∧ RowAt1 v'.val (g + 1) 3 (.int .i64 (cntN F.length)) ∧ RowAt1 v'.val (g + 3) 22 (.slice (some ⟨g + 2, 0, none⟩) n n) ∧ ITab v'.val (g + 2) n (fun i => (orT F i : Int)) ∧ RowL v'.val g 24 [.int .i64 n, .slice a L.length cap])) := Lib.hid (K.out.mono (by
    rintro e _ ⟨rfl, v', rfl, bp, o, hbp, hI⟩
    obtain ⟨w, hw⟩ := HV.out v'
    refine ⟨rfl, w, hw.symm, ?_⟩
    rw [hw]
    exact ⟨hI.gp.row, hI.tb.row, hI.tb.tab, hI.md⟩))
  clear K HV hF HI HA R1 R2 R3 hz hlt
  go_upto_region 4 with (first | (go_at_call 24; (with_reducible refine (K2.out).mono ?_); rintro e _ ⟨rfl, v', rfl, c0, c1, c2, c3⟩; have C0 := Lib.hid c0; have C1 := Lib.hid c1; have C2 := Lib.hid c2; have C3 := Lib.hid c3; clear c0 c1 c2 c3) | fail)
  clear K2 p0 p1
  have HVB : Hid (∀ y : Later v'.val.heap.size v'.val, ∃ w : Later B W, w.val = y.val) := Lib.hid (fun y => ⟨v'.up y, rfl⟩)
  have sa : ∀ w : Later v'.val.heap.size v'.val, w.val.cell? ⟨g + 1, 0, none⟩ = some (.int .i64 (cntN F.length)) ∧ w.val.cell? ⟨g, 0, none⟩ = some (.int .i64 n) := fun w => ⟨(C0.out.keep w.below).c0, (C3.out.keep w.below).cell rfl⟩
  have s0 : v'.val.drew.cell? ⟨g + 1, 0, none⟩ = some (.int .i64 (cntN F.length)) ∧ v'.val.drew.cell? ⟨g, 0, none⟩ = some (.int .i64 n) := sa (Later.self v'.val).drew
  have KT : Hid (Calls Try.prog 26 #[.int .i64 n, .func (.func 27) #[] #[.pointer (some ⟨g + 3, 0, none⟩)]] v'.val.drew (RetOwn v'.val.heap.size v'.val (ints (those n (fun s => decide (s ∈ orbL n F)))))) := Lib.hid (by
    refine c_those_own (Later.self v'.val).drew n hn 27 _ (fun s => decide (s ∈ orbL n F)) (fun args w => by kernel_rfl) (fun x v s hs => ?_)
    have hI := (C2.out.keep x.below).ints
    rw [orbL_tab] at hI
    have hl := orbL_len n F
    refine c_grpTell v (orbL n F) (by omega) n (g + 3) (some ⟨g + 2, 0, none⟩) s hI (Nat.lt_of_lt_of_le C1.out.lt x.size) ?_
    rw [hl]
    exact (C1.out.keep x.below).c0)
  clear C0 C1 C2 C3
  generalize hA : ints (those n (fun s => decide (s ∈ orbL n F))) = A at *
  have HA := Lib.hid hA
  clear hA
  go_region_held3 (fun w' => w'.cell? ⟨g + 1, 0, none⟩ = some (.int .i64 (cntN F.length)) ∧ w'.cell? ⟨g, 0, none⟩ = some (.int .i64 n)) (first | exact s0 | exact sa y1 | fail) (first | (go_at_call 26; (with_reducible refine (KT.out).mono ?_); rintro e _ ⟨_, rfl, ⟨ad, cp, rfl, hO⟩, y1, rfl⟩) | fail)
  go_wp2
  go_ret2
  exact RetP.of (HVB.out y1) (by unfold GrpAns; rw [HA.out]; exact ⟨ad, cp, rfl, hO.mono (by have := v'.size; omega)⟩)
end Go.Proofs.Ytdcdhdlklppalaa

namespace Go.Proofs.Ytdcdhdlklppalaa
open Go.RowKit
set_option linter.unusedVariables false

theorem Own.far {B : Nat} {w : World} {ad : Option Addr} {cap : Nat} {xs : List Int} (h : Own B w ad cap xs) : ∀ off, ad ≠ some ⟨w.heap.size, off, none⟩ := fun off e => by
  rcases h.open with ⟨e1, _, _⟩ | ⟨g, cur, e1, h1, h2, _⟩
  · rw [e1] at e; cases e
  · rw [e1] at e
    cases e
    have := (Array.getElem?_eq_some_iff.1 h2).1
    omega

end Go.Proofs.Ytdcdhdlklppalaa
