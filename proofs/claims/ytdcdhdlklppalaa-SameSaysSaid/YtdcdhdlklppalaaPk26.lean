
/-
  The function values of same.Group, same.Orbits and rotaref.Group: orders are counted, and where elements go.
  What the check of a matroid tells where it finds nothing, plainly.
-/
import Derived.Test.YtdcdhdlklppalaaPk12
import Derived.Test.YtdcdhdlklppalaaPk43
import Derived.Test.YtdcdhdlklppalaaPk05
namespace Go.Proofs.Ytdcdhdlklppalaa
open Go.RowKit
set_option linter.unusedVariables false

/-- a count that wraps -/
def cntN : Nat → Int
  | 0 => 0
  | n + 1 => wrap64 (cntN n + 1)
/-- where element i goes -/
def orT (l : List (List Nat)) (i : Nat) : Nat := l.foldl (fun t q => t ||| bit (q.getD i 0)) 0
theorem orT_snoc (l : List (List Nat)) (q : List Nat) (i : Nat) : orT (l ++ [q]) i = orT l i ||| bit (q.getD i 0) := by unfold orT; rw [List.foldl_append]; rfl
/-- a count in a box -/
structure GpI (bn bp : Nat) (o : Option Nat) (l : List (List Nat)) (w : World) : Prop where
  ob : ∀ g, o = some g → g ≠ bn
  row : RowAt1 w bn 3 (.int .i64 (cntN l.length))
theorem GpI.kept {bn bp : Nat} (hb : bn ≠ bp) {o o' : Option Nat} {l : List (List Nat)} {w w' : World} (h : GpI bn bp o l w) (hk : Kept bp o w w') (hn : NewB w o o') : GpI bn bp o' l w' where
  ob := fun g hg => by
    rcases hn with e | ⟨x, e, hx⟩
    · exact h.ob g (e ▸ hg)
    · have hl := h.row.lt
      rw [e] at hg
      have : x = g := by simpa using hg
      omega
  row := row1_kept h.row hk hb (fun x hx => h.ob x hx)
theorem GpI.other {bn bp b i : Nat} {o : Option Nat} {l : List (List Nat)} {w : World} (h : GpI bn bp o l w) (hne : bn ≠ b) (x : Value) : GpI bn bp o l (w.setCell ⟨b, i, none⟩ x) := ⟨h.ob, row1_other h.row hne x⟩

/-- a table under a box -/
structure OrI (n bo bt c bp : Nat) (o : Option Nat) (A : Nat → Nat) (w : World) : Prop where
  ob : ∀ g, o = some g → g ≠ bo ∧ g ≠ bt
  row : RowAt1 w bo 22 (.slice (some ⟨bt, 0, none⟩) n c)
  tab : ITab w bt n (fun i => (A i : Int))
  lt : ∀ i, i < n → A i < bit n
theorem OrI.kept {n bo bt c bp : Nat} (hb : bo ≠ bp) (hb2 : bt ≠ bp) {o o' : Option Nat} {A : Nat → Nat} {w w' : World} (h : OrI n bo bt c bp o A w) (hk : Kept bp o w w') (hn : NewB w o o') : OrI n bo bt c bp o' A w' where
  ob := fun g hg => by
    rcases hn with e | ⟨x, e, hx⟩
    · exact h.ob g (e ▸ hg)
    · have hl := h.row.lt
      have hl2 := h.tab.lt
      rw [e] at hg
      have : x = g := by simpa using hg
      subst this
      exact ⟨by omega, by omega⟩
  row := row1_kept h.row hk hb (fun x hx => (h.ob x hx).1)
  tab := World.rowIs.of_block h.tab (hk.block bt h.tab.lt hb2 (fun e => (h.ob bt e).2 rfl))
  lt := h.lt
theorem OrI.other {n bo bt c bp b i : Nat} {o : Option Nat} {A : Nat → Nat} {w : World} (h : OrI n bo bt c bp o A w) (h1 : bo ≠ b) (h2 : bt ≠ b) (x : Value) : OrI n bo bt c bp o A (w.setCell ⟨b, i, none⟩ x) := ⟨h.ob, row1_other h.row h1 x, h.tab.other h2 x, h.lt⟩
theorem OrI.congr {n bo bt c bp : Nat} {o : Option Nat} {A A' : Nat → Nat} {w : World} (h : OrI n bo bt c bp o A w) (e : ∀ i, i < n → A i = A' i) : OrI n bo bt c bp o A' w := ⟨h.ob, h.row, h.tab.congr (fun j hj => by show (A j : Int) = (A' j : Int); rw [e j hj]), fun i hi => by rw [← e i hi]; exact h.lt i hi⟩
theorem OrI.set {n bo bt c bp : Nat} {o : Option Nat} {A A' : Nat → Nat} {w : World} (h : OrI n bo bt c bp o A w) (hne : bo ≠ bt) (i z : Nat) (hz : z < bit n) (e : ∀ j, j < n → A' j = if j = i then z else A j) : OrI n bo bt c bp o A' (w.setCell ⟨bt, i, none⟩ (.int .i64 z)) := ⟨h.ob, row1_other h.row hne _, h.tab.set i z (fun j hj => by show (A' j : Int) = _; rw [e j hj]; split <;> rfl), fun j hj => by rw [e j hj]; split; exact hz; exact h.lt j hj⟩
theorem OrI.up {n bo bt c bp : Nat} {o : Option Nat} {A : Nat → Nat} {w w' : World} (h : OrI n bo bt c bp o A w) (hb : Below w.heap.size w w') : OrI n bo bt c bp o A w' := ⟨h.ob, h.row.keep hb, h.tab.keep hb, h.lt⟩

set_option maxRecDepth 100000 in
set_option maxHeartbeats 4000000 in
theorem c_grpDo {B bp : Nat} {W : World} {bn : Nat} (hbp : bp < B) (h1 : bn < bp) (v : Off B (fun k => k = bp ∨ k = bn) W) (l : List (List Nat)) (q : List Nat) (ad : Option Addr) (cp : Nat) (hP : PAt B bp v.val ad cp q) (hI : GpI bn bp (ownBlk ad) l v.val) :
    Calls Try.prog 39 #[.slice ad q.length cp, .pointer (some ⟨bn, 0, none⟩)] v.val (fun e w' => e = .returned (.bool true) ∧ ∃ v' : Off B (fun k => k = bp ∨ k = bn) W, w' = v'.val ∧ PAt B bp v'.val ad cp q ∧ GpI bn bp (ownBlk ad) (l ++ [q]) v'.val) := by
  have c0 : v.val.cell? ⟨bn, 0, none⟩ = some (.int .i64 (cntN l.length)) := hI.row.c0
  have c1 : v.val.frozen? ⟨bn, 0, none⟩ = false := hI.row.frozen
  have HFin : Hid (∃ v' : Off B (fun k => k = bp ∨ k = bn) W, v.val.setCell ⟨bn, 0, none⟩ (.int .i64 (wrap64 (cntN l.length + 1))) = v'.val ∧ PAt B bp v'.val ad cp q ∧ GpI bn bp (ownBlk ad) (l ++ [q]) v'.val) := Lib.hid (by
    refine ⟨v.store bn 0 (.inr rfl) _, rfl, ⟨row1_other hP.1 (by omega) _, ownsRow_setCell_below hP.2 (show bn < B by omega) _⟩, hI.ob, ?_⟩
    have : cntN (l ++ [q]).length = wrap64 (cntN l.length + 1) := by rw [List.length_append]; rfl
    rw [this]
    exact hI.row.store)
  clear hP hI
  generalize cntN l.length = x at *
  go_enter Try.func39, Try.ntmps39
  go_wp2
  go_ret
  obtain ⟨v', e1, e2, e3⟩ := HFin.out
  exact ⟨rfl, v', e1, e2, e3⟩
theorem grp_do (B bp : Nat) (W : World) (n bn : Nat) (hbp : bp < B) (h1 : bn < bp) : DoOn B bp W (fun k => k = bn) n true 39 #[.pointer (some ⟨bn, 0, none⟩)] (GpI bn bp) where
  plain := fun _ _ => by kernel_rfl
  keep := fun o o' l w w' h hk hn => h.kept (by omega) hk hn
  call := fun v l q ad cp hq hl hP hI => c_grpDo hbp h1 v l q ad cp hP hI

set_option maxRecDepth 100000 in
set_option maxHeartbeats 4000000 in
theorem c_orbDo {B bp : Nat} {W : World} {n bo bt c : Nat} (hn : n ≤ 8) (hbp : bp < B) (h1 : bo < bp) (h2 : bt < bp) (hne : bo ≠ bt) (v : Off B (fun k => k = bp ∨ (k = bo ∨ k = bt)) W) (l : List (List Nat)) (q : List Nat) (ad : Option Addr) (cp : Nat) (hq : Pm n q) (hP : PAt B bp v.val ad cp q) (hI : OrI n bo bt c bp (ownBlk ad) (orT l) v.val) :
    Calls Try.prog 40 #[.slice ad q.length cp, .pointer (some ⟨bo, 0, none⟩)] v.val (fun e w' => e = .returned (.bool true) ∧ ∃ v' : Off B (fun k => k = bp ∨ (k = bo ∨ k = bt)) W, w' = v'.val ∧ PAt B bp v'.val ad cp q ∧ OrI n bo bt c bp (ownBlk ad) (orT (l ++ [q])) v'.val) := by
  have hql := hq.len
  subst hql
  have hbn := bit_le q.length hn
  have HQ : Hid (∀ k, k < q.length → q.getD k 0 < q.length) := Lib.hid hq.lt
  have HSn := Lib.hid (orT_snoc l q)
  generalize hA1 : orT (l ++ [q]) = A1 at *
  clear hA1
  generalize hA0 : orT l = A0 at *
  clear hA0
  have HI0 := Lib.hid hI
  have HP0 := Lib.hid hP
  have HPo : Hid (∀ y : Off B (fun k => k = bp ∨ (k = bo ∨ k = bt)) W, PAt B bp y.val ad cp q → ∀ i x, PAt B bp (y.val.setCell ⟨bt, i, none⟩ x) ad cp q) := Lib.hid (fun y h i x => ⟨row1_other h.1 (by omega) _, ownsRow_setCell_below h.2 (show bt < B by omega) _⟩)
  clear hP hI hq
  go_enter Try.func40, Try.ntmps40
  go_wp2
  go_loopw [8] (fun kv wr => ∃ (k : Nat) (y : Off B (fun k => k = bp ∨ (k = bo ∨ k = bt)) W), k ≤ q.length ∧ kv = .int .i64 k ∧ wr = y.val ∧ Hid (PAt B bp y.val ad cp q) ∧ Hid (OrI q.length bo bt c bp (ownBlk ad) (fun i => if i < k then A1 i else A0 i) y.val)) (fun kv _ => q.length - (intOf kv).toNat)
  case atStart => exact ⟨0, v, by omega, rfl, rfl, HP0, Lib.hid (HI0.out.congr (fun i _ => by simp))⟩
  case round =>
    clear v HI0 HP0
    obtain ⟨k, y, hk, rfl, rfl, HP, HI⟩ := hrel
    by_cases hlt : k < q.length
    · have HIq : Hid (IntsAt y.val.heap.size y.val ad (ints q)) := Lib.hid HP.out.2.reads
      obtain ⟨bb, off, rfl, hbB, hcell⟩ := HIq.out.at (k := k) (by rw [ints_len]; omega)
      have c0 : ∀ w : Later y.val.heap.size y.val, w.val.cell? ⟨bb, off + k, none⟩ = some (.int .i64 ((q.getD k 0 : Nat) : Int)) := fun w => by rw [← ints_getD]; exact hcell w k (by rw [ints_len]; omega)
      have c0y := c0 (Later.self y.val)
      have hx := HQ.out k hlt
      have hlk := HI.out.lt k hlt
      have b0 : ∀ w : Later y.val.heap.size y.val, w.val.cell? ⟨bo, 0, none⟩ = some (.slice (some ⟨bt, 0, none⟩) q.length c) := fun w => (HI.out.row.keep w.below).c0
      have t0 : ∀ w : Later y.val.heap.size y.val, w.val.cell? ⟨bt, k, none⟩ = some (.int .i64 (A0 k : Int)) := fun w => by
        have := (HI.out.tab.keep w.below).cell hlt
        simpa using this
      have t1 : ∀ w : Later y.val.heap.size y.val, w.val.frozen? ⟨bt, k, none⟩ = false := fun w => (HI.out.tab.keep w.below).frozen _
      have HN : Hid (A1 k = A0 k ||| bit (q.getD k 0)) := Lib.hid (HSn.out k)
      have hA0 : A0 k < bit q.length := by simpa using hlk
      clear hcell hlk HIq
      dsimp only [Later.self] at c0y
      generalize q.getD k 0 = x at *
      have bx := bit_cast x
      have hbx := bit_lt x (by omega)
      have hbxn := bit_lt_bit hx
      have hor : A0 k ||| bit x < bit q.length := or_lt_bit hA0 hbxn
      have w1 := IntWalk.i64_in (bit x : Int) (by omega)
      have o1 := i64_or (A0 k) (bit x) (by omega) (by omega)
      have HSt : Hid (∀ w : Later y.val.heap.size y.val, OrI q.length bo bt c bp (ownBlk (some ⟨bb, off, none⟩)) (fun i => if i < k + 1 then A1 i else A0 i) (w.val.setCell ⟨bt, k, none⟩ (.int .i64 ((A0 k ||| bit x : Nat) : Int)))) := Lib.hid (fun w => (HI.out.up w.below).set hne k (A0 k ||| bit x) hor (fun j _ => by
        by_cases e : j = k
        · subst e; rw [if_pos (by omega), if_pos rfl, HN.out]
        · rw [if_neg e]
          by_cases e2 : j < k
          · rw [if_pos (by omega), if_pos e2]
          · rw [if_neg (by omega), if_neg e2]))
      have HPn : Hid (∀ (w : Later y.val.heap.size y.val) (z : Value), PAt B bp (w.val.setCell ⟨bt, k, none⟩ z) (some ⟨bb, off, none⟩) cp q) := Lib.hid (fun w z => HPo.out (y.up w) (HP.out.keep w.below) k z)
      clear HI HP HN
      generalize A0 k = t at *
      generalize t ||| bit x = z at *
      go_upto_region 4 with fail
      refine wp_region_later_tail (Later.self y.val) 8 (by kernel_rfl) (by kernel_rfl) (fun z2 => ?_)
      simp only [List.take_succ_cons, List.take_zero, List.drop_succ_cons, List.drop_zero]
      repeat still_step
      refine wpStill_nil ?_
      go_wp2
      go_roundw
      case rel => exact ⟨k + 1, (y.up z2).store bt k (.inr (.inr rfl)) _, by omega, by go_num, by first | rfl | trivial, HPn.out z2 _, HSt.out z2⟩
      case measure => simp [intOf]; omega
    · have hke : k = q.length := by omega
      subst hke
      clear hlt hk
      go_wp2
      go_ret
      exact ⟨rfl, y, rfl, HP.out, HI.out.congr (fun i hi => by simp [hi])⟩
theorem orb_do (B bp : Nat) (W : World) (n bo bt c : Nat) (hn : n ≤ 8) (hbp : bp < B) (h1 : bo < bp) (h2 : bt < bp) (hne : bo ≠ bt) : DoOn B bp W (fun k => k = bo ∨ k = bt) n true 40 #[.pointer (some ⟨bo, 0, none⟩)] (fun o l w => OrI n bo bt c bp o (orT l) w) where
  plain := fun _ _ => by kernel_rfl
  keep := fun o o' l w w' h hk hn => h.kept (by omega) (by omega) hk hn
  call := fun v l q ad cp hq hl hP hI => c_orbDo hn hbp h1 h2 hne v l q ad cp hq hP hI
end Go.Proofs.Ytdcdhdlklppalaa

namespace Go.Proofs.Ytdcdhdlklppalaa
set_option linter.unusedVariables false

theorem MatIs.ok {n : Int} {l : List Int} (h : MatIs n l 0) : okM n l ∧ Exch (toN l) := by
  by_cases c : okM n l
  · refine ⟨c, ?_⟩
    apply Classical.byContradiction
    intro g
    exact absurd (h.2.1 c g) (by decide)
  · exact absurd (h.1 c) (by decide)
end Go.Proofs.Ytdcdhdlklppalaa
