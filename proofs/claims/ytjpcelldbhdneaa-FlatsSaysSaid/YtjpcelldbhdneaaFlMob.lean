
/-
  The Mobius numbers of a lattice's flats, one behind the other.
-/
import Derived.Test.YtjpcelldbhdneaaFlOf
import Derived.Test.YtjpcelldbhdneaaFlPl
import Derived.Test.YtjpcelldbhdneaaTab64
namespace Go.Proofs.Ytjpcelldbhdneaa
open Go.RowKit
set_option linter.unusedVariables false

/-- the table behind i flats and k ones of the next -/
def muT (F : List Nat) (A : Nat → Int) (i k j : Nat) : Int := if j < i then A j else if j = i then - psum F A i k else 0
theorem psum_le {F : List Nat} {A : Nat → Int} (hA : MuIs F A) (i k : Nat) : -((k * 256 : Nat) : Int) ≤ psum F A i k ∧ psum F A i k ≤ ((k * 256 : Nat) : Int) := isum_le (b := 256) (fun j _ => by
  have := hA.2.2 j
  show -((256 : Nat) : Int) ≤ (if _ then _ else _) ∧ (if _ then _ else _) ≤ ((256 : Nat) : Int)
  split
  · omega
  · decide)
theorem muT_start (F : List Nat) (A : Nat → Int) (j : Nat) : muT F A 0 0 j = 0 := by
  unfold muT
  rw [if_neg (by omega)]
  split <;> rfl
theorem muT_next {F : List Nat} {A : Nat → Int} (hA : MuIs F A) {i : Nat} (h0 : 0 < i) (hi : i < F.length) (j : Nat) : muT F A i i j = muT F A (i + 1) 0 j := by
  unfold muT
  by_cases h1 : j < i
  · rw [if_pos h1, if_pos (by omega)]
  · by_cases h2 : j = i
    · rw [if_neg h1, if_pos h2, if_pos (by omega), h2, ← hA.2.1 i h0 hi]
    · rw [if_neg h1, if_neg h2, if_neg (by omega)]
      split <;> rfl
theorem muT_first {F : List Nat} {A : Nat → Int} (hA : MuIs F A) (j : Nat) : muT F A 1 0 j = if j = 0 then 1 else muT F A 0 0 j := by
  unfold muT
  by_cases h2 : j = 0
  · subst h2; rw [if_pos (by omega), if_pos rfl, hA.1]
  · rw [if_neg (show ¬ j < 1 by omega), if_neg h2, if_neg (show ¬ j < 0 by omega), if_neg h2]
    split <;> rfl
theorem muT_yes {F : List Nat} {A : Nat → Int} {i k j : Nat} (h : F.getD k 0 &&& F.getD i 0 = F.getD k 0) : muT F A i (k + 1) j = if j = i then - psum F A i k - A k else muT F A i k j := by
  unfold muT
  by_cases h1 : j < i
  · rw [if_pos h1, if_neg (by omega), if_pos h1]
  · by_cases h2 : j = i
    · rw [if_neg h1, if_pos h2, if_pos h2]
      unfold psum
      simp only [isum]
      rw [if_pos h]
      omega
    · rw [if_neg h1, if_neg h2, if_neg h2, if_neg h1, if_neg h2]
theorem muT_no {F : List Nat} {A : Nat → Int} {i k j : Nat} (h : ¬ F.getD k 0 &&& F.getD i 0 = F.getD k 0) : muT F A i (k + 1) j = muT F A i k j := by
  unfold muT psum
  simp only [isum]
  rw [if_neg h, Int.add_zero]

set_option maxRecDepth 100000 in
set_option maxHeartbeats 8000000 in
theorem c_latMobius {B : Nat} {W : World} (u : Later B W) (F : List Nat) (h256 : F.length ≤ 256) (hF8 : ∀ i, i < F.length → F.getD i 0 < 256) (adF : Option Addr) (cpF : Nat) (hF : IntsAt B W adF (ints F)) (hcp : F.length ≤ cpF) (A : Nat → Int) (hA : MuIs F A) (x y z : Value) :
    Calls Try.prog 179 #[.agg #[x, y, .slice adF (ints F).length cpF, z]] u.val (RetP B W (fun v w => ∃ g, v = .slice (some ⟨g, 0, none⟩) F.length F.length ∧ JTab w g F.length A ∧ B ≤ g)) := by
  have hmk := mk_tab64 F.length (by omega)
  rw [ints_len]
  have TR : RowL (u.val.alloc (.cells #[x, y, .slice adF F.length cpF, z] 115)) u.val.heap.size 115 [x, y, .slice adF F.length cpF, z] := RowL.new _ _ _
  have q2 : ∀ w : Later (u.val.alloc (.cells #[x, y, .slice adF F.length cpF, z] 115)).heap.size (u.val.alloc (.cells #[x, y, .slice adF F.length cpF, z] 115)), w.val.cell? ⟨u.val.heap.size, 2, none⟩ = some (.slice adF F.length cpF) := fun w => (TR.keep w.below).cell rfl
  have p2 : (u.val.alloc (.cells #[x, y, .slice adF F.length cpF, z] 115)).cell? ⟨u.val.heap.size, 2, none⟩ = some (.slice adF F.length cpF) := TR.cell rfl
  have hgr : u.val.heap.size < (u.val.alloc (.cells #[x, y, .slice adF F.length cpF, z] 115)).heap.size := TR.lt
  have HI : Hid (IntsAt (u.val.alloc (.cells #[x, y, .slice adF F.length cpF, z] 115)).heap.size (u.val.alloc (.cells #[x, y, .slice adF F.length cpF, z] 115)) adF (ints F)) := Lib.hid (hF.to (u.alloc _))
  have HV : Hid (∀ v : Later (u.val.alloc (.cells #[x, y, .slice adF F.length cpF, z] 115)).heap.size (u.val.alloc (.cells #[x, y, .slice adF F.length cpF, z] 115)), ∃ w : Later B W, w.val = v.val) := Lib.hid (fun v => ⟨(u.alloc _).up v, rfl⟩)
  have HBg : Hid (B ≤ (u.val.alloc (.cells #[x, y, .slice adF F.length cpF, z] 115)).heap.size) := Lib.hid (by have := u.size; simp; omega)
  have HF8 := Lib.hid hF8
  have HA := Lib.hid hA
  clear hF TR hF8 hA
  go_enter Try.func179, Try.ntmps179
  go_upto_region 1 with fail
  generalize hr2 : u.val.heap.size = g0 at *
  generalize (u.val.alloc (.cells #[x, y, .slice adF F.length cpF, z] 115)) = W1 at *
  clear hr2 u
  go_upto_region 2 with fail
  clear p2
  have HT : Hid (JTab (W1.alloc (.cells (madeCells #[Value.int .i64 0] F.length) 2)) W1.heap.size F.length (muT F A 0 0)) := Lib.hid ((JTab.made W1 F.length).congr (fun j _ => (muT_start F A j).symm))
  have HZ : Hid (∃ w : Later W1.heap.size W1, w.val = W1.alloc (.cells (madeCells #[Value.int .i64 0] F.length) 2)) := Lib.hid ⟨(Later.self W1).alloc _, rfl⟩
  generalize W1.alloc (.cells (madeCells #[Value.int .i64 0] F.length) 2) = W2 at *
  obtain ⟨v1, hv1⟩ := HZ.out
  subst hv1
  clear HZ hmk
  generalize hgg : W1.heap.size = g at *
  clear hgg
  have hg1 : g ≤ g := Nat.le_refl _
  go_wp2
  go_loopw [15] (fun i wr => ∃ (s : Nat) (v : Later g W1), s ≤ F.length ∧ i = .int .i64 s ∧ wr = v.val ∧ Hid (JTab v.val g F.length (muT F A s 0))) (fun i _ => F.length - (intOf i).toNat)
  case atStart => exact ⟨0, v1, by omega, rfl, rfl, HT⟩
  case round =>
    clear v1 HT
    obtain ⟨i, v, hi, rfl, rfl, HT⟩ := hrel
    by_cases hlt : i < F.length
    · obtain ⟨bb, off, rfl, hbB, hcell⟩ := HI.out.at (k := i) (by rw [ints_len]; exact hlt)
      have HC := Lib.hid (fun (w : Later g W1) (k : Nat) (hk : k < F.length) => hcell w k (by rw [ints_len]; exact hk))
      have c0 : ∀ w : Later g W1, w.val.cell? ⟨bb, off + i, none⟩ = some (.int .i64 ((F.getD i 0 : Nat) : Int)) := fun w => by rw [← ints_getD]; exact HC.out w i hlt
      have hfi := HF8.out i hlt
      clear hcell
      obtain ⟨fi, hfe⟩ : ∃ fi, F.getD i 0 = fi := ⟨_, rfl⟩
      rw [hfe] at c0 hfi
      have HFe := Lib.hid hfe
      clear hfe
      by_cases h0 : i = 0
      · have d0 : ((i : Int) == 0) = true := by rw [beq_iff_eq]; omega
        have c1 : v.val.cell? ⟨g, i, none⟩ = some (.int .i64 0) := by
          have := HT.out.cell hlt
          rwa [show muT F A i 0 i = 0 by subst h0; exact muT_start F A 0] at this
        have c2 := HT.out.frozen i
        have HN : Hid (∀ w : World, JTab w g F.length (muT F A i 0) → JTab (w.setCell ⟨g, i, none⟩ (.int .i64 1)) g F.length (muT F A (i + 1) 0)) := Lib.hid (fun w h => by subst h0; exact h.set 0 1 (fun j _ => muT_first HA.out j))
        have c0' := c0 v
        clear h0
        go_wp2
        go_roundw
        case rel => exact ⟨i+1, v.set ⟨g, i, none⟩ hg1 _, by omega, by go_num, rfl, Lib.hid (HN.out _ HT.out)⟩
        case measure => simp [intOf]; omega
      · have d0 : ((i : Int) == 0) = false := by rw [beq_eq_false_iff_ne]; omega
        go_wp2
        go_loopw [30] (fun k wr => ∃ (s : Nat) (v : Later g W1), s ≤ i ∧ k = .int .i64 s ∧ wr = v.val ∧ Hid (JTab v.val g F.length (muT F A i s))) (fun k _ => i - (intOf k).toNat)
        case atStart => exact ⟨0, v, by omega, rfl, rfl, HT⟩
        case round =>
          clear v HT
          obtain ⟨k, v, hk, rfl, rfl, HT⟩ := hrel
          by_cases hltk : k < i
          · have c3 : ∀ w : Later g W1, w.val.cell? ⟨bb, off + k, none⟩ = some (.int .i64 ((F.getD k 0 : Nat) : Int)) := fun w => by rw [← ints_getD]; exact HC.out w k (by omega)
            have hfk := HF8.out k (by omega)
            have o1 := i64_and (F.getD k 0) fi (by omega) (by omega)
            by_cases hq : F.getD k 0 &&& fi = F.getD k 0
            · have HTw : Hid (∀ w : Later v.val.heap.size v.val, JTab w.val g F.length (muT F A i k)) := Lib.hid (fun w => HT.out.keep w.below)
              have c4 : ∀ w : Later v.val.heap.size v.val, w.val.cell? ⟨g, i, none⟩ = some (.int .i64 (- psum F A i k)) := fun w => by
                have := (HTw.out w).cell hlt
                rwa [show muT F A i k i = - psum F A i k by unfold muT; rw [if_neg (by omega), if_pos rfl]] at this
              have c5 : ∀ w : Later v.val.heap.size v.val, w.val.cell? ⟨g, k, none⟩ = some (.int .i64 (A k)) := fun w => by
                have := (HTw.out w).cell (i := k) (by omega)
                rwa [show muT F A i k k = A k by unfold muT; rw [if_pos hltk]] at this
              have c6 : ∀ w : Later v.val.heap.size v.val, w.val.frozen? ⟨g, i, none⟩ = false := fun w => (HTw.out w).frozen i
              have hb1 := psum_le HA.out i k
              have hb2 := HA.out.2.2 k
              have hw := IntWalk.i64_in (- psum F A i k - A k) (by omega)
              have HN : Hid (∀ w : World, JTab w g F.length (muT F A i k) → JTab (w.setCell ⟨g, i, none⟩ (.int .i64 (- psum F A i k - A k))) g F.length (muT F A i (k + 1))) := Lib.hid (fun w h => h.set i _ (fun j _ => muT_yes (by rw [HFe.out]; exact hq)))
              rw [hq] at o1
              clear hq HT
              generalize F.getD k 0 = fk at *
              generalize psum F A i k = p at *
              generalize A k = q at *
              have c3' := c3 v
              have hkF : k < F.length := by omega
              go_wp2
              refine wp_region_later_tail (Later.self v.val) 9 (by kernel_rfl) (by kernel_rfl) (fun v2 => ?_)
              simp only [List.take_succ_cons, List.take_zero, List.drop_succ_cons, List.drop_zero]
              repeat still_step
              refine wpStill_nil ?_
              go_wp2
              go_roundw
              case rel => exact ⟨k+1, (v.up v2).set ⟨g, i, none⟩ hg1 _, by omega, by go_num, rfl, Lib.hid (HN.out _ (HTw.out v2))⟩
              case measure => simp [intOf]; omega
            · have HN : Hid (JTab v.val g F.length (muT F A i (k + 1))) := Lib.hid (HT.out.congr (fun j _ => (muT_no (by rw [HFe.out]; exact hq)).symm))
              have d1 : (((F.getD k 0 &&& fi : Nat) : Int) == ((F.getD k 0 : Nat) : Int)) = false := by rw [beq_eq_false_iff_ne]; omega
              clear hq HT
              generalize F.getD k 0 &&& fi = fki at *
              generalize F.getD k 0 = fk at *
              go_wp2
              go_roundw
              case rel => exact ⟨k+1, v, by omega, by go_num, rfl, HN⟩
              case measure => simp [intOf]; omega
          · have hke : k = i := by omega
            subst hke
            have HN : Hid (JTab v.val g F.length (muT F A (k + 1) 0)) := Lib.hid (HT.out.congr (fun j _ => muT_next HA.out (by omega) hlt j))
            go_wp2
            go_roundw
            case rel => exact ⟨k+1, v, by omega, by go_num, rfl, HN⟩
            case measure => simp [intOf]; omega
    · have hie : Hid (i = F.length) := Lib.hid (by omega)
      go_wp2
      go_ret
      refine RetP.of (HV.out v) ⟨g, rfl, HT.out.congr (fun j hj => ?_), HBg.out⟩
      unfold muT
      rw [hie.out, if_pos hj]

end Go.Proofs.Ytjpcelldbhdneaa
