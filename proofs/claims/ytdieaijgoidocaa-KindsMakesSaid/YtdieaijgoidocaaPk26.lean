
/-
  kinds.forest.
  slices.Sort, Clone, Compact at []int: the shelf's contracts at this program (printed by lay-shelf.mjs and lay-plain.mjs; numbers by name, so that it serves any seat).
  Rising lists, plainly: a rising list is told by its members; a sorted list without its doubles is the list of all sets that are in it.
-/
import Derived.Test.YtdieaijgoidocaaPk25
import Derived.Test.YtdieaijgoidocaaPk07
import Derived.Test.YtdieaijgoidocaaPk18
import Derived.Shelf.Sort.Plain
import Derived.Ground.Names2Prog
import Derived.Shelf.Slices.Clone
import Derived.Shelf.Slices.CompactI
import Derived.Shelf.Slices.In.SortNone
import Derived.Test.YtdieaijgoidocaaProg
import Derived.Test.YtdieaijgoidocaaPk02
import Derived.Lib.SlicesCompact
namespace Go.Proofs.Ytdieaijgoidocaa
open Go.RowKit
set_option linter.unusedVariables false

set_option maxRecDepth 100000 in
set_option maxHeartbeats 8000000 in
theorem c_forest {B : Nat} {W : World} (u : Later B W) (n s : Nat) (es : List (Int × Int)) (a : Option Addr) (cap : Nat) (h : EdgesAt B W a es) (hG : isGraph (n : Int) es) (hs : s < bit es.length) :
    Calls Try.prog 48 #[.agg #[.int .i64 n, .slice a es.length cap], .int .i64 s] u.val (Ret B W (.bool (forB n es s))) := by
  have hn7 : n ≤ 7 := by have := hG.2.1; omega
  have he8 : es.length ≤ 8 := hG.2.2.1
  have hs8 : s < 256 := by have := bit_le _ he8; omega
  have T0 : Hid (Two (u.val.alloc (.cells #[.int .i64 n, .slice a es.length cap] 48)) u.val.heap.size 48 (.int .i64 n) (.slice a es.length cap)) := Lib.hid (Two.new _ _ _ _)
  have hrr : u.val.heap.size < (u.val.alloc (.cells #[.int .i64 n, .slice a es.length cap] 48)).heap.size := by simp
  have HV : Hid (∀ v : Later (u.val.alloc (.cells #[.int .i64 n, .slice a es.length cap] 48)).heap.size (u.val.alloc (.cells #[.int .i64 n, .slice a es.length cap] 48)), ∃ w : Later B W, w.val = v.val) := Lib.hid (fun v => ⟨(u.alloc _).up v, rfl⟩)
  have HE : Hid (EdgesAt (u.val.alloc (.cells #[.int .i64 n, .slice a es.length cap] 48)).heap.size (u.val.alloc (.cells #[.int .i64 n, .slice a es.length cap] 48)) a es) := Lib.hid (h.to (u.alloc _))
  have HG := Lib.hid (Grf.of hG)
  have HI := Lib.hid hG
  have hmk := mk_tab n (by omega)
  clear h hG
  go_enter Try.func48, Try.ntmps48
  go_upto_region 1 with fail
  generalize hr2 : u.val.heap.size = g0 at *
  generalize u.val.alloc (.cells #[.int .i64 n, .slice a es.length cap] 48) = W1 at *
  clear hr2 u
  obtain ⟨v0, hv0⟩ : ∃ v0 : Later W1.heap.size W1, v0.val = W1 := ⟨Later.self _, rfl⟩
  have q0 : ∀ v : Later W1.heap.size W1, v.val.cell? ⟨g0, 0, none⟩ = some (.int .i64 n) := fun v => (T0.out.keep_at v.below hrr).c0
  have q1 : ∀ v : Later W1.heap.size W1, v.val.cell? ⟨g0, 1, none⟩ = some (.slice a es.length cap) := fun v => (T0.out.keep_at v.below hrr).c1
  have q0v := q0 v0
  rw [hv0] at q0v
  go_upto_region 2 with fail
  have k1 : (W1.alloc (.cells (madeCells #[Value.int .i64 0] n) 3)).heap.size = W1.heap.size + 1 := by simp
  have HT0 : Hid (ITab ((W1.alloc (.cells (madeCells #[Value.int .i64 0] n) 3)).alloc (.cells #[.slice (some ⟨W1.heap.size, 0, none⟩) n n] 22)) W1.heap.size n (nm (fun j => if j < 0 then j else 0))) := Lib.hid (((ITab.made W1 n).congr (fun j _ => by simp [nm])).keep ((Below.refl _ _).alloc (Nat.le_refl _) _))
  have HB0 : Hid (RowAt1 ((W1.alloc (.cells (madeCells #[Value.int .i64 0] n) 3)).alloc (.cells #[.slice (some ⟨W1.heap.size, 0, none⟩) n n] 22)) (W1.heap.size + 1) 22 (.slice (some ⟨W1.heap.size, 0, none⟩) n n)) := Lib.hid (by
    have h := RowAt1.new (W1.alloc (.cells (madeCells #[Value.int .i64 0] n) 3)) 22 (.slice (some ⟨W1.heap.size, 0, none⟩) n n)
    rwa [k1] at h)
  obtain ⟨z0, hz0⟩ : ∃ z : Later W1.heap.size W1, z.val = ((W1.alloc (.cells (madeCells #[Value.int .i64 0] n) 3)).alloc (.cells #[.slice (some ⟨W1.heap.size, 0, none⟩) n n] 22)) := ⟨((Later.self W1).alloc _).alloc _, rfl⟩
  rw [← hz0] at HT0 HB0 ⊢
  clear hz0 hv0 v0 q0v hmk k1
  generalize hgt : W1.heap.size = gt at *
  clear hgt
  have bc := HB0.out.c0
  go_wp2
  clear bc
  go_loopw [17] (fun i wr => ∃ (k : Nat) (v : Later gt W1), k ≤ n ∧ i = .int .i64 k ∧ wr = v.val ∧ Hid (ITab v.val gt n (nm (fun j => if j < k then j else 0))) ∧ Hid (RowAt1 v.val (gt + 1) 22 (.slice (some ⟨gt, 0, none⟩) n n))) (fun i _ => n - (intOf i).toNat)
  case atStart => exact ⟨0, z0, by omega, rfl, rfl, HT0, HB0⟩
  case round =>
    clear z0 HT0 HB0
    obtain ⟨k, v, hk, rfl, rfl, HT, HB⟩ := hrel
    have bc := HB.out.c0
    by_cases hlt : k < n
    · have fz := HT.out.frozen k
      obtain ⟨ov, hov⟩ : ∃ o : Int, v.val.cell? ⟨gt, k, none⟩ = some (.int .i64 o) := ⟨_, HT.out.cell hlt⟩
      have HT2 : Hid (ITab (v.val.setCell ⟨gt, k, none⟩ (.int .i64 (k : Nat))) gt n (nm (fun j => if j < k + 1 then j else 0))) := Lib.hid (HT.out.set k _ (fun j hj => by
        show ((if j < k + 1 then j else 0 : Nat) : Int) = if j = k then (k : Int) else ((if j < k then j else 0 : Nat) : Int)
        by_cases c : j = k
        · subst c; simp
        · rw [if_neg c]
          by_cases c2 : j < k
          · rw [if_pos c2, if_pos (by omega)]
          · rw [if_neg c2, if_neg (by omega)]))
      have HB2 : Hid (RowAt1 (v.val.setCell ⟨gt, k, none⟩ (.int .i64 (k : Nat))) (gt + 1) 22 (.slice (some ⟨gt, 0, none⟩) n n)) := Lib.hid (by
        exact (Below.heap_setCell _ _ _ _ (show gt + 1 ≠ gt by omega)).trans HB.out)
      go_wp2
      go_roundw
      case rel => exact ⟨k+1, v.set ⟨gt, k, none⟩ (by show gt ≤ gt; omega) _, by omega, by go_num, rfl, HT2, HB2⟩
      case measure => simp [intOf]; omega
    · have hke : k = n := by omega
      subst hke
      have HU0 : Hid (UF k (fun j => j) (Jn es (upto s 0))) := Lib.hid (UF.start k (fun i j hi hj => by rw [upto_zero, Jn.none]))
      have HTi : Hid (ITab v.val gt k (nm (fun j => j))) := Lib.hid (HT.out.congr (fun j hj => by show ((if j < k then j else 0 : Nat) : Int) = (j : Int); rw [if_pos hj]))
      have HF0 : Hid (fsum k es s 0 = k) := Lib.hid (fsum_zero HG.out s)
      have q1v := q1 v
      clear HT hlt hk
      go_wp2
      clear q1v bc
      go_loopw [29] (fun i wr => ∃ (q : Nat) (p : Nat → Nat) (v : Later gt W1), q ≤ es.length ∧ i = .int .i64 q ∧ wr = v.val ∧ Hid (ITab v.val gt k (nm p)) ∧ Hid (RowAt1 v.val (gt + 1) 22 (.slice (some ⟨gt, 0, none⟩) k k)) ∧ Hid (UF k p (Jn es (upto s q))) ∧ Hid (fsum k es s q = k)) (fun i _ => es.length - (intOf i).toNat)
      case atStart => exact ⟨0, fun j => j, v, by omega, rfl, rfl, HTi, HB, HU0, HF0⟩
      case round =>
        clear v HTi HB HU0 HF0
        obtain ⟨q, p, v, hq, rfl, rfl, HT, HB, HU, HF⟩ := hrel
        by_cases hlt2 : q < es.length
        · obtain ⟨be, offe, rfl, hbe, hce⟩ := HE.out.at hlt2
          have e0 := (hce v q hlt2).1
          have e1 := (hce v q hlt2).2
          have HX := HI.out.2.2.2 q hlt2
          obtain ⟨y, hy⟩ := Int.eq_ofNat_of_zero_le HX.1
          obtain ⟨z, hz⟩ := Int.eq_ofNat_of_zero_le HX.2.1
          have hvy : vA es q = y := by unfold vA; rw [hy]; rfl
          have hvz : vB es q = z := by unfold vB; rw [hz]; rfl
          rw [hy, hz] at HX
          have hyk : y < k := by omega
          have hzk : z < k := by omega
          rw [hy] at e0
          rw [hz] at e1
          have HVY := Lib.hid hvy
          have HVZ := Lib.hid hvz
          clear HX hy hz hce hvy hvz
          have T1 : Hid (Two (v.val.alloc (.cells #[.int .i64 y, .int .i64 z] 45)) v.val.heap.size 45 (.int .i64 y) (.int .i64 z)) := Lib.hid (Two.new _ _ _ _)
          have HTa : Hid (ITab (v.val.alloc (.cells #[.int .i64 y, .int .i64 z] 45)) gt k (nm p)) := Lib.hid (HT.out.keep ((Below.refl _ _).alloc (Nat.le_refl _) _))
          have HBa : Hid (RowAt1 (v.val.alloc (.cells #[.int .i64 y, .int .i64 z] 45)) (gt + 1) 22 (.slice (some ⟨gt, 0, none⟩) k k)) := Lib.hid (HB.out.keep ((Below.refl _ _).alloc (Nat.le_refl _) _))
          have HVa : Hid (∀ w : Later (v.val.alloc (.cells #[.int .i64 y, .int .i64 z] 45)).heap.size (v.val.alloc (.cells #[.int .i64 y, .int .i64 z] 45)), ∃ w' : Later gt W1, w'.val = w.val) := Lib.hid (fun w => ⟨(v.alloc _).up w, rfl⟩)
          have s1 := shr_andC s q hs8
          have bc := bit_cast q
          rw [bc] at s1
          rcases btf (s.testBit q) with g1 | g1
          · rw [g1] at s1
            have HG1 := Lib.hid g1
            clear g1
            go_upto_region 12 with fail
            clear s1 e0 e1
            have hgev : v.val.heap.size < (v.val.alloc (.cells #[.int .i64 y, .int .i64 z] 45)).heap.size := by simp
            have hgbv := HB.out.lt
            generalize hge : v.val.heap.size = ge at *
            generalize v.val.alloc (.cells #[.int .i64 y, .int .i64 z] 45) = W2 at *
            clear hge HT HB v
            obtain ⟨v, hv2⟩ : ∃ v : Later W2.heap.size W2, v.val = W2 := ⟨Later.self _, rfl⟩
            rw [← hv2]
            clear hv2
            have hgb2 : gt + 1 < W2.heap.size := by omega
            have c0 : ∀ w : Later W2.heap.size W2, w.val.cell? ⟨ge, 0, none⟩ = some (.int .i64 y) := fun w => (T1.out.keep w.below).c0
            have c1 : ∀ w : Later W2.heap.size W2, w.val.cell? ⟨ge, 1, none⟩ = some (.int .i64 z) := fun w => (T1.out.keep w.below).c1
            obtain ⟨ra, hra, HRa⟩ := HU.out.root hyk
            obtain ⟨rb, hrb, HRb⟩ := HU.out.root hzk
            obtain ⟨d, hd⟩ := HU.out.wf
            have KA : Hid (∀ w : Later W2.heap.size W2, Calls Try.prog 56 #[.int .i64 y, .pointer (some ⟨gt + 1, 0, none⟩)] w.val (Ret W2.heap.size W2 (.int .i64 ra))) := Lib.hid (fun w => c_find w k hn7 p HU.out.lt d hd gt (gt + 1) HTa.out HBa.out.c0 (by omega) hgb2 y ra hyk HRa)
            have KZ : Hid (∀ w : Later W2.heap.size W2, Calls Try.prog 56 #[.int .i64 z, .pointer (some ⟨gt + 1, 0, none⟩)] w.val (Ret W2.heap.size W2 (.int .i64 rb))) := Lib.hid (fun w => c_find w k hn7 p HU.out.lt d hd gt (gt + 1) HTa.out HBa.out.c0 (by omega) hgb2 z rb hzk HRb)
            have HRa2 := Lib.hid HRa
            have HRb2 := Lib.hid HRb
            clear HRa HRb hd d
            refine wp_region_later v (by kernel_rfl) (by kernel_rfl) (fun _ => ?_)
            repeat (go_big_quiet_step (fail))
            go_big_quiet_step (exact KA.out _)
            repeat (go_big_quiet_step (fail))
            go_big_quiet_step (exact KZ.out _)
            repeat (go_big_quiet_step (fail))
            refine wpQuiet_nil ?_
            intro v
            clear KA KZ c0 c1 T1
            by_cases hrr2 : ra = rb
            · have hjn : Jn es (upto s q) (vA es q) (vB es q) := by
                rw [HVY.out, HVZ.out]
                exact (HU.out.jn y z hyk hzk).2 ⟨ra, HRa2.out, hrr2 ▸ HRb2.out⟩
              have hr := forB_ring HG.out he8 hs hlt2 HF.out HG1.out hjn
              subst hrr2
              clear hjn
              go_wp2
              go_ret
              obtain ⟨w, hw⟩ := HVa.out v
              obtain ⟨w2, hw2⟩ := HV.out w
              rw [hr, ← hw, ← hw2]; exact Ret.mk w2 rfl
            · have b1 : ((ra : Int) == (rb : Int)) = false := by rw [beq_eq_false_iff_ne]; omega
              have b2 : (ra == rb) = false := by rw [beq_eq_false_iff_ne]; omega
              have hnj : ¬ Jn es (upto s q) (vA es q) (vB es q) := by
                rw [HVY.out, HVZ.out]
                intro c
                obtain ⟨r, h1, h2⟩ := (HU.out.jn y z hyk hzk).1 c
                exact hrr2 ((HRa2.out.one h1).trans (HRb2.out.one h2).symm)
              have HF2 := Lib.hid ((fsum_yes HG.out hlt2 (by omega) HG1.out hnj).trans HF.out)
              have HU2 : Hid (UF k (hang p ra rb) (Jn es (upto s (q + 1)))) := Lib.hid (by
                rw [upto_yes HG1.out]
                refine HU.out.join hyk hzk hrb HRa2.out HRb2.out hrr2 (fun i j hi hj => ?_)
                rw [← HVY.out, ← HVZ.out]
                exact Jn.step HG.out hlt2 hi hj)
              have HTv := HTa.out.keep v.below
              have HBv := HBa.out.keep v.below
              have bc := HBv.c0
              have fz := HTv.frozen ra
              obtain ⟨ov, hov⟩ : ∃ o : Int, v.val.cell? ⟨gt, ra, none⟩ = some (.int .i64 o) := ⟨_, HTv.cell hra⟩
              have HT2 : Hid (ITab (v.val.setCell ⟨gt, ra, none⟩ (.int .i64 (rb : Nat))) gt k (nm (hang p ra rb))) := Lib.hid (HTv.set ra _ (fun j hj => by
                show ((if j = ra then rb else p j : Nat) : Int) = if j = ra then (rb : Int) else (p j : Int)
                split <;> rfl))
              have HB2 : Hid (RowAt1 (v.val.setCell ⟨gt, ra, none⟩ (.int .i64 (rb : Nat))) (gt + 1) 22 (.slice (some ⟨gt, 0, none⟩) k k)) := Lib.hid (
                (Below.heap_setCell _ _ _ _ (show gt + 1 ≠ gt by omega)).trans HBv)
              clear HTv HBv hnj hrr2 HU HF
              obtain ⟨w, hw⟩ := HVa.out v
              generalize v.val = vv at *
              subst hw
              go_wp2
              go_roundw
              case rel => exact ⟨q+1, _, w.set ⟨gt, ra, none⟩ (by show gt ≤ gt; omega) _, by omega, by go_num, rfl, HT2, HB2, HU2, HF2⟩
              case measure => simp [intOf]; omega
          · rw [g1] at s1
            have HF2 := Lib.hid ((fsum_no (n := k) (es := es) g1).trans HF.out)
            have HU2 : Hid (UF k p (Jn es (upto s (q + 1)))) := Lib.hid (by rw [upto_no g1]; exact HU.out)
            clear g1
            go_wp2
            obtain ⟨w2, hw2⟩ := HVa.out (Later.self _)
            dsimp only [Later.self] at hw2
            rw [← hw2] at HTa HBa ⊢
            go_roundw
            case rel => exact ⟨q+1, p, w2, by omega, by go_num, rfl, HTa, HBa, HU2, HF2⟩
            case measure => simp [intOf]; omega
        · have hqe : q = es.length := by omega
          subst hqe
          have hr := forB_end (n := k) (es := es) hs HF.out
          go_wp2
          go_ret
          obtain ⟨w, hw⟩ := HV.out v
          rw [hr, ← hw]; exact Ret.mk w rfl

end Go.Proofs.Ytdieaijgoidocaa

namespace Go.Proofs
open Go.Shelf
def Try.laysNm215_ren : Go.Shelf.Ren := ⟨fun | 15 => 45 | n => n, fun | 22 => 22 | 3 => 3 | 4 => 4 | n => n, fun | n => n⟩
theorem Try.laysNm215 : Go.Proofs.Lays2.n15 Try.prog Try.laysNm215_ren := {
  mixed := by kernel_rfl
  f15 := Try.func45.trans (congrArg some (by kernel_rfl))
  t3 := Try.underlying3
  a3 := Try.isAgg3
  z3 := Try.sizeOf3
  v3 := Try.zeroValue3
  t4 := Try.underlying4
  a4 := Try.isAgg4
  z4 := Try.sizeOf4
  v4 := Try.zeroValue4
  t22 := Try.underlying22
  a22 := Try.isAgg22
  z22 := Try.sizeOf22
  v22 := Try.zeroValue22
  i3 := by kernel_rfl }
open Go.RowKit Go.Lib in
theorem Try.slices_Clone_int (b off n c : Nat) (zs : List Int) (w : World) (hz : n ≤ zs.length) (hbig : n * 8 ≤ 140737488355328) (hc : ∀ j, j < zs.length → w.cell? ⟨b, off + j, none⟩ = some (.int .i64 (zs.getD j 0))) :
    Calls Try.prog 45 #[.slice (some ⟨b, off, none⟩) n c] w fun e w' => ∃ v', e = .returned v' ∧ w'.ownsRow w.heap.size 3 1 v' n ((zs.take n).map (Value.int .i64)) ∧ v' ≠ .slice none 0 0 ∧ Below w.heap.size w w' := Any.slices_Clone_int Try.laysNm215 b off n c zs w hz hbig hc
open Go.RowKit Go.Lib in
theorem Try.slices_Clone_int_nil (n c : Nat) (w : World) :
    Calls Try.prog 45 #[.slice none n c] w fun e w' => e = .returned (.slice none 0 0) ∧ w' = w := Any.slices_Clone_int_nil Try.laysNm215 n c w
open Go.RowKit Go.Lib in
theorem Try.slices_Clone_int_zero (a : Addr) (c : Nat) (w : World) :
    Calls Try.prog 45 #[.slice (some a) 0 c] w fun e w' => ∃ v', e = .returned v' ∧ w'.ownsRow w.heap.size 3 1 v' 0 [] ∧ v' ≠ .slice none 0 0 ∧ Below w.heap.size w w' := Any.slices_Clone_int_zero Try.laysNm215 a c w
end Go.Proofs

namespace Go.Proofs.Ytdieaijgoidocaa
set_option linter.unusedVariables false

theorem pw_ext : ∀ {l1 l2 : List Int}, l1.Pairwise (· < ·) → l2.Pairwise (· < ·) → (∀ x, x ∈ l1 ↔ x ∈ l2) → l1 = l2
  | [], [], _, _, _ => rfl
  | [], b :: s, _, _, h => by have := (h b).2 List.mem_cons_self; cases this
  | a :: t, [], _, _, h => by have := (h a).1 List.mem_cons_self; cases this
  | a :: t, b :: s, h1, h2, h => by
    rw [List.pairwise_cons] at h1 h2
    have hab : a = b := by
      rcases List.mem_cons.1 ((h a).1 List.mem_cons_self) with e | e
      · exact e
      · rcases List.mem_cons.1 ((h b).2 List.mem_cons_self) with g | g
        · exact g.symm
        · have := h2.1 a e
          have := h1.1 b g
          omega
    subst hab
    have ht : t = s := pw_ext h1.2 h2.2 (fun x => by
      constructor
      · intro hx
        rcases List.mem_cons.1 ((h x).1 (List.mem_cons_of_mem _ hx)) with e | e
        · have := h1.1 x hx; omega
        · exact e
      · intro hx
        rcases List.mem_cons.1 ((h x).2 (List.mem_cons_of_mem _ hx)) with e | e
        · have := h2.1 x hx; omega
        · exact e)
    rw [ht]
theorem those_pw (m : Nat) (p : Nat → Bool) : (ints (those m p)).Pairwise (· < ·) := by
  unfold ints those
  rw [List.pairwise_map]
  refine (List.Pairwise.filter p List.pairwise_lt_range).imp ?_
  intro a b h
  omega
/-- sorted, as slices.Sort has it -/
def srt (l : List Int) : List Int := l.mergeSort fun x y => decide (x ≤ y)
theorem srt_len (l : List Int) : (srt l).length = l.length := List.length_mergeSort _
theorem srt_mem {l : List Int} {x : Int} : x ∈ srt l ↔ x ∈ l := List.mem_mergeSort
theorem srt_pw (l : List Int) : (srt l).Pairwise (· ≤ ·) := by
  have h := List.pairwise_mergeSort (le := fun x y : Int => decide (x ≤ y)) (fun a b c h1 h2 => by simp at *; omega) (fun a b => by simp; omega) l
  exact h.imp (fun h => by simpa using h)
/-- without doubles, as slices.Compact has it -/
def cpt (l : List Int) : List Int := Lib.compact l
theorem pw_get {l : List Int} (h : l.Pairwise (· ≤ ·)) {i j : Nat} (hij : i ≤ j) (hj : j < l.length) : l.getD i 0 ≤ l.getD j 0 := by
  by_cases e : i = j
  · subst e; exact Int.le_refl _
  · have := List.pairwise_iff_getElem.1 h i j (by omega) hj (by omega)
    have h1 : l.getD i 0 = l[i] := by simp [show i < l.length by omega]
    have h2 : l.getD j 0 = l[j] := by simp [hj]
    rw [h1, h2]; exact this
theorem arr_get (l : List Int) {i : Nat} (h : i < l.length) : l.toArray[i]! = l.getD i 0 := by
  simp [h]
theorem cpt_eq (l : List Int) : cpt l = ((List.range l.length).filter (fun j => decide (j = 0 ∨ l.getD j 0 ≠ l.getD (j - 1) 0))).map (fun j => l.getD j 0) := by
  unfold cpt Lib.compact Lib.compactUpTo
  have h1 : (List.range l.length).filter (Lib.keeps l.toArray) = (List.range l.length).filter (fun j => decide (j = 0 ∨ l.getD j 0 ≠ l.getD (j - 1) 0)) := List.filter_congr (fun j hj => by
    have hj' : j < l.length := by simpa using hj
    unfold Lib.keeps
    rw [arr_get l hj', arr_get l (show j - 1 < l.length by omega)])
  rw [h1]
  refine List.map_congr_left (fun j hj => ?_)
  have hj' : j < l.length := by
    have := (List.mem_filter.1 hj).1
    simpa using this
  exact arr_get l hj'
theorem cpt_pw {l : List Int} (h : l.Pairwise (· ≤ ·)) : (cpt l).Pairwise (· < ·) := by
  rw [cpt_eq, List.pairwise_map]
  have hp : ((List.range l.length).filter (fun j => decide (j = 0 ∨ l.getD j 0 ≠ l.getD (j - 1) 0))).Pairwise (· < ·) := List.Pairwise.filter _ List.pairwise_lt_range
  refine List.Pairwise.imp_of_mem (fun {a b} ha hb hab => ?_) hp
  have hb1 := List.mem_filter.1 hb
  have hbl : b < l.length := by simpa using hb1.1
  have hbk : b = 0 ∨ l.getD b 0 ≠ l.getD (b - 1) 0 := of_decide_eq_true hb1.2
  have h1 := pw_get h (show a ≤ b - 1 by omega) (by omega)
  have h2 := pw_get h (show b - 1 ≤ b by omega) hbl
  rcases hbk with e | e
  · omega
  · omega
theorem cpt_mem {l : List Int} {x : Int} : x ∈ cpt l ↔ x ∈ l := by
  rw [cpt_eq, List.mem_map]
  constructor
  · rintro ⟨j, hj, rfl⟩
    have hj' : j < l.length := by
      have := (List.mem_filter.1 hj).1
      simpa using this
    simp [hj']
  · intro hx
    -- the first place that holds x
    have key : ∀ n, n ≤ l.length → (∃ j, j < n ∧ l.getD j 0 = x) → ∃ j, j < l.length ∧ l.getD j 0 = x ∧ (j = 0 ∨ l.getD (j - 1) 0 ≠ x) := by
      intro n
      induction n with
      | zero => rintro _ ⟨j, hj, _⟩; omega
      | succ n ih =>
        rintro hn ⟨j, hj, e⟩
        by_cases c : ∃ j, j < n ∧ l.getD j 0 = x
        · exact ih (by omega) c
        · have hjn : j = n := by
            by_cases e2 : j < n
            · exact absurd ⟨j, e2, e⟩ c
            · omega
          subst hjn
          refine ⟨j, by omega, e, ?_⟩
          by_cases e3 : j = 0
          · exact .inl e3
          · exact .inr (fun h => c ⟨j - 1, by omega, h⟩)
    obtain ⟨i, hi, e⟩ := List.getElem_of_mem hx
    obtain ⟨j, h1, h2, h3⟩ := key l.length (Nat.le_refl _) ⟨i, hi, by simp [hi, e]⟩
    refine ⟨j, List.mem_filter.2 ⟨by simpa using h1, decide_eq_true ?_⟩, h2⟩
    rcases h3 with h3 | h3
    · exact .inl h3
    · exact .inr (by rw [h2]; exact fun h => h3 h.symm)
theorem mem_ints2 {l : List Nat} {x : Int} : x ∈ ints l ↔ ∃ n, n ∈ l ∧ x = (n : Int) := by
  unfold ints
  rw [List.mem_map]
  constructor
  · rintro ⟨n, h, rfl⟩; exact ⟨n, h, rfl⟩
  · rintro ⟨n, h, rfl⟩; exact ⟨n, h, rfl⟩
/-- sorted, without doubles: all sets that are in the list -/
theorem cpt_srt {m : Nat} {l : List Nat} (h : ∀ s, s ∈ l → s < bit m) : cpt (srt (ints l)) = ints (those m (fun s => decide (s ∈ l))) := by
  refine pw_ext (cpt_pw (srt_pw _)) (those_pw _ _) (fun x => ?_)
  rw [cpt_mem, srt_mem, mem_ints2, mem_ints2]
  constructor
  · rintro ⟨n, h1, e⟩; exact ⟨n, mem_those.2 ⟨h n h1, by simpa using h1⟩, e⟩
  · rintro ⟨n, h1, e⟩; exact ⟨n, by simpa using (mem_those.1 h1).2, e⟩

end Go.Proofs.Ytdieaijgoidocaa
