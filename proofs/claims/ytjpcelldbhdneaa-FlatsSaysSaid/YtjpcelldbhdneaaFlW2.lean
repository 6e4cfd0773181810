
/-
  flats.Independent, flats.Characteristic.
-/
import Derived.Test.YtjpcelldbhdneaaFlW
namespace Go.Proofs.Ytjpcelldbhdneaa
open Go.RowKit
set_option linter.unusedVariables false

/-- of how many of the first k sets, independent ones, the rank is d -/
def frTo (L : List Nat) (k d : Nat) : Int := isum (fun s => if rk L s = sz s ∧ rk L s = d then 1 else 0) k
theorem frTo_le (L : List Nat) (k d : Nat) : -((k : Nat) : Int) ≤ frTo L k d ∧ frTo L k d ≤ (k : Nat) := by
  have := isum_le (b := 1) (n := k) (f := fun s => if rk L s = sz s ∧ rk L s = d then 1 else 0) (fun i _ => by
    show -((1 : Nat) : Int) ≤ (if _ then _ else _) ∧ (if _ then _ else _) ≤ ((1 : Nat) : Int)
    split <;> decide)
  rw [Nat.mul_one] at this
  exact this
theorem frTo_yes (L : List Nat) {k : Nat} (h : rk L k = sz k) (j : Nat) : frTo L (k + 1) j = if j = rk L k then frTo L k (rk L k) + 1 else frTo L k j := by
  unfold frTo
  simp only [isum]
  by_cases c : j = rk L k
  · subst c; rw [if_pos ⟨h, rfl⟩, if_pos rfl]
  · rw [if_neg (fun g => c g.2.symm), if_neg c, Int.add_zero]
theorem frTo_no (L : List Nat) {k : Nat} (h : rk L k ≠ sz k) (j : Nat) : frTo L (k + 1) j = frTo L k j := by
  unfold frTo
  simp only [isum]
  rw [if_neg (fun g => h g.1), Int.add_zero]
set_option maxHeartbeats 400000 in
theorem c_size_flats2 {B : Nat} {W : World} (u : Later B W) (s : Nat) (hs : s < 256) :
    Calls Try.prog 181 #[.int .i64 s] u.val (Ret B W (.int .i64 (sz s))) := c_size_flats u s hs

set_option maxRecDepth 100000 in
set_option maxHeartbeats 8000000 in
theorem c_flInd {B : Nat} {W : World} (u : Later B W) (m : Nat) (hm : m ≤ 8) (l : List Int) (a : Option Addr) (cap : Nat) (h : IntsAt B W a l) (hlen : l.length ≤ 4611686018427387904) (he : MatIs (m : Int) l 0) (hR : ∀ s, s < bit m → rk (toN l) s ≤ rk (toN l) (bit m - 1)) :
    Calls Try.prog 72 #[.agg #[.int .i64 m, .slice a l.length cap]] u.val (RetP B W (ListE (tabL (rk (toN l) (bit m - 1) + 1) (frTo (toN l) (bit m))) 0)) := by
  have hbm := bit_le m hm
  have T0 : Two (u.val.alloc (.cells #[.int .i64 m, .slice a l.length cap] 24)) u.val.heap.size 24 (.int .i64 m) (.slice a l.length cap) := Two.new _ _ _ _
  have HV : Hid (∀ v : Later (u.val.alloc (.cells #[.int .i64 m, .slice a l.length cap] 24)).heap.size (u.val.alloc (.cells #[.int .i64 m, .slice a l.length cap] 24)), ∃ w : Later B W, w.val = v.val) := Lib.hid (fun v => ⟨(u.alloc _).up v, rfl⟩)
  have HB0 : Hid (B ≤ (u.val.alloc (.cells #[.int .i64 m, .slice a l.length cap] 24)).heap.size) := Lib.hid (by have := u.size; simp; omega)
  have q0 : ∀ w : Later (u.val.alloc (.cells #[.int .i64 m, .slice a l.length cap] 24)).heap.size (u.val.alloc (.cells #[.int .i64 m, .slice a l.length cap] 24)), w.val.cell? ⟨u.val.heap.size, 0, none⟩ = some (.int .i64 m) := fun w => (T0.keep w.below).c0
  have p0 : (u.val.alloc (.cells #[.int .i64 m, .slice a l.length cap] 24)).cell? ⟨u.val.heap.size, 0, none⟩ = some (.int .i64 m) := T0.c0
  have p1 : (u.val.alloc (.cells #[.int .i64 m, .slice a l.length cap] 24)).cell? ⟨u.val.heap.size, 1, none⟩ = some (.slice a l.length cap) := T0.c1
  have K0 := Lib.hid (show Calls Try.prog 178 #[.agg #[.int .i64 m, .slice a l.length cap]] (u.val.alloc (.cells #[.int .i64 m, .slice a l.length cap] 24)) _ from c_flatsOf (Later.self (u.val.alloc (.cells #[.int .i64 m, .slice a l.length cap] 24))) m hm l a cap (h.to (u.alloc _)) hlen he)
  clear h hlen he T0
  go_enter Try.func72, Try.ntmps72
  go_upto_region 2 with (first | (go_at_call 178; ((with_reducible refine (K0.out).mono ?_); rintro e _ ⟨_, rfl, ⟨adF, cpF, g, c, rfl, hO, hT, hBg⟩, v1, rfl⟩)))
  have TY : RowL (v1.val.alloc (.cells #[.int .i64 m, .slice a l.length cap, .slice adF (ints (those m (flatP m (toN l)))).length cpF, .slice (some ⟨g, 0, none⟩) (bit m) c] 115)) v1.val.heap.size 115 [.int .i64 m, .slice a l.length cap, .slice adF (ints (those m (flatP m (toN l)))).length cpF, .slice (some ⟨g, 0, none⟩) (bit m) c] := RowL.new _ _ _
  have s0 : ∀ w : Later (v1.val.alloc (.cells #[.int .i64 m, .slice a l.length cap, .slice adF (ints (those m (flatP m (toN l)))).length cpF, .slice (some ⟨g, 0, none⟩) (bit m) c] 115)).heap.size (v1.val.alloc (.cells #[.int .i64 m, .slice a l.length cap, .slice adF (ints (those m (flatP m (toN l)))).length cpF, .slice (some ⟨g, 0, none⟩) (bit m) c] 115)), w.val.cell? ⟨v1.val.heap.size, 0, none⟩ = some (.int .i64 m) := fun w => (TY.keep w.below).cell rfl
  have s1 : ∀ w : Later (v1.val.alloc (.cells #[.int .i64 m, .slice a l.length cap, .slice adF (ints (those m (flatP m (toN l)))).length cpF, .slice (some ⟨g, 0, none⟩) (bit m) c] 115)).heap.size (v1.val.alloc (.cells #[.int .i64 m, .slice a l.length cap, .slice adF (ints (those m (flatP m (toN l)))).length cpF, .slice (some ⟨g, 0, none⟩) (bit m) c] 115)), w.val.cell? ⟨v1.val.heap.size, 1, none⟩ = some (.slice a l.length cap) := fun w => (TY.keep w.below).cell rfl
  have s2 : ∀ w : Later (v1.val.alloc (.cells #[.int .i64 m, .slice a l.length cap, .slice adF (ints (those m (flatP m (toN l)))).length cpF, .slice (some ⟨g, 0, none⟩) (bit m) c] 115)).heap.size (v1.val.alloc (.cells #[.int .i64 m, .slice a l.length cap, .slice adF (ints (those m (flatP m (toN l)))).length cpF, .slice (some ⟨g, 0, none⟩) (bit m) c] 115)), w.val.cell? ⟨v1.val.heap.size, 2, none⟩ = some (.slice adF (ints (those m (flatP m (toN l)))).length cpF) := fun w => (TY.keep w.below).cell rfl
  have s3 : ∀ w : Later (v1.val.alloc (.cells #[.int .i64 m, .slice a l.length cap, .slice adF (ints (those m (flatP m (toN l)))).length cpF, .slice (some ⟨g, 0, none⟩) (bit m) c] 115)).heap.size (v1.val.alloc (.cells #[.int .i64 m, .slice a l.length cap, .slice adF (ints (those m (flatP m (toN l)))).length cpF, .slice (some ⟨g, 0, none⟩) (bit m) c] 115)), w.val.cell? ⟨v1.val.heap.size, 3, none⟩ = some (.slice (some ⟨g, 0, none⟩) (bit m) c) := fun w => (TY.keep w.below).cell rfl
  have hcp := hO.le
  have HIF : Hid (IntsAt (v1.val.alloc (.cells #[.int .i64 m, .slice a l.length cap, .slice adF (ints (those m (flatP m (toN l)))).length cpF, .slice (some ⟨g, 0, none⟩) (bit m) c] 115)).heap.size (v1.val.alloc (.cells #[.int .i64 m, .slice a l.length cap, .slice adF (ints (those m (flatP m (toN l)))).length cpF, .slice (some ⟨g, 0, none⟩) (bit m) c] 115)) adF (ints (those m (flatP m (toN l))))) := Lib.hid (hO.reads.to ((Later.self v1.val).alloc _))
  have HT : Hid (ITab (v1.val.alloc (.cells #[.int .i64 m, .slice a l.length cap, .slice adF (ints (those m (flatP m (toN l)))).length cpF, .slice (some ⟨g, 0, none⟩) (bit m) c] 115)) g (bit m) (fun j => (rk (toN l) j : Int))) := Lib.hid (hT.keep ((Below.refl _ _).alloc (Nat.le_refl _) _))
  have hgY : g < (v1.val.alloc (.cells #[.int .i64 m, .slice a l.length cap, .slice adF (ints (those m (flatP m (toN l)))).length cpF, .slice (some ⟨g, 0, none⟩) (bit m) c] 115)).heap.size := HT.out.lt
  have HVY : Hid (∀ v : Later (v1.val.alloc (.cells #[.int .i64 m, .slice a l.length cap, .slice adF (ints (those m (flatP m (toN l)))).length cpF, .slice (some ⟨g, 0, none⟩) (bit m) c] 115)).heap.size (v1.val.alloc (.cells #[.int .i64 m, .slice a l.length cap, .slice adF (ints (those m (flatP m (toN l)))).length cpF, .slice (some ⟨g, 0, none⟩) (bit m) c] 115)), ∃ w : Later B W, w.val = v.val) := Lib.hid (fun v => HV.out ((v1.alloc _).up v))
  have HBY : Hid (B ≤ (v1.val.alloc (.cells #[.int .i64 m, .slice a l.length cap, .slice adF (ints (those m (flatP m (toN l)))).length cpF, .slice (some ⟨g, 0, none⟩) (bit m) c] 115)).heap.size) := Lib.hid (by obtain ⟨w, hw⟩ := HV.out (v1.alloc (.cells #[.int .i64 m, .slice a l.length cap, .slice adF (ints (those m (flatP m (toN l)))).length cpF, .slice (some ⟨g, 0, none⟩) (bit m) c] 115)); have := w.size; rw [hw] at this; exact this)
  have r0 : ∀ w : Later (v1.val.alloc (.cells #[.int .i64 m, .slice a l.length cap, .slice adF (ints (those m (flatP m (toN l)))).length cpF, .slice (some ⟨g, 0, none⟩) (bit m) c] 115)).heap.size (v1.val.alloc (.cells #[.int .i64 m, .slice a l.length cap, .slice adF (ints (those m (flatP m (toN l)))).length cpF, .slice (some ⟨g, 0, none⟩) (bit m) c] 115)), w.val.cell? ⟨u.val.heap.size, 0, none⟩ = some (.int .i64 m) := fun w => q0 ((v1.alloc _).up w)
  clear K0 HV HB0 q0 p0 p1 TY hO hT hBg
  generalize v1.val.heap.size = gl at *
  generalize (v1.val.alloc (.cells #[.int .i64 m, .slice a l.length cap, .slice adF (ints (those m (flatP m (toN l)))).length cpF, .slice (some ⟨g, 0, none⟩) (bit m) c] 115)) = Y at *
  obtain ⟨y, hy⟩ : ∃ y : Later Y.heap.size Y, y.val = Y := ⟨Later.self _, rfl⟩
  rw [← hy]
  clear hy
  have HR := Lib.hid hR
  have hR8 := rk_le8 (toN l) (bit m - 1)
  have KR := Lib.hid (fun v : Later Y.heap.size Y => c_latRank v m hm (toN l) (.int .i64 m) (.slice a l.length cap) 0 g c (.slice adF (ints (those m (flatP m (toN l)))).length cpF) hgY HT.out)
  clear hR
  rw [ints_len] at *
  generalize those m (flatP m (toN l)) = F at *
  generalize toN l = L at *
  have hmk := mk_tab1 (rk L (bit m - 1)) (by omega)
  generalize hRk : rk L (bit m - 1) = R at *
  clear hRk
  go_upto_region 5 with (first | (go_at_call 180; ((with_reducible refine (KR.out _).mono ?_); rintro e _ ⟨rfl, y, rfl⟩)))
  have HT2 : Hid (ITab (y.val.alloc (.cells (madeCells #[.int .i64 0] (R + 1)) 3)) y.val.heap.size (R + 1) (frTo L 0)) := Lib.hid ((ITab.made y.val (R + 1)).congr (fun j _ => rfl))
  have hB2 : Y.heap.size ≤ y.val.heap.size := y.size
  have HZ : Hid (∃ w : Later Y.heap.size Y, w.val = (y.val.alloc (.cells (madeCells #[.int .i64 0] (R + 1)) 3))) := Lib.hid ⟨y.alloc _, rfl⟩
  clear hmk KR
  generalize (y.val.alloc (.cells (madeCells #[.int .i64 0] (R + 1)) 3)) = Y3 at *
  generalize y.val.heap.size = g2 at *
  clear y
  obtain ⟨y, hy⟩ := HZ.out
  subst hy
  clear HZ
  go_wp2
  go_loopw [24] (fun i wr => ∃ (k : Nat) (v : Later Y.heap.size Y), k ≤ bit m ∧ i = .int .i64 k ∧ wr = v.val ∧ Hid (ITab v.val g2 (R + 1) (frTo L k))) (fun i _ => bit m - (intOf i).toNat)
  case atStart => exact ⟨0, y, by omega, rfl, rfl, HT2⟩
  case round =>
    clear y HT2
    obtain ⟨k, v, hk, rfl, rfl, HT2⟩ := hrel
    by_cases hlt : k < bit m
    · have d0 : decide ((k : Int) < (bit m : Int)) = true := decide_eq_true (by omega)
      have c1 : ∀ w : Later Y.heap.size Y, w.val.cell? ⟨g, k, none⟩ = some (.int .i64 (rk L k : Int)) := fun w => (HT.out.keep_at w.below hgY).cell hlt
      have KS := Lib.hid (fun v : Later v.val.heap.size v.val => c_size_flats v k (by omega))
      have hrR := HR.out k hlt
      have hrR2 : rk L k < R + 1 := by omega
      have hb2 : Hid (rk L k ≤ 8) := Lib.hid (rk_le8 L _)
      by_cases hq : rk L k = sz k
      · have d1 : ((rk L k : Int) == (sz k : Int)) = true := by rw [beq_iff_eq]; omega
        obtain ⟨y, hy⟩ : ∃ y : Later v.val.heap.size v.val, y.val = v.val := ⟨Later.self _, rfl⟩
        have HTy : Hid (∀ y : Later v.val.heap.size v.val, ITab y.val g2 (R + 1) (frTo L k)) := Lib.hid (fun y => HT2.out.keep y.below)
        have c2 : ∀ y : Later v.val.heap.size v.val, y.val.cell? ⟨g2, rk L k, none⟩ = some (.int .i64 (frTo L k (rk L k))) := fun y => (HTy.out y).cell hrR2
        have c3 : ∀ y : Later v.val.heap.size v.val, y.val.frozen? ⟨g2, rk L k, none⟩ = false := fun y => (HTy.out y).frozen _
        have c1' : ∀ y : Later v.val.heap.size v.val, y.val.cell? ⟨g, k, none⟩ = some (.int .i64 (rk L k : Int)) := fun y => c1 (v.up y)
        have t3 : ∀ y : Later v.val.heap.size v.val, y.val.cell? ⟨gl, 3, none⟩ = some (.slice (some ⟨g, 0, none⟩) (bit m) c) := fun y => s3 (v.up y)
        have hb1 := frTo_le L k (rk L k)
        have hw := IntWalk.i64_in (frTo L k (rk L k) + 1) (by omega)
        have HN : Hid (∀ w : World, ITab w g2 (R + 1) (frTo L k) → ITab (w.setCell ⟨g2, rk L k, none⟩ (.int .i64 (frTo L k (rk L k) + 1))) g2 (R + 1) (frTo L (k + 1))) := Lib.hid (fun w h => h.set _ _ (fun j _ => frTo_yes L hq j))
        rw [← hq] at KS
        clear HT2 hq c1
        rw [← hy]
        clear hy
        generalize frTo L k (rk L k) = q at *
        generalize rk L k = p at *
        go_wp2_with (first | (go_at_call 181; ((with_reducible refine (KS.out _).mono ?_); rintro e _ ⟨rfl, v2, rfl⟩)))
        go_roundw
        case rel => exact ⟨k+1, (v.up v2).set ⟨g2, p, none⟩ hB2 _, by omega, by go_num, rfl, Lib.hid (HN.out _ (HTy.out v2))⟩
        case measure => simp [intOf]; omega
      · have d1 : ((rk L k : Int) == (sz k : Int)) = false := by rw [beq_eq_false_iff_ne]; omega
        have HN : Hid (ITab v.val g2 (R + 1) (frTo L (k + 1))) := Lib.hid (HT2.out.congr (fun j _ => (frTo_no L hq j).symm))
        obtain ⟨y, hy⟩ : ∃ y : Later v.val.heap.size v.val, y.val = v.val := ⟨Later.self _, rfl⟩
        have c1' : ∀ y : Later v.val.heap.size v.val, y.val.cell? ⟨g, k, none⟩ = some (.int .i64 (rk L k : Int)) := fun y => c1 (v.up y)
        have t3 : ∀ y : Later v.val.heap.size v.val, y.val.cell? ⟨gl, 3, none⟩ = some (.slice (some ⟨g, 0, none⟩) (bit m) c) := fun y => s3 (v.up y)
        clear HT2 hq c1
        rw [← hy]
        clear hy
        generalize sz k = q at *
        generalize rk L k = p at *
        go_wp2_with (first | (go_at_call 181; ((with_reducible refine (KS.out _).mono ?_); rintro e _ ⟨rfl, v2, rfl⟩)))
        go_roundw
        case rel => exact ⟨k+1, v.up v2, by omega, by go_num, rfl, Lib.hid (HN.out.keep v2.below)⟩
        case measure => simp [intOf]; omega
    · have d0 : decide ((k : Int) < (bit m : Int)) = false := decide_eq_false (by omega)
      have hke : Hid (k = bit m) := Lib.hid (by omega)
      go_wp2
      go_ret2
      rw [hke.out] at HT2
      exact RetP.of (HVY.out v) ⟨_, rfl, HT2.out.reads⟩

/-- the numbers of the first k flats, put to what their ranks lack -/
def chTo (F L : List Nat) (R : Nat) (A : Nat → Int) (k d : Nat) : Int := isum (fun i => if R - rk L (F.getD i 0) = d then A i else 0) k
theorem chTo_le {F : List Nat} {A : Nat → Int} (hA : MuIs F A) (L : List Nat) (R k d : Nat) : -((k * 256 : Nat) : Int) ≤ chTo F L R A k d ∧ chTo F L R A k d ≤ ((k * 256 : Nat) : Int) := isum_le (b := 256) (fun j _ => by
  have := hA.2.2 j
  show -((256 : Nat) : Int) ≤ (if _ then _ else _) ∧ (if _ then _ else _) ≤ ((256 : Nat) : Int)
  split
  · omega
  · decide)
theorem chTo_step (F L : List Nat) (R : Nat) (A : Nat → Int) (k j : Nat) : chTo F L R A (k + 1) j = if j = R - rk L (F.getD k 0) then chTo F L R A k (R - rk L (F.getD k 0)) + A k else chTo F L R A k j := by
  unfold chTo
  simp only [isum]
  by_cases c : j = R - rk L (F.getD k 0)
  · subst c; rw [if_pos rfl, if_pos rfl]
  · rw [if_neg (Ne.symm c), if_neg c, Int.add_zero]
def charIs (F L : List Nat) (R : Nat) (A C : Nat → Int) : Prop := (F.getD 0 0 ≠ 0 → ∀ d, C d = 0) ∧ (F.getD 0 0 = 0 → ∀ d, C d = chTo F L R A F.length d)

set_option maxRecDepth 100000 in
set_option maxHeartbeats 8000000 in
theorem c_flChar {B : Nat} {W : World} (u : Later B W) (m : Nat) (hm : m ≤ 8) (l : List Int) (a : Option Addr) (cap : Nat) (h : IntsAt B W a l) (hlen : l.length ≤ 4611686018427387904) (he : MatIs (m : Int) l 0) (hR : ∀ s, s < bit m → rk (toN l) s ≤ rk (toN l) (bit m - 1)) (A C : Nat → Int) (hA : MuIs (those m (flatP m (toN l))) A) (hn : 0 < (those m (flatP m (toN l))).length) (hC : charIs (those m (flatP m (toN l))) (toN l) (rk (toN l) (bit m - 1)) A C) :
    Calls Try.prog 70 #[.agg #[.int .i64 m, .slice a l.length cap]] u.val (RetP B W (ListE (tabL (rk (toN l) (bit m - 1) + 1) C) 0)) := by
  have hbm := bit_le m hm
  have T0 : Two (u.val.alloc (.cells #[.int .i64 m, .slice a l.length cap] 24)) u.val.heap.size 24 (.int .i64 m) (.slice a l.length cap) := Two.new _ _ _ _
  have HV : Hid (∀ v : Later (u.val.alloc (.cells #[.int .i64 m, .slice a l.length cap] 24)).heap.size (u.val.alloc (.cells #[.int .i64 m, .slice a l.length cap] 24)), ∃ w : Later B W, w.val = v.val) := Lib.hid (fun v => ⟨(u.alloc _).up v, rfl⟩)
  have HB0 : Hid (B ≤ (u.val.alloc (.cells #[.int .i64 m, .slice a l.length cap] 24)).heap.size) := Lib.hid (by have := u.size; simp; omega)
  have q0 : ∀ w : Later (u.val.alloc (.cells #[.int .i64 m, .slice a l.length cap] 24)).heap.size (u.val.alloc (.cells #[.int .i64 m, .slice a l.length cap] 24)), w.val.cell? ⟨u.val.heap.size, 0, none⟩ = some (.int .i64 m) := fun w => (T0.keep w.below).c0
  have p0 : (u.val.alloc (.cells #[.int .i64 m, .slice a l.length cap] 24)).cell? ⟨u.val.heap.size, 0, none⟩ = some (.int .i64 m) := T0.c0
  have p1 : (u.val.alloc (.cells #[.int .i64 m, .slice a l.length cap] 24)).cell? ⟨u.val.heap.size, 1, none⟩ = some (.slice a l.length cap) := T0.c1
  have K0 := Lib.hid (show Calls Try.prog 178 #[.agg #[.int .i64 m, .slice a l.length cap]] (u.val.alloc (.cells #[.int .i64 m, .slice a l.length cap] 24)) _ from c_flatsOf (Later.self (u.val.alloc (.cells #[.int .i64 m, .slice a l.length cap] 24))) m hm l a cap (h.to (u.alloc _)) hlen he)
  clear h hlen he T0
  go_enter Try.func70, Try.ntmps70
  go_upto_region 2 with (first | (go_at_call 178; ((with_reducible refine (K0.out).mono ?_); rintro e _ ⟨_, rfl, ⟨adF, cpF, g, c, rfl, hO, hT, hBg⟩, v1, rfl⟩)))
  have TY : RowL (v1.val.alloc (.cells #[.int .i64 m, .slice a l.length cap, .slice adF (ints (those m (flatP m (toN l)))).length cpF, .slice (some ⟨g, 0, none⟩) (bit m) c] 115)) v1.val.heap.size 115 [.int .i64 m, .slice a l.length cap, .slice adF (ints (those m (flatP m (toN l)))).length cpF, .slice (some ⟨g, 0, none⟩) (bit m) c] := RowL.new _ _ _
  have s0 : ∀ w : Later (v1.val.alloc (.cells #[.int .i64 m, .slice a l.length cap, .slice adF (ints (those m (flatP m (toN l)))).length cpF, .slice (some ⟨g, 0, none⟩) (bit m) c] 115)).heap.size (v1.val.alloc (.cells #[.int .i64 m, .slice a l.length cap, .slice adF (ints (those m (flatP m (toN l)))).length cpF, .slice (some ⟨g, 0, none⟩) (bit m) c] 115)), w.val.cell? ⟨v1.val.heap.size, 0, none⟩ = some (.int .i64 m) := fun w => (TY.keep w.below).cell rfl
  have s1 : ∀ w : Later (v1.val.alloc (.cells #[.int .i64 m, .slice a l.length cap, .slice adF (ints (those m (flatP m (toN l)))).length cpF, .slice (some ⟨g, 0, none⟩) (bit m) c] 115)).heap.size (v1.val.alloc (.cells #[.int .i64 m, .slice a l.length cap, .slice adF (ints (those m (flatP m (toN l)))).length cpF, .slice (some ⟨g, 0, none⟩) (bit m) c] 115)), w.val.cell? ⟨v1.val.heap.size, 1, none⟩ = some (.slice a l.length cap) := fun w => (TY.keep w.below).cell rfl
  have s2 : ∀ w : Later (v1.val.alloc (.cells #[.int .i64 m, .slice a l.length cap, .slice adF (ints (those m (flatP m (toN l)))).length cpF, .slice (some ⟨g, 0, none⟩) (bit m) c] 115)).heap.size (v1.val.alloc (.cells #[.int .i64 m, .slice a l.length cap, .slice adF (ints (those m (flatP m (toN l)))).length cpF, .slice (some ⟨g, 0, none⟩) (bit m) c] 115)), w.val.cell? ⟨v1.val.heap.size, 2, none⟩ = some (.slice adF (ints (those m (flatP m (toN l)))).length cpF) := fun w => (TY.keep w.below).cell rfl
  have s3 : ∀ w : Later (v1.val.alloc (.cells #[.int .i64 m, .slice a l.length cap, .slice adF (ints (those m (flatP m (toN l)))).length cpF, .slice (some ⟨g, 0, none⟩) (bit m) c] 115)).heap.size (v1.val.alloc (.cells #[.int .i64 m, .slice a l.length cap, .slice adF (ints (those m (flatP m (toN l)))).length cpF, .slice (some ⟨g, 0, none⟩) (bit m) c] 115)), w.val.cell? ⟨v1.val.heap.size, 3, none⟩ = some (.slice (some ⟨g, 0, none⟩) (bit m) c) := fun w => (TY.keep w.below).cell rfl
  have hcp := hO.le
  have HIF : Hid (IntsAt (v1.val.alloc (.cells #[.int .i64 m, .slice a l.length cap, .slice adF (ints (those m (flatP m (toN l)))).length cpF, .slice (some ⟨g, 0, none⟩) (bit m) c] 115)).heap.size (v1.val.alloc (.cells #[.int .i64 m, .slice a l.length cap, .slice adF (ints (those m (flatP m (toN l)))).length cpF, .slice (some ⟨g, 0, none⟩) (bit m) c] 115)) adF (ints (those m (flatP m (toN l))))) := Lib.hid (hO.reads.to ((Later.self v1.val).alloc _))
  have HT : Hid (ITab (v1.val.alloc (.cells #[.int .i64 m, .slice a l.length cap, .slice adF (ints (those m (flatP m (toN l)))).length cpF, .slice (some ⟨g, 0, none⟩) (bit m) c] 115)) g (bit m) (fun j => (rk (toN l) j : Int))) := Lib.hid (hT.keep ((Below.refl _ _).alloc (Nat.le_refl _) _))
  have hgY : g < (v1.val.alloc (.cells #[.int .i64 m, .slice a l.length cap, .slice adF (ints (those m (flatP m (toN l)))).length cpF, .slice (some ⟨g, 0, none⟩) (bit m) c] 115)).heap.size := HT.out.lt
  have HVY : Hid (∀ v : Later (v1.val.alloc (.cells #[.int .i64 m, .slice a l.length cap, .slice adF (ints (those m (flatP m (toN l)))).length cpF, .slice (some ⟨g, 0, none⟩) (bit m) c] 115)).heap.size (v1.val.alloc (.cells #[.int .i64 m, .slice a l.length cap, .slice adF (ints (those m (flatP m (toN l)))).length cpF, .slice (some ⟨g, 0, none⟩) (bit m) c] 115)), ∃ w : Later B W, w.val = v.val) := Lib.hid (fun v => HV.out ((v1.alloc _).up v))
  have HBY : Hid (B ≤ (v1.val.alloc (.cells #[.int .i64 m, .slice a l.length cap, .slice adF (ints (those m (flatP m (toN l)))).length cpF, .slice (some ⟨g, 0, none⟩) (bit m) c] 115)).heap.size) := Lib.hid (by obtain ⟨w, hw⟩ := HV.out (v1.alloc (.cells #[.int .i64 m, .slice a l.length cap, .slice adF (ints (those m (flatP m (toN l)))).length cpF, .slice (some ⟨g, 0, none⟩) (bit m) c] 115)); have := w.size; rw [hw] at this; exact this)
  have r0 : ∀ w : Later (v1.val.alloc (.cells #[.int .i64 m, .slice a l.length cap, .slice adF (ints (those m (flatP m (toN l)))).length cpF, .slice (some ⟨g, 0, none⟩) (bit m) c] 115)).heap.size (v1.val.alloc (.cells #[.int .i64 m, .slice a l.length cap, .slice adF (ints (those m (flatP m (toN l)))).length cpF, .slice (some ⟨g, 0, none⟩) (bit m) c] 115)), w.val.cell? ⟨u.val.heap.size, 0, none⟩ = some (.int .i64 m) := fun w => q0 ((v1.alloc _).up w)
  clear K0 HV HB0 q0 p0 p1 TY hO hT hBg
  generalize v1.val.heap.size = gl at *
  generalize (v1.val.alloc (.cells #[.int .i64 m, .slice a l.length cap, .slice adF (ints (those m (flatP m (toN l)))).length cpF, .slice (some ⟨g, 0, none⟩) (bit m) c] 115)) = Y at *
  obtain ⟨y, hy⟩ : ∃ y : Later Y.heap.size Y, y.val = Y := ⟨Later.self _, rfl⟩
  rw [← hy]
  clear hy
  have HF8 : Hid (∀ i, i < (those m (flatP m (toN l))).length → (those m (flatP m (toN l))).getD i 0 < bit m) := Lib.hid (fun i hi => (those_at hi).1)
  have hFl : (those m (flatP m (toN l))).length ≤ 256 := by have := thoseTo_len (flatP m (toN l)) (bit m); have e : those m (flatP m (toN l)) = thoseTo (flatP m (toN l)) (bit m) := rfl; rw [e]; omega
  have HR := Lib.hid hR
  have HA := Lib.hid hA
  have HC := Lib.hid hC
  have hR8 := rk_le8 (toN l) (bit m - 1)
  have KR := Lib.hid (fun v : Later Y.heap.size Y => c_latRank v m hm (toN l) (.int .i64 m) (.slice a l.length cap) 0 g c (.slice adF (ints (those m (flatP m (toN l)))).length cpF) hgY HT.out)
  have hcp2 : (those m (flatP m (toN l))).length ≤ cpF := by rw [ints_len] at hcp; exact hcp
  have KM : Hid (∀ v : Later Y.heap.size Y, Calls Try.prog 179 #[.agg #[.int .i64 m, .slice a l.length cap, .slice adF (ints (those m (flatP m (toN l)))).length cpF, .slice (some ⟨g, 0, none⟩) (bit m) c]] v.val (RetP v.val.heap.size v.val (fun x w => ∃ g, x = .slice (some ⟨g, 0, none⟩) (those m (flatP m (toN l))).length (those m (flatP m (toN l))).length ∧ JTab w g (those m (flatP m (toN l))).length A ∧ v.val.heap.size ≤ g))) := Lib.hid (fun v => c_latMobius (Later.self v.val) (those m (flatP m (toN l))) hFl (fun i hi => by have := HF8.out i hi; omega) adF cpF (HIF.out.to v) hcp2 A hA (.int .i64 m) (.slice a l.length cap) (.slice (some ⟨g, 0, none⟩) (bit m) c))
  clear hR hA hC hcp
  rw [ints_len] at *
  generalize those m (flatP m (toN l)) = F at *
  generalize toN l = L at *
  have hmk := mk_tab641 (rk L (bit m - 1)) (by omega)
  generalize hRk : rk L (bit m - 1) = R at *
  have HRk := Lib.hid hRk
  clear hRk
  go_upto_region 5 with (first | (go_at_call 180; ((with_reducible refine (KR.out _).mono ?_); rintro e _ ⟨rfl, y, rfl⟩)))
  have HT2 : Hid (JTab (y.val.alloc (.cells (madeCells #[.int .i64 0] (R + 1)) 2)) y.val.heap.size (R + 1) (chTo F L R A 0)) := Lib.hid ((JTab.made y.val (R + 1)).congr (fun j _ => rfl))
  have hB2 : Y.heap.size ≤ y.val.heap.size := y.size
  have HZ : Hid (∃ w : Later Y.heap.size Y, w.val = (y.val.alloc (.cells (madeCells #[.int .i64 0] (R + 1)) 2))) := Lib.hid ⟨y.alloc _, rfl⟩
  clear hmk KR
  generalize (y.val.alloc (.cells (madeCells #[.int .i64 0] (R + 1)) 2)) = Y3 at *
  generalize y.val.heap.size = g2 at *
  clear y
  obtain ⟨y, hy⟩ := HZ.out
  subst hy
  clear HZ
  obtain ⟨bb, off, rfl, hbB, hcell⟩ := HIF.out.at (k := 0) (by rw [ints_len]; exact hn)
  have HFc : Hid (∀ (w : Later Y.heap.size Y) (k : Nat), k < F.length → w.val.cell? ⟨bb, off + k, none⟩ = some (.int .i64 ((F.getD k 0 : Nat) : Int))) := Lib.hid (fun w k hk => by rw [← ints_getD]; exact hcell w k (by rw [ints_len]; exact hk))
  have c0 : ∀ (w : Later Y.heap.size Y), w.val.cell? ⟨bb, off, none⟩ = some (.int .i64 ((F.getD 0 0 : Nat) : Int)) := fun w => HFc.out w 0 hn
  clear hcell
  by_cases hz : F.getD 0 0 = 0
  case neg =>
    have hC0 := HC.out.1 hz
    have HT3 : Hid (JTab y.val g2 (R + 1) C) := Lib.hid (HT2.out.congr (fun j _ => by rw [hC0 j]; rfl))
    have d0 : (((F.getD 0 0 : Nat) : Int) != 0) = true := by rw [bne_iff_ne]; omega
    clear hz hC0 HC KM
    generalize F.getD 0 0 = f0 at *
    go_wp2
    go_ret2
    exact RetP.of (HVY.out y) ⟨_, rfl, HT3.out.reads⟩
  have HC2 := Lib.hid (HC.out.2 hz)
  have d0 : (((F.getD 0 0 : Nat) : Int) != 0) = false := by rw [bne_eq_false_iff_eq]; omega
  clear hz HC
  obtain ⟨f0, hf0⟩ : ∃ f0, F.getD 0 0 = f0 := ⟨_, rfl⟩
  rw [hf0] at c0 d0
  clear hf0
  go_wp2_with (first | (go_at_call 179; (with_reducible refine (threadP y (KM.out y)).mono ?_); rintro e _ ⟨y2, _, rfl, rfl, ⟨g3, rfl, hT3, hB3⟩, hb2⟩; have HT3 := Lib.hid hT3; have HB3 := Lib.hid hB3; clear hT3 hB3))
  have HT4 : Hid (JTab y2.val g2 (R + 1) (chTo F L R A 0)) := Lib.hid (HT2.out.keep hb2)
  have hne : g3 ≠ g2 := by have := HT2.out.lt; have := HB3.out; omega
  clear c0 d0 KM HT2 hb2 HB3 y
  go_loopw [30] (fun i wr => ∃ (k : Nat) (v : Later Y.heap.size Y), k ≤ F.length ∧ i = .int .i64 k ∧ wr = v.val ∧ Hid (JTab v.val g2 (R + 1) (chTo F L R A k)) ∧ Hid (JTab v.val g3 F.length A)) (fun i _ => F.length - (intOf i).toNat)
  case atStart => exact ⟨0, y2, by omega, rfl, rfl, HT4, HT3⟩
  case round =>
    clear y2 HT4 HT3
    obtain ⟨k, v, hk, rfl, rfl, HT2, HT3⟩ := hrel
    by_cases hlt : k < F.length
    · have hfk := HF8.out k hlt
      have HTr : Hid (ITab v.val g (bit m) (fun j => (rk L j : Int))) := Lib.hid (HT.out.keep_at v.below hgY)
      have hgv : g < v.val.heap.size := HTr.out.lt
      have KR := Lib.hid (fun w : Later v.val.heap.size v.val => c_latRank w m hm L (.int .i64 m) (.slice a l.length cap) 0 g c (.slice (some ⟨bb, off, none⟩) F.length cpF) hgv HTr.out)
      rw [HRk.out] at KR
      have t0 : ∀ w : Later v.val.heap.size v.val, w.val.cell? ⟨gl, 0, none⟩ = some (.int .i64 m) := fun w => s0 (v.up w)
      have t1 : ∀ w : Later v.val.heap.size v.val, w.val.cell? ⟨gl, 1, none⟩ = some (.slice a l.length cap) := fun w => s1 (v.up w)
      have t2 : ∀ w : Later v.val.heap.size v.val, w.val.cell? ⟨gl, 2, none⟩ = some (.slice (some ⟨bb, off, none⟩) F.length cpF) := fun w => s2 (v.up w)
      have t3 : ∀ w : Later v.val.heap.size v.val, w.val.cell? ⟨gl, 3, none⟩ = some (.slice (some ⟨g, 0, none⟩) (bit m) c) := fun w => s3 (v.up w)
      have c0 : ∀ w : Later v.val.heap.size v.val, w.val.cell? ⟨bb, off + k, none⟩ = some (.int .i64 ((F.getD k 0 : Nat) : Int)) := fun w => HFc.out (v.up w) k hlt
      have c1 : ∀ w : Later v.val.heap.size v.val, w.val.cell? ⟨g, F.getD k 0, none⟩ = some (.int .i64 (rk L (F.getD k 0) : Int)) := fun w => (HTr.out.keep w.below).cell hfk
      have hrR := HR.out (F.getD k 0) hfk
      have HTw : Hid (∀ w : Later v.val.heap.size v.val, JTab w.val g2 (R + 1) (chTo F L R A k)) := Lib.hid (fun w => HT2.out.keep w.below)
      have c2 : ∀ w : Later v.val.heap.size v.val, w.val.cell? ⟨g2, R - rk L (F.getD k 0), none⟩ = some (.int .i64 (chTo F L R A k (R - rk L (F.getD k 0)))) := fun w => (HTw.out w).cell (by omega)
      have c3 : ∀ w : Later v.val.heap.size v.val, w.val.frozen? ⟨g2, R - rk L (F.getD k 0), none⟩ = false := fun w => (HTw.out w).frozen _
      have c4 : v.val.cell? ⟨g3, k, none⟩ = some (.int .i64 (A k)) := HT3.out.cell hlt
      have hb1 := chTo_le HA.out L R k (R - rk L (F.getD k 0))
      have hb2 := HA.out.2.2 k
      have hw := IntWalk.i64_in (chTo F L R A k (R - rk L (F.getD k 0)) + A k) (by omega)
      have HN : Hid (∀ w : World, JTab w g2 (R + 1) (chTo F L R A k) → JTab (w.setCell ⟨g2, R - rk L (F.getD k 0), none⟩ (.int .i64 (chTo F L R A k (R - rk L (F.getD k 0)) + A k))) g2 (R + 1) (chTo F L R A (k + 1))) := Lib.hid (fun w h => h.set _ _ (fun j _ => chTo_step F L R A k j))
      have HN3 : Hid (∀ (w : Later v.val.heap.size v.val) (i : Nat) (x : Value), JTab (w.val.setCell ⟨g2, i, none⟩ x) g3 F.length A) := Lib.hid (fun w i x => (HT3.out.keep w.below).other hne x)
      have hsub : (R : Int) - (rk L (F.getD k 0) : Int) = ((R - rk L (F.getD k 0) : Nat) : Int) := by omega
      have hd1 : R - rk L (F.getD k 0) < R + 1 := by omega
      clear HT2 HT3 HTr
      generalize chTo F L R A k (R - rk L (F.getD k 0)) = q at *
      generalize R - rk L (F.getD k 0) = d at *
      generalize rk L (F.getD k 0) = p at *
      generalize F.getD k 0 = f at *
      generalize A k = ak at *
      go_wp2
      refine wp_region_later_qtail (Later.self v.val) 17 (by kernel_rfl) (by kernel_rfl) (fun _ => ?_)
      simp only [List.take_succ_cons, List.take_zero, List.drop_succ_cons, List.drop_zero]
      repeat (first | go_big_quiet_step (((go_at_call 180; exact KR.out _))) | (refine wpQuiet_step (fun K hK => ?_); go_simp; refine ⟨_, fun _ => rfl, ?_⟩; refine hK _ ?_; clear hK K))
      refine wpQuiet_nil ?_
      intro v2
      go_wp2
      go_roundw
      case rel => exact ⟨k+1, (v.up v2).set ⟨g2, d, none⟩ hB2 _, by omega, by go_num, rfl, Lib.hid (HN.out _ (HTw.out v2)), Lib.hid (HN3.out v2 d _)⟩
      case measure => simp [intOf]; omega
    · have hke : Hid (k = F.length) := Lib.hid (by omega)
      go_wp2
      go_ret2
      rw [hke.out] at HT2
      exact RetP.of (HVY.out v) ⟨_, rfl, (HT2.out.congr (fun j _ => (HC2.out j).symm)).reads⟩

end Go.Proofs.Ytjpcelldbhdneaa
