
/-
  rotaref.Characteristic, rotaref.Levels.
-/
import Derived.Test.YtjpcelldbhdneaaFlR
import Derived.Test.YtjpcelldbhdneaaFlW2
namespace Go.Proofs.Ytjpcelldbhdneaa
open Go.RowKit
set_option linter.unusedVariables false

/-- the signs of the first k sets, put to what their ranks lack -/
def sgTo (L : List Nat) (R k d : Nat) : Int := isum (fun s => if R - rk L s = d then sgn s else 0) k
theorem sgTo_le (L : List Nat) (R k d : Nat) : -((k : Nat) : Int) ≤ sgTo L R k d ∧ sgTo L R k d ≤ (k : Nat) := by
  have := isum_le (b := 1) (n := k) (f := fun s => if R - rk L s = d then sgn s else 0) (fun i _ => by
    show -((1 : Nat) : Int) ≤ (if _ then _ else _) ∧ (if _ then _ else _) ≤ ((1 : Nat) : Int)
    split
    · rcases sgn_one i with h | h <;> rw [h] <;> decide
    · decide)
  rw [Nat.mul_one] at this
  exact this
theorem sgTo_step (L : List Nat) (R k j : Nat) : sgTo L R (k + 1) j = if j = R - rk L k then sgTo L R k (R - rk L k) + sgn k else sgTo L R k j := by
  unfold sgTo
  simp only [isum]
  by_cases c : j = R - rk L k
  · subst c; rw [if_pos rfl, if_pos rfl]
  · rw [if_neg (Ne.symm c), if_neg c, Int.add_zero]

set_option maxRecDepth 100000 in
set_option maxHeartbeats 8000000 in
theorem c_refChar {B : Nat} {W : World} (u : Later B W) (m : Nat) (hm : m ≤ 8) (l : List Int) (a : Option Addr) (cap : Nat) (h : IntsAt B W a l) (hlen : l.length ≤ 4611686018427387904) (hf : isFam (m : Int) l) (hR : ∀ s, s < bit m → rk (toN l) s ≤ rk (toN l) (bit m - 1)) :
    Calls Try.prog 67 #[.agg #[.int .i64 m, .slice a l.length cap]] u.val (RetInts B W (tabL (rk (toN l) (bit m - 1) + 1) (sgTo (toN l) (rk (toN l) (bit m - 1)) (bit m)))) := by
  have hb := bit_le m hm
  have HR := Lib.hid hR
  have hR8 := rk_le8 (toN l) (bit m - 1)
  have T0 : Hid (Two (u.val.alloc (.cells #[.int .i64 m, .slice a l.length cap] 24)) u.val.heap.size 24 (.int .i64 m) (.slice a l.length cap)) := Lib.hid (Two.new _ _ _ _)
  have hrr : u.val.heap.size < (u.val.alloc (.cells #[.int .i64 m, .slice a l.length cap] 24)).heap.size := by simp
  have hI : IntsAt (u.val.alloc (.cells #[.int .i64 m, .slice a l.length cap] 24)).heap.size (u.val.alloc (.cells #[.int .i64 m, .slice a l.length cap] 24)) a l := h.to (u.alloc _)
  have HV : Hid (∀ v : Later (u.val.alloc (.cells #[.int .i64 m, .slice a l.length cap] 24)).heap.size (u.val.alloc (.cells #[.int .i64 m, .slice a l.length cap] 24)), ∃ w : Later B W, w.val = v.val) := Lib.hid (fun v => ⟨(u.alloc _).up v, rfl⟩)
  have q0 : ∀ w : Later (u.val.alloc (.cells #[.int .i64 m, .slice a l.length cap] 24)).heap.size (u.val.alloc (.cells #[.int .i64 m, .slice a l.length cap] 24)), w.val.cell? ⟨u.val.heap.size, 0, none⟩ = some (.int .i64 m) := fun w => (T0.out.keep w.below).c0
  have q1 : ∀ w : Later (u.val.alloc (.cells #[.int .i64 m, .slice a l.length cap] 24)).heap.size (u.val.alloc (.cells #[.int .i64 m, .slice a l.length cap] 24)), w.val.cell? ⟨u.val.heap.size, 1, none⟩ = some (.slice a l.length cap) := fun w => (T0.out.keep w.below).c1
  have p0 : (u.val.alloc (.cells #[.int .i64 m, .slice a l.length cap] 24)).cell? ⟨u.val.heap.size, 0, none⟩ = some (.int .i64 m) := T0.out.c0
  have p1 : (u.val.alloc (.cells #[.int .i64 m, .slice a l.length cap] 24)).cell? ⟨u.val.heap.size, 1, none⟩ = some (.slice a l.length cap) := T0.out.c1
  have K0 := Lib.hid (show Calls Try.prog 16 #[.agg #[.int .i64 m, .slice a l.length cap]] (u.val.alloc (.cells #[.int .i64 m, .slice a l.length cap] 24)) _ from c_refRanks (Later.self (u.val.alloc (.cells #[.int .i64 m, .slice a l.length cap] 24))) m hm l a cap hI hlen hf)
  clear h hI hf hR
  generalize toN l = L at *
  have hmk := mk_tab641 (rk L (bit m - 1)) (by omega)
  go_enter Try.func67, Try.ntmps67
  go_upto_region 2 with (first | (go_at_call 16; ((with_reducible refine (K0.out).mono ?_); rintro e _ ⟨_, rfl, ⟨g, c, rfl, hT⟩, v1, rfl⟩)))
  have HT := Lib.hid hT
  have hgV : g < v1.val.heap.size := hT.lt
  have r0 : ∀ w : Later v1.val.heap.size v1.val, w.val.cell? ⟨u.val.heap.size, 0, none⟩ = some (.int .i64 m) := fun w => q0 (v1.up w)
  have HVB : Hid (∀ v : Later v1.val.heap.size v1.val, ∃ w : Later B W, w.val = v.val) := Lib.hid (fun v => HV.out (v1.up v))
  clear K0 q0 q1 p0 p1 HV T0 hrr hT
  generalize u.val.heap.size = gu at *
  generalize v1.val = V at *
  have KA : Hid (∀ (B : Nat) (W : World) (v : Later B W), Calls Try.prog 123 #[.int .i64 m] v.val (Ret B W (.int .i64 ((bit m - 1 : Nat) : Int)))) := Lib.hid (fun B W v => by
    have := c_all v (m : Int) (by omega) (by omega)
    rwa [all_nat] at this)
  have hcR : ∀ w : Later V.heap.size V, w.val.cell? ⟨g, bit m - 1, none⟩ = some (.int .i64 (rk L (bit m - 1) : Int)) := fun w => (HT.out.keep w.below).cell (by omega)
  generalize hRk : rk L (bit m - 1) = R at *
  clear hRk
  obtain ⟨y, hy⟩ : ∃ y : Later V.heap.size V, y.val = V := ⟨Later.self _, rfl⟩
  rw [← hy]
  clear hy
  have hbi : bit m - 1 < bit m := by omega
  go_upto_region 4 with (first | (go_at_call 123; ((with_reducible refine (KA.out _ _ y).mono ?_); rintro e _ ⟨rfl, y, rfl⟩)))
  have HT2 : Hid (JTab (y.val.alloc (.cells (madeCells #[.int .i64 0] (R + 1)) 2)) y.val.heap.size (R + 1) (sgTo L R 0)) := Lib.hid ((JTab.made y.val (R + 1)).congr (fun j _ => rfl))
  have hB2 : V.heap.size ≤ y.val.heap.size := y.size
  have HZ : Hid (∃ w : Later V.heap.size V, w.val = (y.val.alloc (.cells (madeCells #[.int .i64 0] (R + 1)) 2))) := Lib.hid ⟨y.alloc _, rfl⟩
  clear hmk hcR
  generalize (y.val.alloc (.cells (madeCells #[.int .i64 0] (R + 1)) 2)) = Y3 at *
  generalize y.val.heap.size = g2 at *
  clear y
  obtain ⟨y, hy⟩ := HZ.out
  subst hy
  clear HZ
  go_wp2
  go_loopw [6] (fun i wr => ∃ (k : Nat) (v : Later V.heap.size V), k ≤ bit m ∧ i = .int .i64 k ∧ wr = v.val ∧ Hid (JTab v.val g2 (R + 1) (sgTo L R k))) (fun i _ => bit m - (intOf i).toNat)
  case atStart => exact ⟨0, y, by omega, rfl, rfl, HT2⟩
  case round =>
    clear y HT2
    obtain ⟨k, v, hk, rfl, rfl, HT2⟩ := hrel
    have KA1 : Hid (∀ y : Later v.val.heap.size v.val, Calls Try.prog 123 #[.int .i64 m] y.val (Ret v.val.heap.size v.val (.int .i64 ((bit m - 1 : Nat) : Int)))) := Lib.hid (fun y => KA.out _ _ y)
    have u0 : ∀ y : Later v.val.heap.size v.val, y.val.cell? ⟨gu, 0, none⟩ = some (.int .i64 m) := fun y => r0 (v.up y)
    obtain ⟨y, hy⟩ : ∃ y : Later v.val.heap.size v.val, y.val = v.val := ⟨Later.self _, rfl⟩
    rw [← hy]
    clear hy
    rcases ile (k : Int) ((bit m - 1 : Nat) : Int) with ⟨hlt, d0⟩ | ⟨hlt, d0⟩
    · have hkb : k < bit m := by omega
      have c1 : ∀ y : Later v.val.heap.size v.val, y.val.cell? ⟨g, k, none⟩ = some (.int .i64 (rk L k : Int)) := fun y => (HT.out.keep (v.up y).below).cell hkb
      have KS := Lib.hid (fun y : Later v.val.heap.size v.val => c_size y k (by omega))
      have hrR := HR.out k hkb
      have HTw : Hid (∀ y : Later v.val.heap.size v.val, JTab y.val g2 (R + 1) (sgTo L R k)) := Lib.hid (fun y => HT2.out.keep y.below)
      have c2 : ∀ y : Later v.val.heap.size v.val, y.val.cell? ⟨g2, R - rk L k, none⟩ = some (.int .i64 (sgTo L R k (R - rk L k))) := fun y => (HTw.out y).cell (by omega)
      have c3 : ∀ y : Later v.val.heap.size v.val, y.val.frozen? ⟨g2, R - rk L k, none⟩ = false := fun y => (HTw.out y).frozen _
      have hb1 := sgTo_le L R k (R - rk L k)
      have HN : Hid (∀ (z : Int) (w : World), JTab w g2 (R + 1) (sgTo L R k) → sgTo L R k (R - rk L k) + sgn k = z → JTab (w.setCell ⟨g2, R - rk L k, none⟩ (.int .i64 z)) g2 (R + 1) (sgTo L R (k + 1))) := Lib.hid (fun z w h hz => h.set _ _ (fun j _ => by rw [sgTo_step, hz]))
      have hsub : (R : Int) - (rk L k : Int) = ((R - rk L k : Nat) : Int) := by omega
      have hd1 : R - rk L k < R + 1 := by omega
      have hz8 := sz_le k
      have w1 := IntWalk.i64_in (sgTo L R k (R - rk L k) - 1) (by omega)
      have w2 := IntWalk.i64_in (sgTo L R k (R - rk L k) + 1) (by omega)
      clear HT2
      rcases sgn_cases k with ⟨hm1, hsg⟩ | ⟨hm1, hsg⟩
      · have hm2 : Int.tmod ((sz k : Nat) : Int) 2 = 1 := by rw [Int.tmod_eq_emod_of_nonneg (by omega)]; exact hm1
        rw [hsg] at HN
        clear hsg
        generalize sgTo L R k (R - rk L k) = q at *
        generalize R - rk L k = d at *
        generalize rk L k = p at *
        generalize sz k = z at *
        go_wp2_with (first | (go_at_call 123; ((with_reducible refine (KA1.out _).mono ?_); rintro e _ ⟨rfl, y, rfl⟩)) | (go_at_call 44; ((with_reducible refine (KS.out _).mono ?_); rintro e _ ⟨rfl, y, rfl⟩)))
        go_roundw
        case rel => exact ⟨k+1, (v.up y).set ⟨g2, d, none⟩ hB2 _, by omega, by go_num, rfl, Lib.hid (HN.out _ _ (HTw.out y) rfl)⟩
        case measure => simp [intOf]; omega
      · have hm2 : Int.tmod ((sz k : Nat) : Int) 2 = 0 := by rw [Int.tmod_eq_emod_of_nonneg (by omega)]; exact hm1
        rw [hsg] at HN
        clear hsg
        generalize sgTo L R k (R - rk L k) = q at *
        generalize R - rk L k = d at *
        generalize rk L k = p at *
        generalize sz k = z at *
        go_wp2_with (first | (go_at_call 123; ((with_reducible refine (KA1.out _).mono ?_); rintro e _ ⟨rfl, y, rfl⟩)) | (go_at_call 44; ((with_reducible refine (KS.out _).mono ?_); rintro e _ ⟨rfl, y, rfl⟩)))
        go_roundw
        case rel => exact ⟨k+1, (v.up y).set ⟨g2, d, none⟩ hB2 _, by omega, by go_num, rfl, Lib.hid (HN.out _ _ (HTw.out y) rfl)⟩
        case measure => simp [intOf]; omega
    · have hke : Hid (k = bit m) := Lib.hid (by omega)
      go_wp2_with (first | (go_at_call 123; ((with_reducible refine (KA1.out _).mono ?_); rintro e _ ⟨rfl, y, rfl⟩)))
      go_ret
      have := HT2.out.keep y.below
      rw [hke.out] at this
      exact RetP.of (HVB.out (v.up y)) this.reads

end Go.Proofs.Ytjpcelldbhdneaa
