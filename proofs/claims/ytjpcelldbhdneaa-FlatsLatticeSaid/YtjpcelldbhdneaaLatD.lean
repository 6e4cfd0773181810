
/-
  flats.Chains.
-/
import Derived.Test.YtjpcelldbhdneaaLatC
namespace Go.Proofs.Ytjpcelldbhdneaa
open Go.RowKit
set_option linter.unusedVariables false

def chS (A : Nat → Int) (i j : Nat) : Int := if j < i then A j else 0
def chT (F L : List Nat) (A : Nat → Int) (i k j : Nat) : Int := if j < i then A j else if j = i then (if i = 0 then 1 else 0) + usum F L A i k else 0
theorem chT_next {F L : List Nat} {A : Nat → Int} (hA : UpIs F L A) {i : Nat} (hi : i < F.length) (j : Nat) : chT F L A i i j = chS A (i + 1) j := by
  unfold chT chS
  by_cases h1 : j < i
  · rw [if_pos h1, if_pos (show j < i + 1 by omega)]
  · by_cases h2 : j = i
    · rw [if_neg h1, if_pos h2, if_pos (show j < i + 1 by omega), h2]
      by_cases h0 : i = 0
      · subst h0
        have h3 : usum F L A 0 0 = 0 := hA.2.2.2
        have h4 : A 0 = 1 := hA.1
        rw [h3, h4]; rfl
      · have := hA.2.1 i (by omega) hi
        simp only [h0, if_false]
        omega
    · rw [if_neg h1, if_neg h2, if_neg (show ¬ j < i + 1 by omega)]
theorem chT_first (F L : List Nat) (A : Nat → Int) (j : Nat) : chT F L A 0 0 j = if j = 0 then 1 else chS A 0 j := by
  unfold chT chS
  by_cases h2 : j = 0
  · subst h2; rfl
  · rw [if_neg (show ¬ j < 0 by omega), if_neg h2, if_neg h2, if_neg (show ¬ j < 0 by omega)]
theorem chT_start (F L : List Nat) (A : Nat → Int) {i : Nat} (h0 : i ≠ 0) (j : Nat) : chS A i j = chT F L A i 0 j := by
  unfold chT chS
  by_cases h1 : j < i
  · rw [if_pos h1, if_pos h1]
  · rw [if_neg h1, if_neg h1, if_neg h0]
    split <;> rfl
theorem chT_yes {F L : List Nat} {A : Nat → Int} {i k j : Nat} (h : F.getD k 0 &&& F.getD i 0 = F.getD k 0 ∧ rk L (F.getD k 0) + 1 = rk L (F.getD i 0)) : chT F L A i (k + 1) j = if j = i then ((if i = 0 then 1 else 0) + usum F L A i k) + A k else chT F L A i k j := by
  unfold chT
  by_cases h1 : j < i
  · rw [if_pos h1, if_neg (by omega), if_pos h1]
  · by_cases h2 : j = i
    · rw [if_neg h1, if_pos h2, if_pos h2]
      unfold usum
      simp only [isum]
      rw [if_pos h]
      omega
    · rw [if_neg h1, if_neg h2, if_neg h2, if_neg h1, if_neg h2]
theorem chT_no {F L : List Nat} {A : Nat → Int} {i k j : Nat} (h : ¬ (F.getD k 0 &&& F.getD i 0 = F.getD k 0 ∧ rk L (F.getD k 0) + 1 = rk L (F.getD i 0))) : chT F L A i (k + 1) j = chT F L A i k j := by
  unfold chT usum
  simp only [isum]
  rw [if_neg h, Int.add_zero]

set_option maxRecDepth 100000 in
set_option maxHeartbeats 8000000 in
theorem c_flChains {B : Nat} {W : World} (u : Later B W) (m : Nat) (hm : m ≤ 8) (l : List Int) (a : Option Addr) (cap : Nat) (h : IntsAt B W a l) (hlen : l.length ≤ 4611686018427387904) (he : MatIs (m : Int) l 0) (A : Nat → Int) (hA : UpIs (those m (flatP m (toN l))) (toN l) A) (hn : 0 < (those m (flatP m (toN l))).length) :
    Calls Try.prog 79 #[.agg #[.int .i64 m, .slice a l.length cap]] u.val (Ret B W (.tuple #[.int .i64 (A ((those m (flatP m (toN l))).length - 1)), .int .i64 0])) := by
  have hbm := bit_le m hm
  have T0 : Two (u.val.alloc (.cells #[.int .i64 m, .slice a l.length cap] 24)) u.val.heap.size 24 (.int .i64 m) (.slice a l.length cap) := Two.new _ _ _ _
  have HV : Hid (∀ v : Later (u.val.alloc (.cells #[.int .i64 m, .slice a l.length cap] 24)).heap.size (u.val.alloc (.cells #[.int .i64 m, .slice a l.length cap] 24)), ∃ w : Later B W, w.val = v.val) := Lib.hid (fun v => ⟨(u.alloc _).up v, rfl⟩)
  have HB0 : Hid (B ≤ (u.val.alloc (.cells #[.int .i64 m, .slice a l.length cap] 24)).heap.size) := Lib.hid (by have := u.size; simp; omega)
  have q0 : ∀ w : Later (u.val.alloc (.cells #[.int .i64 m, .slice a l.length cap] 24)).heap.size (u.val.alloc (.cells #[.int .i64 m, .slice a l.length cap] 24)), w.val.cell? ⟨u.val.heap.size, 0, none⟩ = some (.int .i64 m) := fun w => (T0.keep w.below).c0
  have p0 : (u.val.alloc (.cells #[.int .i64 m, .slice a l.length cap] 24)).cell? ⟨u.val.heap.size, 0, none⟩ = some (.int .i64 m) := T0.c0
  have p1 : (u.val.alloc (.cells #[.int .i64 m, .slice a l.length cap] 24)).cell? ⟨u.val.heap.size, 1, none⟩ = some (.slice a l.length cap) := T0.c1
  have K0 := Lib.hid (show Calls Try.prog 178 #[.agg #[.int .i64 m, .slice a l.length cap]] (u.val.alloc (.cells #[.int .i64 m, .slice a l.length cap] 24)) _ from c_flatsOf (Later.self (u.val.alloc (.cells #[.int .i64 m, .slice a l.length cap] 24))) m hm l a cap (h.to (u.alloc _)) hlen he)
  clear h hlen he T0
  go_enter Try.func79, Try.ntmps79
  go_upto_region 2 with (first | (go_at_call 178; ((with_reducible refine (K0.out).mono ?_); rintro e _ ⟨_, rfl, ⟨adF, cpF, g, c, rfl, hO, hT, hBg⟩, v1, rfl⟩)))
  have TY : RowL (v1.val.alloc (.cells #[.int .i64 m, .slice a l.length cap, .slice adF (ints (those m (flatP m (toN l)))).length cpF, .slice (some ⟨g, 0, none⟩) (bit m) c] 115)) v1.val.heap.size 115 [.int .i64 m, .slice a l.length cap, .slice adF (ints (those m (flatP m (toN l)))).length cpF, .slice (some ⟨g, 0, none⟩) (bit m) c] := RowL.new _ _ _
  have s0 : ∀ w : Later (v1.val.alloc (.cells #[.int .i64 m, .slice a l.length cap, .slice adF (ints (those m (flatP m (toN l)))).length cpF, .slice (some ⟨g, 0, none⟩) (bit m) c] 115)).heap.size (v1.val.alloc (.cells #[.int .i64 m, .slice a l.length cap, .slice adF (ints (those m (flatP m (toN l)))).length cpF, .slice (some ⟨g, 0, none⟩) (bit m) c] 115)), w.val.cell? ⟨v1.val.heap.size, 0, none⟩ = some (.int .i64 m) := fun w => (TY.keep w.below).cell rfl
  have s1 : ∀ w : Later (v1.val.alloc (.cells #[.int .i64 m, .slice a l.length cap, .slice adF (ints (those m (flatP m (toN l)))).length cpF, .slice (some ⟨g, 0, none⟩) (bit m) c] 115)).heap.size (v1.val.alloc (.cells #[.int .i64 m, .slice a l.length cap, .slice adF (ints (those m (flatP m (toN l)))).length cpF, .slice (some ⟨g, 0, none⟩) (bit m) c] 115)), w.val.cell? ⟨v1.val.heap.size, 1, none⟩ = some (.slice a l.length cap) := fun w => (TY.keep w.below).cell rfl
  have s2 : ∀ w : Later (v1.val.alloc (.cells #[.int .i64 m, .slice a l.length cap, .slice adF (ints (those m (flatP m (toN l)))).length cpF, .slice (some ⟨g, 0, none⟩) (bit m) c] 115)).heap.size (v1.val.alloc (.cells #[.int .i64 m, .slice a l.length cap, .slice adF (ints (those m (flatP m (toN l)))).length cpF, .slice (some ⟨g, 0, none⟩) (bit m) c] 115)), w.val.cell? ⟨v1.val.heap.size, 2, none⟩ = some (.slice adF (ints (those m (flatP m (toN l)))).length cpF) := fun w => (TY.keep w.below).cell rfl
  have s3 : ∀ w : Later (v1.val.alloc (.cells #[.int .i64 m, .slice a l.length cap, .slice adF (ints (those m (flatP m (toN l)))).length cpF, .slice (some ⟨g, 0, none⟩) (bit m) c] 115)).heap.size (v1.val.alloc (.cells #[.int .i64 m, .slice a l.length cap, .slice adF (ints (those m (flatP m (toN l)))).length cpF, .slice (some ⟨g, 0, none⟩) (bit m) c] 115)), w.val.cell? ⟨v1.val.heap.size, 3, none⟩ = some (.slice (some ⟨g, 0, none⟩) (bit m) c) := fun w => (TY.keep w.below).cell rfl
  have hcp := hO.le
  have HIF : Hid (IntsAt (v1.val.alloc (.cells #[.int .i64 m, .slice a l.length cap, .slice adF (ints (those m (flatP m (toN l)))).length cpF, .slice (some ⟨g, 0, none⟩) (bit m) c] 115)).heap.size (v1.val.alloc (.cells #[.int .i64 m, .slice a l.length cap, .slice adF (ints (those m (flatP m (toN l)))).length cpF, .slice (some ⟨g, 0, none⟩) (bit m) c] 115)) adF (ints (those m (flatP m (toN l))))) := Lib.hid (hO.reads.to ((Later.self v1.val).alloc _))
  have HT : Hid (ITab (v1.val.alloc (.cells #[.int .i64 m, .slice a l.length cap, .slice adF (ints (those m (flatP m (toN l)))).length cpF, .slice (some ⟨g, 0, none⟩) (bit m) c] 115)) g (bit m) (fun j => (rk (toN l) j : Int))) := Lib.hid (hT.keep ((Below.refl _ _).alloc (Nat.le_refl _) _))
  have hgY : g < (v1.val.alloc (.cells #[.int .i64 m, .slice a l.length cap, .slice adF (ints (those m (flatP m (toN l)))).length cpF, .slice (some ⟨g, 0, none⟩) (bit m) c] 115)).heap.size := HT.out.lt
  have HVY : Hid (∀ v : Later (v1.val.alloc (.cells #[.int .i64 m, .slice a l.length cap, .slice adF (ints (those m (flatP m (toN l)))).length cpF, .slice (some ⟨g, 0, none⟩) (bit m) c] 115)).heap.size (v1.val.alloc (.cells #[.int .i64 m, .slice a l.length cap, .slice adF (ints (those m (flatP m (toN l)))).length cpF, .slice (some ⟨g, 0, none⟩) (bit m) c] 115)), ∃ w : Later B W, w.val = v.val) := Lib.hid (fun v => HV.out ((v1.alloc _).up v))
  have HBY : Hid (B ≤ (v1.val.alloc (.cells #[.int .i64 m, .slice a l.length cap, .slice adF (ints (those m (flatP m (toN l)))).length cpF, .slice (some ⟨g, 0, none⟩) (bit m) c] 115)).heap.size) := Lib.hid (by obtain ⟨w, hw⟩ := HV.out (v1.alloc (.cells #[.int .i64 m, .slice a l.length cap, .slice adF (ints (those m (flatP m (toN l)))).length cpF, .slice (some ⟨g, 0, none⟩) (bit m) c] 115)); have := w.size; rw [hw] at this; exact this)
  have r0 : ∀ w : Later (v1.val.alloc (.cells #[.int .i64 m, .slice a l.length cap, .slice adF (ints (those m (flatP m (toN l)))).length cpF, .slice (some ⟨g, 0, none⟩) (bit m) c] 115)).heap.size (v1.val.alloc (.cells #[.int .i64 m, .slice a l.length cap, .slice adF (ints (those m (flatP m (toN l)))).length cpF, .slice (some ⟨g, 0, none⟩) (bit m) c] 115)), w.val.cell? ⟨u.val.heap.size, 0, none⟩ = some (.int .i64 m) := fun w => q0 ((v1.alloc _).up w)
  clear K0 HV HB0 q0 p0 p1 TY hO hT hBg
  generalize v1.val.heap.size = gl at *
  generalize (v1.val.alloc (.cells #[.int .i64 m, .slice a l.length cap, .slice adF (ints (those m (flatP m (toN l)))).length cpF, .slice (some ⟨g, 0, none⟩) (bit m) c] 115)) = Y at *
  obtain ⟨y, hy⟩ : ∃ y : Later Y.heap.size Y, y.val = Y := ⟨Later.self _, rfl⟩
  rw [← hy]
  clear hy
  have hFl : (those m (flatP m (toN l))).length ≤ 256 := by have := thoseTo_len (flatP m (toN l)) (bit m); have e : those m (flatP m (toN l)) = thoseTo (flatP m (toN l)) (bit m) := rfl; rw [e]; omega
  have HF8 : Hid (∀ i, i < (those m (flatP m (toN l))).length → (those m (flatP m (toN l))).getD i 0 < bit m) := Lib.hid (fun i hi => (those_at hi).1)
  have HA := Lib.hid hA
  clear hA
  rw [ints_len] at *
  generalize those m (flatP m (toN l)) = F at *
  generalize toN l = L at *
  have hmk := mk_tab F.length (by omega)
  go_upto_region 5 with fail
  have HT2 : Hid (ITab (y.val.alloc (.cells (madeCells #[.int .i64 0] F.length) 3)) y.val.heap.size F.length (chS A 0)) := Lib.hid ((ITab.made y.val F.length).congr (fun j _ => by unfold chS; rw [if_neg (by omega)]))
  have hB2 : Y.heap.size ≤ y.val.heap.size := y.size
  have HZ : Hid (∃ w : Later Y.heap.size Y, w.val = (y.val.alloc (.cells (madeCells #[.int .i64 0] F.length) 3))) := Lib.hid ⟨y.alloc _, rfl⟩
  clear hmk
  generalize (y.val.alloc (.cells (madeCells #[.int .i64 0] F.length) 3)) = Y3 at *
  generalize y.val.heap.size = g2 at *
  clear y
  obtain ⟨y, hy⟩ := HZ.out
  subst hy
  clear HZ
  go_wp2
  go_loopw [26] (fun i wr => ∃ (k : Nat) (v : Later Y.heap.size Y), k ≤ F.length ∧ i = .int .i64 k ∧ wr = v.val ∧ Hid (ITab v.val g2 F.length (chS A k))) (fun i _ => F.length - (intOf i).toNat)
  case atStart => exact ⟨0, y, by omega, rfl, rfl, HT2⟩
  case round =>
    clear y HT2
    obtain ⟨i, v, hi, rfl, rfl, HT2⟩ := hrel
    by_cases hlt : i < F.length
    · obtain ⟨bb, off, rfl, hbB, hcell⟩ := HIF.out.at (k := i) (by rw [ints_len]; exact hlt)
      have HC := Lib.hid (fun (w : Later Y.heap.size Y) (k : Nat) (hk : k < F.length) => hcell w k (by rw [ints_len]; exact hk))
      have c0 : ∀ w : Later Y.heap.size Y, w.val.cell? ⟨bb, off + i, none⟩ = some (.int .i64 ((F.getD i 0 : Nat) : Int)) := fun w => by rw [← ints_getD]; exact HC.out w i hlt
      have hfi := HF8.out i hlt
      clear hcell
      obtain ⟨fi, hfe⟩ : ∃ fi, F.getD i 0 = fi := ⟨_, rfl⟩
      rw [hfe] at c0 hfi
      have HFe := Lib.hid hfe
      clear hfe
      have cr : ∀ w : Later Y.heap.size Y, w.val.cell? ⟨g, fi, none⟩ = some (.int .i64 (rk L fi : Int)) := fun w => (HT.out.keep_at w.below hgY).cell hfi
      have hri := rk_le8 L fi
      by_cases h0 : i = 0
      · have d0 : ((i : Int) == 0) = true := by rw [beq_iff_eq]; omega
        have c1 : v.val.cell? ⟨g2, i, none⟩ = some (.int .i64 0) := by
          have := HT2.out.cell hlt
          rwa [show chS A i i = 0 by unfold chS; rw [if_neg (by omega)]] at this
        have c2 := HT2.out.frozen i
        have HN : Hid (ITab (v.val.setCell ⟨g2, i, none⟩ (.int .i64 1)) g2 F.length (chS A (i + 1))) := Lib.hid (by
          subst h0
          exact (HT2.out.set 0 1 (fun j _ => chT_first F L A j)).congr (fun j _ => chT_next HA.out hlt j))
        have c0' := c0 v
        have hi0 : ¬ 0 < i := by omega
        obtain ⟨v2, hv2⟩ : ∃ v2 : Later Y.heap.size Y, v2.val = v.val.setCell ⟨g2, i, none⟩ (.int .i64 1) := ⟨v.set ⟨g2, i, none⟩ hB2 _, rfl⟩
        rw [← hv2] at HN
        have s2' : (v.val.setCell ⟨g2, i, none⟩ (.int .i64 1)).cell? ⟨gl, 2, none⟩ = some (.slice (some ⟨bb, off, none⟩) F.length cpF) := by rw [← hv2]; exact s2 v2
        clear h0
        go_wp2
        rw [← hv2]
        clear hv2 s2' c1 c2
        go_loopw [41] (fun k wr => k = .int .i64 0 ∧ wr = v2.val) (fun k _ => 0)
        case atStart => exact ⟨rfl, rfl⟩
        case round =>
          obtain ⟨rfl, rfl⟩ := hrel
          have d1 : decide ((0 : Int) < (i : Int)) = false := decide_eq_false (by omega)
          go_wp2
          go_roundw
          case rel => exact ⟨i+1, v2, by omega, by go_num, rfl, HN⟩
          case measure => simp [intOf]; omega
      · have d0 : ((i : Int) == 0) = false := by rw [beq_eq_false_iff_ne]; omega
        have HT3 : Hid (ITab v.val g2 F.length (chT F L A i 0)) := Lib.hid (HT2.out.congr (fun j _ => chT_start F L A h0 j))
        clear HT2
        go_wp2
        go_loopw [41] (fun k wr => ∃ (s : Nat) (v : Later Y.heap.size Y), s ≤ i ∧ k = .int .i64 s ∧ wr = v.val ∧ Hid (ITab v.val g2 F.length (chT F L A i s))) (fun k _ => i - (intOf k).toNat)
        case atStart => exact ⟨0, v, by omega, rfl, rfl, HT3⟩
        case round =>
          clear v HT3
          obtain ⟨k, v, hk, rfl, rfl, HT2⟩ := hrel
          by_cases hltk : k < i
          · have hkF : k < F.length := by omega
            have hfk := HF8.out k hkF
            have c3 : ∀ w : Later v.val.heap.size v.val, w.val.cell? ⟨bb, off + k, none⟩ = some (.int .i64 ((F.getD k 0 : Nat) : Int)) := fun w => by rw [← ints_getD]; exact HC.out (v.up w) k (by omega)
            have c4 : ∀ w : Later v.val.heap.size v.val, w.val.cell? ⟨g, F.getD k 0, none⟩ = some (.int .i64 (rk L (F.getD k 0) : Int)) := fun w => (HT.out.keep_at (v.up w).below hgY).cell hfk
            have c5 : ∀ w : Later v.val.heap.size v.val, w.val.cell? ⟨g, fi, none⟩ = some (.int .i64 (rk L fi : Int)) := fun w => cr (v.up w)
            have t3 : ∀ w : Later v.val.heap.size v.val, w.val.cell? ⟨gl, 3, none⟩ = some (.slice (some ⟨g, 0, none⟩) (bit m) c) := fun w => s3 (v.up w)
            have hrk := rk_le8 L (F.getD k 0)
            have o1 := i64_and (F.getD k 0) fi (by omega) (by omega)
            have HTw : Hid (∀ w : Later v.val.heap.size v.val, ITab w.val g2 F.length (chT F L A i k)) := Lib.hid (fun w => HT2.out.keep w.below)
            have HNo : Hid (¬ (F.getD k 0 &&& fi = F.getD k 0 ∧ rk L (F.getD k 0) + 1 = rk L fi) → ∀ w : Later v.val.heap.size v.val, ITab w.val g2 F.length (chT F L A i (k + 1))) := Lib.hid (fun h w => (HTw.out w).congr (fun j _ => (chT_no (by rw [HFe.out]; exact h)).symm))
            have c3' := c3 (Later.self v.val)
            have c3'' : v.val.cell? ⟨bb, off + k, none⟩ = some (.int .i64 ((F.getD k 0 : Nat) : Int)) := c3'
            obtain ⟨y, hy⟩ : ∃ y : Later v.val.heap.size v.val, y.val = v.val := ⟨Later.self _, rfl⟩
            clear HT2 c3'
            rw [← hy]
            clear hy
            by_cases h1 : F.getD k 0 &&& fi = F.getD k 0
            case neg =>
              have d1 : (((F.getD k 0 &&& fi : Nat) : Int) == ((F.getD k 0 : Nat) : Int)) = false := by rw [beq_eq_false_iff_ne]; omega
              have HN := Lib.hid (HNo.out (fun h => h1 h.1))
              clear h1 HNo
              generalize F.getD k 0 &&& fi = z at *
              generalize rk L (F.getD k 0) = p at *
              generalize rk L fi = q at *
              generalize F.getD k 0 = x at *
              go_wp2
              refine wp_region_later y (by kernel_rfl) (by kernel_rfl) (fun _ => ?_)
              repeat (first | go_big_quiet_step ((fail)) | (refine wpQuiet_step (fun K hK => ?_); go_simp; refine ⟨_, fun _ => rfl, ?_⟩; refine hK _ ?_; clear hK K))
              refine wpQuiet_nil ?_
              intro y
              go_wp2
              go_roundw
              case rel => exact ⟨k+1, v.up y, by omega, by go_num, rfl, Lib.hid (HN.out y)⟩
              case measure => simp [intOf]; omega
            have d1 : (((F.getD k 0 &&& fi : Nat) : Int) == ((F.getD k 0 : Nat) : Int)) = true := by rw [beq_iff_eq]; omega
            by_cases h2 : rk L (F.getD k 0) + 1 = rk L fi
            case neg =>
              have d2 : ((rk L (F.getD k 0) : Int) + 1 == (rk L fi : Int)) = false := by rw [beq_eq_false_iff_ne]; omega
              have HN := Lib.hid (HNo.out (fun h => h2 h.2))
              clear h1 h2 HNo
              generalize F.getD k 0 &&& fi = z at *
              generalize rk L (F.getD k 0) = p at *
              generalize rk L fi = q at *
              generalize F.getD k 0 = x at *
              go_wp2
              refine wp_region_later y (by kernel_rfl) (by kernel_rfl) (fun _ => ?_)
              repeat (first | go_big_quiet_step ((fail)) | (refine wpQuiet_step (fun K hK => ?_); go_simp; refine ⟨_, fun _ => rfl, ?_⟩; refine hK _ ?_; clear hK K))
              refine wpQuiet_nil ?_
              intro y
              go_wp2
              go_roundw
              case rel => exact ⟨k+1, v.up y, by omega, by go_num, rfl, Lib.hid (HN.out y)⟩
              case measure => simp [intOf]; omega
            have d2 : ((rk L (F.getD k 0) : Int) + 1 == (rk L fi : Int)) = true := by rw [beq_iff_eq]; omega
            have c6 : ∀ w : Later v.val.heap.size v.val, w.val.cell? ⟨g2, i, none⟩ = some (.int .i64 (usum F L A i k)) := fun w => by
              have := (HTw.out w).cell hlt
              rwa [show chT F L A i k i = usum F L A i k by unfold chT; rw [if_neg (by omega), if_pos rfl, if_neg h0, Int.zero_add]] at this
            have c7 : ∀ w : Later v.val.heap.size v.val, w.val.cell? ⟨g2, k, none⟩ = some (.int .i64 (A k)) := fun w => by
              have := (HTw.out w).cell hkF
              rwa [show chT F L A i k k = A k by unfold chT; rw [if_pos hltk]] at this
            have c8 : ∀ w : Later v.val.heap.size v.val, w.val.frozen? ⟨g2, i, none⟩ = false := fun w => (HTw.out w).frozen i
            have hb1 := usum_mono HA.out (show k ≤ i by omega) hlt
            have hb2 := HA.out.2.2.1 k hkF
            have hw := IntWalk.i64_in (usum F L A i k + A k) (by omega)
            have HN : Hid (∀ w : World, ITab w g2 F.length (chT F L A i k) → ITab (w.setCell ⟨g2, i, none⟩ (.int .i64 (usum F L A i k + A k))) g2 F.length (chT F L A i (k + 1))) := Lib.hid (fun w h => h.set i _ (fun j _ => by
              rw [chT_yes (by rw [HFe.out]; exact ⟨h1, h2⟩), if_neg h0, Int.zero_add]))
            clear h1 h2 HNo
            generalize F.getD k 0 &&& fi = z at *
            generalize rk L (F.getD k 0) = p at *
            generalize rk L fi = q at *
            generalize F.getD k 0 = x at *
            generalize usum F L A i k = us at *
            generalize A k = ak at *
            go_wp2
            refine wp_region_later y (by kernel_rfl) (by kernel_rfl) (fun _ => ?_)
            repeat (first | go_big_quiet_step ((fail)) | (refine wpQuiet_step (fun K hK => ?_); go_simp; refine ⟨_, fun _ => rfl, ?_⟩; refine hK _ ?_; clear hK K))
            refine wpQuiet_nil ?_
            intro y
            go_wp2
            obtain ⟨y2, hy2⟩ : ∃ y2 : Later y.val.heap.size y.val, y2.val = y.val := ⟨Later.self _, rfl⟩
            have c6' : ∀ w : Later y.val.heap.size y.val, w.val.cell? ⟨g2, i, none⟩ = some (.int .i64 us) := fun w => c6 (y.up w)
            have c7' : ∀ w : Later y.val.heap.size y.val, w.val.cell? ⟨g2, k, none⟩ = some (.int .i64 ak) := fun w => c7 (y.up w)
            have c8' : ∀ w : Later y.val.heap.size y.val, w.val.frozen? ⟨g2, i, none⟩ = false := fun w => c8 (y.up w)
            rw [← hy2]
            clear hy2
            refine wp_region_later_tail y2 9 (by kernel_rfl) (by kernel_rfl) (fun y3 => ?_)
            simp only [List.take_succ_cons, List.take_zero, List.drop_succ_cons, List.drop_zero]
            repeat still_step
            refine wpStill_nil ?_
            go_wp2
            go_roundw
            case rel => exact ⟨k+1, (v.up (y.up y3)).set ⟨g2, i, none⟩ hB2 _, by omega, by go_num, rfl, Lib.hid (HN.out _ (HTw.out (y.up y3)))⟩
            case measure => simp [intOf]; omega
          · have hke : k = i := by omega
            subst hke
            have HN : Hid (ITab v.val g2 F.length (chS A (k + 1))) := Lib.hid (HT2.out.congr (fun j _ => chT_next HA.out hlt j))
            go_wp2
            go_roundw
            case rel => exact ⟨k+1, v, by omega, by go_num, rfl, HN⟩
            case measure => simp [intOf]; omega
    · have hie : Hid (i = F.length) := Lib.hid (by omega)
      have c1 : v.val.cell? ⟨g2, F.length - 1, none⟩ = some (.int .i64 (A (F.length - 1))) := by
        have := HT2.out.cell (i := F.length - 1) (by omega)
        rwa [show chS A i (F.length - 1) = A (F.length - 1) by unfold chS; rw [if_pos (by have := hie.out; omega)]] at this
      have hsub : (F.length : Int) - 1 = ((F.length - 1 : Nat) : Int) := by omega
      have hl1 : F.length - 1 < F.length := by omega
      go_wp2
      go_ret2
      exact Ret.of (HVY.out v) rfl

end Go.Proofs.Ytjpcelldbhdneaa
