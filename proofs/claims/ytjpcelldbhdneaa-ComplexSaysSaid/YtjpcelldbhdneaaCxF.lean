
/-
  complex.H, complex.Euler.
-/
import Derived.Test.YtjpcelldbhdneaaCxD
import Derived.Test.YtjpcelldbhdneaaCxC
namespace Go.Proofs.Ytjpcelldbhdneaa
open Go.RowKit
set_option linter.unusedVariables false

def rowT (f : Nat → Int) (d k i t : Nat) : Int := if t < k then hs f d t (d + 1) else if t = k then hs f d k i else 0
theorem rowT_zero (f : Nat → Int) (d t : Nat) : rowT f d 0 0 t = 0 := by
  unfold rowT
  rw [if_neg (Nat.not_lt_zero _)]
  split
  · rfl
  · rfl
theorem rowT_at (f : Nat → Int) (d k i : Nat) : rowT f d k i k = hs f d k i := by
  unfold rowT; rw [if_neg (Nat.lt_irrefl _), if_pos rfl]
theorem rowT_next (f : Nat → Int) {d k : Nat} (hk : k < d + 1) (t : Nat) : rowT f d k (k + 1) t = rowT f d (k + 1) 0 t := by
  unfold rowT
  by_cases c : t < k
  · rw [if_pos c, if_pos (show t < k + 1 by omega)]
  · rw [if_neg c]
    by_cases c2 : t = k
    · subst c2
      rw [if_pos rfl, if_pos (show t < t + 1 by omega), hs_stop hk]
    · rw [if_neg c2, if_neg (show ¬ t < k + 1 by omega)]
      by_cases c3 : t = k + 1
      · rw [if_pos c3]; rfl
      · rw [if_neg c3]
theorem rowT_step (f : Nat → Int) {d k i : Nat} (hi : i ≤ k) (t : Nat) : rowT f d k (i + 1) t = if t = k then hs f d k i + f i * pas (d - i) (k - i) else rowT f d k i t := by
  unfold rowT
  by_cases c : t < k
  · rw [if_pos c, if_pos c, if_neg (show ¬ t = k by omega)]
  · rw [if_neg c, if_neg c]
    by_cases c2 : t = k
    · subst c2
      rw [if_pos rfl, if_pos rfl]
      show hs f d t i + _ = _
      rw [if_pos hi]
    · rw [if_neg c2, if_neg c2, if_neg c2]

set_option maxRecDepth 100000 in
set_option maxHeartbeats 20000000 in
theorem c_cxH {B : Nat} {W : World} (u : Later B W) (m : Nat) (hm : m ≤ 8) (L : List Nat) (hL : ∀ b, b ∈ L → b < bit m) (hne : L ≠ []) (hlen : L.length ≤ 1048576) (a : Option Addr) (cap : Nat) (h : IntsAt B W a (ints L)) (hf : isFam m (ints L)) (h0 : cxE L = 0) :
    Calls Try.prog 111 #[.int .i64 m, .slice a (ints L).length cap] u.val (RetP B W (ListE (tabL (mostTo L L.length + 1) (fun t => hs (tally (those m (freeB L)) (those m (freeB L)).length) (mostTo L L.length) t (mostTo L L.length + 1))) 0)) := by
  have hb := bit_le m hm
  have KF := Lib.hid (c_cxF u m hm L hL hne hlen a cap h hf h0)
  have hd8 := mostTo_le L L.length
  have HFl := those_len256 hm (freeB L)
  have hf2 : ∀ k, 0 ≤ tally (those m (freeB L)) (those m (freeB L)).length k ∧ tally (those m (freeB L)) (those m (freeB L)).length k ≤ 256 := fun k => by
    have := tally_le (those m (freeB L)) (those m (freeB L)).length k
    omega
  clear h hf h0 hL hlen hne HFl
  generalize (ints L).length = lenL at *
  generalize hfe : tally (those m (freeB L)) (those m (freeB L)).length = f at *
  generalize hde : mostTo L L.length = d at *
  have HFe := Lib.hid hfe
  have HDe := Lib.hid hde
  clear hfe hde
  have hTl : (tabL (d + 1) f).length = d + 1 := tabL_len _ _
  go_enter Try.func111, Try.ntmps111
  go_upto_region 4 with (first | (go_at_call 110; (with_reducible refine (KF.out).mono ?_); rintro e _ ⟨_, rfl, ⟨_, rfl, ⟨adf, cpf, rfl, hI, hcp⟩⟩, v, rfl⟩))
  try rw [hTl]
  have HR : Hid (IntsAt v.val.heap.size v.val adf (tabL (d + 1) f)) := Lib.hid hI
  have HV1 : Hid (∀ y : Later v.val.heap.size v.val, ∃ w : Later B W, w.val = y.val) := Lib.hid (fun y => ⟨v.up y, rfl⟩)
  clear hI KF u hTl hcp
  generalize v.val = V2 at *
  clear v
  have hmk := mk_tab1 d (by omega)
  go_upto_region 6 with fail
  have HT0 : Hid (ITab (V2.alloc (.cells (madeCells #[Value.int .i64 0] (d + 1)) 3)) V2.heap.size (d + 1) (rowT f d 0 0)) := Lib.hid ((ITab.made _ _).congr (fun t _ => (rowT_zero f d t).symm))
  obtain ⟨v1, hv1⟩ : ∃ w : Later V2.heap.size V2, w.val = V2.alloc (.cells (madeCells #[Value.int .i64 0] (d + 1)) 3) := ⟨(Later.self V2).alloc _, rfl⟩
  rw [← hv1] at HT0 ⊢
  clear hv1 hmk
  generalize hgg : V2.heap.size = g2 at *
  clear hgg
  go_wp2
  go_loopw [30] (fun i wr => ∃ (k : Nat) (v : Later g2 V2), k ≤ d + 1 ∧ i = .int .i64 k ∧ wr = v.val ∧ Hid (ITab v.val g2 (d + 1) (rowT f d k 0))) (fun i _ => d + 1 - (intOf i).toNat)
  case atStart => exact ⟨0, v1, by omega, rfl, rfl, HT0⟩
  case round =>
    clear v1 HT0
    obtain ⟨k, v, hk, rfl, rfl, HT⟩ := hrel
    by_cases hlt : k < d + 1
    · have e1 : (k : Int) < (d : Int) + 1 := by omega
      have HN1 := Lib.hid (rowT_next f (d := d) hlt)
      go_wp2
      go_loopw [35] (fun i wr => ∃ (i' : Nat) (v : Later g2 V2), i' ≤ k + 1 ∧ i = .int .i64 i' ∧ wr = v.val ∧ Hid (ITab v.val g2 (d + 1) (rowT f d k i'))) (fun i _ => k + 1 - (intOf i).toNat)
      case atStart => exact ⟨0, v, by omega, rfl, rfl, HT⟩
      case round =>
        clear HT v
        obtain ⟨i, v, hi, rfl, rfl, HT⟩ := hrel
        by_cases hik : i < k + 1
        · have e2 : (i : Int) < (k : Int) + 1 := by omega
          obtain ⟨bf, off, rfl, hbf, hcf⟩ := HR.out.at (k := i) (by rw [tabL_len]; omega)
          have c0 : ∀ w : Later g2 V2, w.val.cell? ⟨bf, off + i, none⟩ = some (.int .i64 (f i)) := fun w => by
            have := hcf w i (by rw [tabL_len]; omega)
            rwa [tabL_getD (by omega)] at this
          have e3 : (i : Int) < (d : Int) + 1 := by omega
          have KC : Hid (∀ w : Later g2 V2, Calls Try.prog 209 #[.int .i64 ((d : Int) - (i : Int)), .int .i64 ((k : Int) - (i : Int))] w.val (Ret g2 V2 (.int .i64 (chs (d - i) (k - i))))) := Lib.hid (fun w => by
            have := c_cxChoose w (d - i) (k - i) (by omega) (by omega)
            rwa [show ((d - i : Nat) : Int) = (d : Int) - (i : Int) by omega, show ((k - i : Nat) : Int) = (k : Int) - (i : Int) by omega] at this)
          have hx := hf2 i
          have hc := chs_bd (d - i) (k - i) (by omega) (by omega)
          have hpb := pas_chs (d - i) (k - i) (by omega) (by omega)
          have hxb := mul_bd (A := 256) (Bb := 70) (show -256 ≤ f i by omega) hx.2 (show -70 ≤ chs (d - i) (k - i) by omega) hc.2
          have hsb := hs_bd (f := f) (d := d) (t := k) hd8 (by omega) hf2 i
          have c1 : v.val.cell? ⟨g2, k, none⟩ = some (.int .i64 (hs f d k i)) := by
            have := HT.out.cell hlt
            rwa [rowT_at] at this
          have HTw : Hid (∀ w : Later v.val.heap.size v.val, ITab w.val g2 (d + 1) (rowT f d k i)) := Lib.hid (fun w => HT.out.keep w.below)
          have HNx : Hid (∀ w : World, ITab w g2 (d + 1) (rowT f d k i) → ITab (w.setCell ⟨g2, k, none⟩ (.int .i64 (hs f d k i + f i * pas (d - i) (k - i)))) g2 (d + 1) (rowT f d k (i + 1))) := Lib.hid (fun w h => h.set k _ (fun t _ => rowT_step f (by omega) t))
          have c1w : ∀ w : Later v.val.heap.size v.val, w.val.cell? ⟨g2, k, none⟩ = some (.int .i64 (hs f d k i)) := fun w => by
            have := (HTw.out w).cell hlt
            rwa [rowT_at] at this
          have c2w : ∀ w : Later v.val.heap.size v.val, w.val.frozen? ⟨g2, k, none⟩ = false := fun w => (HTw.out w).frozen k
          have hbf2 : ∀ w : Later v.val.heap.size v.val, w.val.cell? ⟨bf, off + i, none⟩ = some (.int .i64 (f i)) := fun w => c0 (v.up w)
          have KC2 : Hid (∀ w : Later v.val.heap.size v.val, Calls Try.prog 209 #[.int .i64 ((d : Int) - (i : Int)), .int .i64 ((k : Int) - (i : Int))] w.val (Ret v.val.heap.size v.val (.int .i64 (chs (d - i) (k - i))))) := Lib.hid (fun w => by
            have := c_cxChoose w (d - i) (k - i) (by omega) (by omega)
            rwa [show ((d - i : Nat) : Int) = (d : Int) - (i : Int) by omega, show ((k - i : Nat) : Int) = (k : Int) - (i : Int) by omega] at this)
          have w0 := IntWalk.i64_in ((d : Int) - (i : Int)) (by omega)
          have w1 := IntWalk.i64_in ((k : Int) - (i : Int)) (by omega)
          have w2 := IntWalk.i64_in (f i * chs (d - i) (k - i)) (by omega)
          rcases (show (k - i) % 2 = 1 ∨ (k - i) % 2 = 0 by omega) with c | c
          · have tm : Int.tmod ((k : Int) - (i : Int)) 2 = 1 := by rw [Int.tmod_eq_emod_of_nonneg (by omega)]; omega
            have hq : f i * pas (d - i) (k - i) = -(f i * chs (d - i) (k - i)) := by rw [hpb, if_pos c, Int.mul_neg]
            rw [hq] at HNx
            clear hpb hq c c0 c1 KC HT hcf hx hc
            generalize hs f d k i = s at *
            generalize f i = fi at *
            generalize chs (d - i) (k - i) = cc at *
            obtain ⟨y0, hy0⟩ : ∃ y : Later v.val.heap.size v.val, y.val = v.val := ⟨Later.self _, rfl⟩
            rw [← hy0]
            clear hy0
            go_wp2
            refine wp_region_later y0 (by kernel_rfl) (by kernel_rfl) (fun _ => ?_)
            repeat (first | go_big_quiet_step (((go_at_call 209; exact KC2.out _))) | (refine wpQuiet_step (fun K hK => ?_); go_simp; refine ⟨_, fun _ => rfl, ?_⟩; refine hK _ ?_; clear hK K))
            refine wpQuiet_nil ?_
            intro y0
            go_wp2
            go_roundw
            case rel => exact ⟨i+1, (v.up y0).set ⟨g2, k, none⟩ (Nat.le_refl _) _, by omega, by go_num, rfl, Lib.hid (HNx.out _ (HTw.out y0))⟩
            case measure => simp [intOf]; omega
          · have tm : Int.tmod ((k : Int) - (i : Int)) 2 = 0 := by rw [Int.tmod_eq_emod_of_nonneg (by omega)]; omega
            have hq : f i * pas (d - i) (k - i) = f i * chs (d - i) (k - i) := by rw [hpb, if_neg (by omega)]
            rw [hq] at HNx
            clear hpb hq c c0 c1 KC HT hcf hx hc
            generalize hs f d k i = s at *
            generalize f i = fi at *
            generalize chs (d - i) (k - i) = cc at *
            obtain ⟨y0, hy0⟩ : ∃ y : Later v.val.heap.size v.val, y.val = v.val := ⟨Later.self _, rfl⟩
            rw [← hy0]
            clear hy0
            go_wp2
            refine wp_region_later y0 (by kernel_rfl) (by kernel_rfl) (fun _ => ?_)
            repeat (first | go_big_quiet_step (((go_at_call 209; exact KC2.out _))) | (refine wpQuiet_step (fun K hK => ?_); go_simp; refine ⟨_, fun _ => rfl, ?_⟩; refine hK _ ?_; clear hK K))
            refine wpQuiet_nil ?_
            intro y0
            go_wp2
            go_roundw
            case rel => exact ⟨i+1, (v.up y0).set ⟨g2, k, none⟩ (Nat.le_refl _) _, by omega, by go_num, rfl, Lib.hid (HNx.out _ (HTw.out y0))⟩
            case measure => simp [intOf]; omega
        · have hie : i = k + 1 := by omega
          subst hie
          go_wp2
          go_roundw
          case rel => exact ⟨k+1, v, by omega, by go_num, rfl, Lib.hid (HT.out.congr (fun t _ => HN1.out t))⟩
          case measure => simp [intOf]; omega
    · have hke : k = d + 1 := by omega
      subst hke
      go_wp2
      go_ret2
      refine RetP.of (HV1.out v) ⟨_, rfl, ?_⟩
      try rw [HFe.out]
      try rw [HDe.out]
      refine (HT.out.congr (fun t ht => ?_)).reads
      unfold rowT
      rw [if_pos ht]

set_option maxRecDepth 100000 in
set_option maxHeartbeats 8000000 in
theorem c_cxEuler {B : Nat} {W : World} (u : Later B W) (m : Nat) (hm : m ≤ 8) (L : List Nat) (hL : ∀ b, b ∈ L → b < bit m) (hne : L ≠ []) (hlen : L.length ≤ 1048576) (a : Option Addr) (cap : Nat) (h : IntsAt B W a (ints L)) (hf : isFam m (ints L)) (h0 : cxE L = 0) :
    Calls Try.prog 112 #[.int .i64 m, .slice a (ints L).length cap] u.val (Ret B W (.tuple #[.int .i64 (eu (tally (those m (freeB L)) (those m (freeB L)).length) (mostTo L L.length + 1)), .int .i64 0])) := by
  have hb := bit_le m hm
  have KF := Lib.hid (c_cxF u m hm L hL hne hlen a cap h hf h0)
  have hd8 := mostTo_le L L.length
  have HFl := those_len256 hm (freeB L)
  have hf2 : ∀ k, 0 ≤ tally (those m (freeB L)) (those m (freeB L)).length k ∧ tally (those m (freeB L)) (those m (freeB L)).length k ≤ 256 := fun k => by
    have := tally_le (those m (freeB L)) (those m (freeB L)).length k
    omega
  clear h hf h0 hL hlen hne HFl
  generalize (ints L).length = lenL at *
  generalize tally (those m (freeB L)) (those m (freeB L)).length = f at *
  generalize mostTo L L.length = d at *
  have hTl : (tabL (d + 1) f).length = d + 1 := tabL_len _ _
  go_enter Try.func112, Try.ntmps112
  go_upto_region 4 with (first | (go_at_call 110; (with_reducible refine (KF.out).mono ?_); rintro e _ ⟨_, rfl, ⟨_, rfl, ⟨adf, cpf, rfl, hI, hcp⟩⟩, v, rfl⟩))
  have HR : Hid (IntsAt v.val.heap.size v.val adf (tabL (d + 1) f)) := Lib.hid hI
  have HV1 : Hid (∀ y : Later v.val.heap.size v.val, ∃ w : Later B W, w.val = y.val) := Lib.hid (fun y => ⟨v.up y, rfl⟩)
  obtain ⟨y, hy⟩ : ∃ y : Later v.val.heap.size v.val, y.val = v.val := ⟨Later.self _, rfl⟩
  rw [← hy]
  clear hy hI KF u hTl hcp
  generalize v.val = V2 at *
  clear v
  have HZ : Hid (∀ k, eu f (k + 1) = eu f k + f k * (1 - 2 * ((k % 2 : Nat) : Int))) := Lib.hid (fun k => rfl)
  go_wp2
  go_loopw [8, 22] (fun o i wr => ∃ (k : Nat) (v : Later V2.heap.size V2), k ≤ d + 1 ∧ o = .int .i64 (eu f k) ∧ i = .int .i64 k ∧ wr = v.val) (fun _ i _ => d + 1 - (intOf i).toNat)
  case atStart => exact ⟨0, y, by omega, rfl, rfl, rfl⟩
  case round =>
    clear y
    obtain ⟨k, v, hk, rfl, rfl, rfl⟩ := hrel
    by_cases hlt : k < d + 1
    · have e1 : (k : Int) < (d : Int) + 1 := by omega
      obtain ⟨bf, off, rfl, hbf, hcf⟩ := HR.out.at (k := k) (by rw [tabL_len]; omega)
      have c0 : v.val.cell? ⟨bf, off + k, none⟩ = some (.int .i64 (f k)) := by
        have := hcf v k (by rw [tabL_len]; omega)
        rwa [tabL_getD (by omega)] at this
      have hx := hf2 k
      have hs1 := eu_bd hf2 k
      have HZ1 := Lib.hid (HZ.out k)
      clear hcf
      generalize eu f k = s at *
      generalize f k = fk at *
      rcases (show k % 2 = 0 ∨ k % 2 = 1 by omega) with c | c
      · have tm : Int.tmod (k : Int) 2 = 0 := by rw [Int.tmod_eq_emod_of_nonneg (by omega)]; omega
        rw [c] at HZ1
        go_wp2
        go_roundw
        case rel => exact ⟨k+1, v, by omega, vint (by rw [HZ1.out]; simp), by go_num, rfl⟩
        case measure => simp [intOf]; omega
      · have tm : Int.tmod (k : Int) 2 = 1 := by rw [Int.tmod_eq_emod_of_nonneg (by omega)]; omega
        rw [c] at HZ1
        go_wp2
        go_roundw
        case rel => exact ⟨k+1, v, by omega, vint (by rw [HZ1.out]; simp), by go_num, rfl⟩
        case measure => simp [intOf]; omega
    · have hke : k = d + 1 := by omega
      subst hke
      go_wp2
      go_ret2
      exact Ret.of (HV1.out v) rfl

end Go.Proofs.Ytjpcelldbhdneaa
