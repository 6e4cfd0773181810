
/-
  rotaref.Counted: how many faces of each size, and as powers of 1 - z.
-/
import Derived.Test.YtjpcelldbhdneaaCxB
import Derived.Test.YtjpcelldbhdneaaBox1
import Derived.Laws.OwnMore
namespace Go.Proofs.Ytjpcelldbhdneaa
open Go.RowKit
set_option linter.unusedVariables false

/-! an appended row of whole numbers, as a table -/
theorem Own.cellT {B : Nat} {w : World} {g cap n : Nat} {A : Nat → Int} (h : Own B w (some ⟨g, 0, none⟩) cap (tabL n A)) {i : Nat} (hi : i < n) : w.cell? ⟨g, i, none⟩ = some (.int .i64 (A i)) := by
  unfold Own at h
  rw [World.ownsRow.cellAt h i (by rw [tabL_len]; omega)]
  simp [tabL, hi]
theorem Own.frozenT {B : Nat} {w : World} {g cap : Nat} {xs : List Int} (h : Own B w (some ⟨g, 0, none⟩) cap xs) (i : Nat) : w.frozen? ⟨g, i, none⟩ = false := World.ownsRow.frozenAt h i
theorem Own.ltT {B : Nat} {w : World} {g cap : Nat} {xs : List Int} (h : Own B w (some ⟨g, 0, none⟩) cap xs) : B ≤ g ∧ g < w.heap.size := World.ownsRow.lt h g rfl
theorem Own.setT {B : Nat} {w : World} {g cap n : Nat} {A A' : Nat → Int} (h : Own B w (some ⟨g, 0, none⟩) cap (tabL n A)) (i : Nat) (v : Int) (e : ∀ j, j < n → A' j = if j = i then v else A j) : Own B (w.setCell ⟨g, i, none⟩ (.int .i64 v)) (some ⟨g, 0, none⟩) cap (tabL n A') := by
  unfold Own at h ⊢
  rw [tabL_len] at h ⊢
  have := (World.ownsRow.stored h i (.int .i64 v)).1
  rwa [show (tabL n A').map (Value.int .i64) = ((tabL n A).map (Value.int .i64)).set i (.int .i64 v) from by
    apply List.ext_getElem
    · simp [tabL]
    · intro k h1 h2
      simp [tabL] at h1
      rw [List.getElem_set]
      simp only [tabL, List.getElem_map, List.getElem_range]
      rw [e k h1]
      by_cases c : k = i
      · subst c; simp
      · rw [if_neg c, if_neg (fun h => c h.symm)]]
def lenV : Value → Nat
  | .slice _ n _ => n
  | _ => 0
theorem itab_lit (w : World) (x : Int) : ITab (w.alloc (.cells #[.int .i64 x] 3)) w.heap.size 1 (fun _ => x) := by
  have := World.rowIs_made w (.int .i64 x) 1 3
  rwa [show madeCells #[Value.int .i64 x] 1 = #[.int .i64 x] from by apply Array.ext'; rw [toList_madeCells_one]; rfl] at this

/-- one factor more: what stands in the new row after j rounds -/
def nxT (pp : Nat → Int) (j t : Nat) : Int := (if t < j then pp t else 0) - (if 1 ≤ t ∧ t - 1 < j then pp (t - 1) else 0)
theorem nxT_zero (pp : Nat → Int) (t : Nat) : nxT pp 0 t = 0 := by simp [nxT]
theorem nxT_step (pp : Nat → Int) (j t : Nat) : nxT pp (j + 1) t = if t = j + 1 then 0 - pp j else if t = j then nxT pp j j + pp j else nxT pp j t := by
  unfold nxT
  by_cases c : t = j + 1
  · subst c
    rw [if_pos (rfl : j + 1 = j + 1), if_neg (show ¬ j + 1 < j + 1 by omega), if_pos (show 1 ≤ j + 1 ∧ j + 1 - 1 < j + 1 by omega), show j + 1 - 1 = j from rfl]
  · rw [if_neg c]
    by_cases c2 : t = j
    · subst c2
      rw [if_pos (rfl : t = t), if_pos (show t < t + 1 by omega), if_neg (show ¬ t < t by omega)]
      by_cases c3 : 1 ≤ t
      · rw [if_pos (show 1 ≤ t ∧ t - 1 < t + 1 by omega), if_pos (show 1 ≤ t ∧ t - 1 < t by omega)]; omega
      · rw [if_neg (show ¬ (1 ≤ t ∧ t - 1 < t + 1) by omega), if_neg (show ¬ (1 ≤ t ∧ t - 1 < t) by omega)]; omega
    · rw [if_neg c2]
      by_cases c3 : t < j
      · rw [if_pos (show t < j + 1 by omega), if_pos c3]
        by_cases c4 : 1 ≤ t
        · rw [if_pos (show 1 ≤ t ∧ t - 1 < j + 1 by omega), if_pos (show 1 ≤ t ∧ t - 1 < j by omega)]
        · rw [if_neg (show ¬ (1 ≤ t ∧ t - 1 < j + 1) by omega), if_neg (show ¬ (1 ≤ t ∧ t - 1 < j) by omega)]
      · rw [if_neg (show ¬ t < j + 1 by omega), if_neg c3, if_neg (show ¬ (1 ≤ t ∧ t - 1 < j + 1) by omega), if_neg (show ¬ (1 ≤ t ∧ t - 1 < j) by omega)]
theorem nxT_at (pp : Nat → Int) (j : Nat) : nxT pp j j = if 1 ≤ j then - pp (j - 1) else 0 := by
  unfold nxT
  rw [if_neg (show ¬ j < j by omega)]
  by_cases c : 1 ≤ j
  · rw [if_pos (show 1 ≤ j ∧ j - 1 < j by omega), if_pos c]; omega
  · rw [if_neg (show ¬ (1 ≤ j ∧ j - 1 < j) by omega), if_neg c]; rfl
theorem nxT_next (pp : Nat → Int) (j : Nat) : nxT pp j (j + 1) = 0 := by
  unfold nxT
  rw [if_neg (show ¬ j + 1 < j by omega), if_neg (show ¬ (1 ≤ j + 1 ∧ j + 1 - 1 < j) by omega)]; rfl
theorem nxT_end {c : Int} {i : Nat} (hi : i ≤ 8) {t : Nat} (ht : t < i + 1 + 1) : nxT (fun j => c * pas i j) (i + 1) t = c * pas (i + 1) t := by
  unfold nxT
  have h0 := pas_hi i (i + 1) hi (by omega) (by omega)
  cases t with
  | zero => simp [pas]
  | succ t =>
    rw [if_pos (show 1 ≤ t + 1 ∧ t + 1 - 1 < i + 1 by omega)]
    show _ = c * (pas i (t + 1) - pas i t)
    rw [Int.mul_sub, show t + 1 - 1 = t from rfl]
    by_cases e : t = i
    · subst e
      rw [if_neg (show ¬ t + 1 < t + 1 by omega), h0]; simp
    · rw [if_pos (show t + 1 < i + 1 by omega)]
/-- what has been added to the sums after j rounds -/
def hhT (f : Nat → Int) (d k : Nat) (pp : Nat → Int) (j t : Nat) : Int := hs f d t k + if k ≤ t ∧ t - k < j then pp (t - k) else 0
theorem hhT_zero (f : Nat → Int) (d k : Nat) (pp : Nat → Int) (t : Nat) : hhT f d k pp 0 t = hs f d t k := by simp [hhT]
theorem hhT_at (f : Nat → Int) (d k : Nat) (pp : Nat → Int) (j : Nat) : hhT f d k pp j (k + j) = hs f d (k + j) k := by
  unfold hhT; rw [if_neg (show ¬ (k ≤ k + j ∧ k + j - k < j) by omega), Int.add_zero]
theorem hhT_step (f : Nat → Int) (d k : Nat) (pp : Nat → Int) (j t : Nat) : hhT f d k pp (j + 1) t = if t = k + j then hs f d (k + j) k + pp j else hhT f d k pp j t := by
  unfold hhT
  by_cases c : t = k + j
  · subst c; rw [if_pos (rfl : k + j = k + j), if_pos (show k ≤ k + j ∧ k + j - k < j + 1 by omega), show k + j - k = j by omega]
  · rw [if_neg c]
    by_cases c2 : k ≤ t ∧ t - k < j
    · rw [if_pos c2, if_pos (show k ≤ t ∧ t - k < j + 1 by omega)]
    · rw [if_neg c2, if_neg (show ¬ (k ≤ t ∧ t - k < j + 1) by omega)]
theorem hhT_end {f : Nat → Int} {d k : Nat} (hk : k ≤ d) {t : Nat} (ht : t < d + 1) : hhT f d k (fun j => f k * pas (d - k) j) (d - k + 1) t = hs f d t (k + 1) := by
  unfold hhT
  show _ = hs f d t k + _
  by_cases c : k ≤ t
  · rw [if_pos (show k ≤ t ∧ t - k < d - k + 1 by omega), if_pos c]
  · rw [if_neg (show ¬ (k ≤ t ∧ t - k < d - k + 1) by omega), if_neg c]

/-- two lists handed back -/
def TwoL (xs ys : List Int) (v : Value) (w : World) : Prop := ∃ v1 v2, v = .tuple #[v1, v2] ∧ Reads w.heap.size w v1 xs ∧ Reads w.heap.size w v2 ys

set_option maxRecDepth 100000 in
set_option maxHeartbeats 20000000 in
theorem c_counted {B : Nat} {W : World} (u : Later B W) (m : Nat) (hm : m ≤ 8) (L : List Nat) (hL : ∀ b, b ∈ L → b < bit m) (hne : L ≠ []) (hlen : L.length ≤ 1048576) (a : Option Addr) (cap : Nat) (h : IntsAt B W a (ints L)) :
    Calls Try.prog 105 #[.int .i64 m, .slice a (ints L).length cap] u.val (RetP B W (TwoL (tabL (mostTo L L.length + 1) (tally (those m (freeB L)) (those m (freeB L)).length)) (tabL (mostTo L L.length + 1) (fun t => hs (tally (those m (freeB L)) (those m (freeB L)).length) (mostTo L L.length) t (mostTo L L.length + 1))))) := by
  have hb := bit_le m hm
  have HSz := Lib.hid (szs_faces hL hne)
  have HF8 : Hid (∀ i, i < (those m (freeB L)).length → (those m (freeB L)).getD i 0 < 256) := Lib.hid (fun i hi => by
    have := (mem_those.1 (getD_memC hi)).1
    omega)
  have KFc := Lib.hid (c_facesOf u m hm L (fun b hb' => by have := hL b hb'; omega) (by omega) a cap h)
  have HFl := those_len256 hm (freeB L)
  have hd8 := mostTo_le L L.length
  clear h hL hne
  generalize those m (freeB L) = F at *
  generalize mostTo L L.length = d at *
  have hilF : (ints F).length = F.length := ints_len F
  generalize (ints L).length = lenL at *
  go_enter Try.func105, Try.ntmps105
  go_upto_region 2 with (first | (go_at_call 104; (with_reducible refine (KFc.out).mono ?_); rintro e _ ⟨_, rfl, ⟨adF, cpF, rfl, hI, _⟩, v1, rfl⟩))
  try rw [hilF]
  have HF : Hid (IntsAt v1.val.heap.size v1.val adF (ints F)) := Lib.hid (hI.to (Later.self _))
  have HV : Hid (∀ y : Later v1.val.heap.size v1.val, ∃ w : Later B W, w.val = y.val) := Lib.hid (fun y => ⟨v1.up y, rfl⟩)
  obtain ⟨y, hy⟩ : ∃ y : Later v1.val.heap.size v1.val, y.val = v1.val := ⟨Later.self _, rfl⟩
  rw [← hy]
  clear hy hI KFc u hlen
  generalize v1.val = V at *
  clear v1
  go_wp2
  go_loopw [4, 7] (fun o i wr => ∃ (k : Nat) (ad : Option Addr) (cp : Nat) (v : Later V.heap.size V), k ≤ F.length ∧ o = .slice ad (tabL (szs F k) (tally F k)).length cp ∧ i = .int .i64 k ∧ wr = v.val ∧ Hid (Own V.heap.size v.val ad cp (tabL (szs F k) (tally F k)))) (fun _ i _ => F.length - (intOf i).toNat)
  case atStart => exact ⟨0, none, 0, y, by omega, rfl, rfl, rfl, Own.nil _ _⟩
  case round =>
    clear y
    obtain ⟨k, ad, cp, v, hk, rfl, rfl, rfl, HO⟩ := hrel
    by_cases hlt : k < F.length
    · obtain ⟨b, off, rfl, hbB, hcell⟩ := HF.out.at (k := k) (by rw [ints_len]; exact hlt)
      have c0 : v.val.cell? ⟨b, off + k, none⟩ = some (.int .i64 ((F.getD k 0 : Nat) : Int)) := by rw [← ints_getD]; exact hcell v k (by rw [ints_len]; exact hlt)
      have h8 := HF8.out k hlt
      have KS := Lib.hid (c_size (Later.self v.val) (F.getD k 0) h8)
      dsimp only [Later.self] at KS
      have HM : Hid (szs F (k + 1) = max (szs F k) (sz (F.getD k 0) + 1)) := Lib.hid rfl
      have HHi : Hid (∀ j, szs F k ≤ j → tally F k j = 0) := Lib.hid (fun j hj => szs_hi F hk hj)
      have HST : Hid (∀ j, tally F (k + 1) j = if j = sz (F.getD k 0) then tally F k (sz (F.getD k 0)) + 1 else tally F k j) := Lib.hid (fun j => by
        rw [tally_step F hlt j]
        by_cases c : j = sz (F.getD k 0)
        · rw [if_pos c, if_pos c, c]
        · rw [if_neg c, if_neg c])
      have hp := tally_le F k (sz (F.getD k 0))
      have hz8 := sz_le (F.getD k 0)
      have hsz := szs_le F k
      clear hcell
      generalize F.getD k 0 = s at *
      generalize sz s = z at *
      generalize hA : tally F k = A at *
      generalize hA' : tally F (k + 1) = A' at *
      generalize hs0 : szs F k = s0 at *
      generalize hs1 : szs F (k + 1) = s1 at *
      have HA' := Lib.hid hA'
      have Hs1 := Lib.hid hs1
      clear hA hA' hs0 hs1
      have HM1 := HM.out
      go_upto_region 6 with (first | (go_at_call 44; (with_reducible refine (KS.out).mono ?_); rintro e _ ⟨rfl, v1, rfl⟩))
      have HO1 := Lib.hid (HO.out.keep v1.below)
      obtain ⟨y, hy⟩ : ∃ y : Later V.heap.size V, y.val = v1.val := ⟨v.up v1, rfl⟩
      rw [← hy] at HO1 ⊢
      clear hy c0 KS HO v1
      go_loopw [4] (fun o wr => ∃ (j : Nat) (ad : Option Addr) (cp : Nat) (v : Later V.heap.size V), s0 ≤ j ∧ j ≤ s1 ∧ o = .slice ad (tabL j A).length cp ∧ wr = v.val ∧ Hid (Own V.heap.size v.val ad cp (tabL j A))) (fun o _ => 10 - lenV o)
      case atStart => exact ⟨s0, ad, cp, y, Nat.le_refl _, by omega, rfl, rfl, HO1⟩
      case round =>
        clear HO1 y
        obtain ⟨j, ad, cp, y, hj0, hj1, rfl, rfl, HO⟩ := hrel
        have hTl : (tabL j A).length = j := tabL_len j A
        by_cases hc : j ≤ z
        · have HN : Hid (tabL (j + 1) A = tabL j A ++ [0]) := Lib.hid (by rw [tabL_snoc, HHi.out j hj0])
          generalize tabL j A = T at *
          have d1 : decide ((T.length : Int) ≤ (z : Int)) = true := decide_eq_true (by omega)
          go_wp2_with (first | (at_builtin; refine wpList_push (B := V.heap.size) (W := V) (w := y.val) y.below y.size rfl _ _ rfl T ad cp (0 : Int) rfl HO.out rfl (by omega) ?_; intro u2 ad2 cp2 hown))
          go_roundw
          case rel => exact ⟨j+1, ad2, cp2, u2, by omega, by omega, by rw [HN.out, List.length_append, hTl]; rfl, rfl, by rw [HN.out]; exact hown⟩
          case measure => simp [lenV]; omega
        · have hje : j = s1 := by omega
          obtain ⟨g, rfl⟩ := own_some HO.out (by intro e; rw [e] at hTl; simp at hTl; omega)
          have c1 := HO.out.cellT (i := z) (by omega)
          have c2 := HO.out.frozenT z
          have hg := HO.out.ltT
          have HN : Hid (Own V.heap.size (y.val.setCell ⟨g, z, none⟩ (.int .i64 (A z + 1))) (some ⟨g, 0, none⟩) cp (tabL s1 A')) := Lib.hid (by rw [← hje]; exact HO.out.setT z (A z + 1) (fun t _ => HST.out t))
          have hl1 : (tabL s1 A').length = j := by rw [tabL_len]; omega
          rw [hTl]
          clear HO hTl
          generalize A z = p at *
          have d1 : decide ((j : Int) ≤ (z : Int)) = false := decide_eq_false (by omega)
          go_wp2
          go_roundw
          case rel => exact ⟨k+1, _, cp, y.set ⟨g, z, none⟩ hg.1 _, by omega, by rw [HA'.out, Hs1.out, hl1], by go_num, rfl, by rw [HA'.out, Hs1.out]; exact HN⟩
          case measure => simp [intOf]; omega
    · have hke : k = F.length := by omega
      subst hke
      rw [HSz.out] at HO ⊢
      have hf : ∀ k, 0 ≤ tally F F.length k ∧ tally F F.length k ≤ 256 := fun k => by have := tally_le F F.length k; omega
      generalize hfe : tally F F.length = f at *
      have HFe := Lib.hid hfe
      clear hfe
      have hTl : (tabL (d + 1) f).length = d + 1 := tabL_len _ _
      rw [hTl]
      have HR : Hid (IntsAt v.val.heap.size v.val ad (tabL (d + 1) f)) := Lib.hid HO.out.reads
      have HRc := Lib.hid HO.out.cap
      have HV1 : Hid (∀ y : Later v.val.heap.size v.val, ∃ w : Later B W, w.val = y.val) := Lib.hid (fun y => HV.out (v.up y))
      clear HO HSz HF8 hTl HF HV hk hlt
      generalize v.val = V2 at *
      clear v
      have hmk := mk_tab1 d (by omega)
      go_upto_region 11 with fail
      have HT0 : Hid (ITab (V2.alloc (.cells (madeCells #[Value.int .i64 0] (d + 1)) 3)) V2.heap.size (d + 1) (fun t => hs f d t 0)) := Lib.hid (ITab.made _ _)
      obtain ⟨v1, hv1⟩ : ∃ w : Later V2.heap.size V2, w.val = V2.alloc (.cells (madeCells #[Value.int .i64 0] (d + 1)) 3) := ⟨(Later.self V2).alloc _, rfl⟩
      rw [← hv1] at HT0 ⊢
      clear hv1 hmk
      generalize hgg : V2.heap.size = g2 at *
      clear hgg
      go_wp2
      go_loopw [10] (fun i wr => ∃ (k : Nat) (v : Later g2 V2), k ≤ d + 1 ∧ i = .int .i64 k ∧ wr = v.val ∧ Hid (ITab v.val g2 (d + 1) (fun t => hs f d t k))) (fun i _ => d + 1 - (intOf i).toNat)
      case atStart => exact ⟨0, v1, by omega, rfl, rfl, HT0⟩
      case round =>
        clear v1 HT0
        obtain ⟨k, v, hk, rfl, rfl, HT⟩ := hrel
        by_cases hlt : k ≤ d
        · have d1 : decide ((k : Int) ≤ (d : Int)) = true := decide_eq_true (by omega)
          obtain ⟨bf, off, rfl, hbf, hcf⟩ := HR.out.at (k := k) (by rw [tabL_len]; omega)
          have c0 : v.val.cell? ⟨bf, off + k, none⟩ = some (.int .i64 (f k)) := by
            have := hcf v k (by rw [tabL_len]; omega)
            rwa [tabL_getD (by omega)] at this
          clear hcf
          go_upto_region 15 with fail
          have HP0 : Hid (ITab (v.val.alloc (.cells #[.int .i64 (f k)] 3)) v.val.heap.size 1 (fun j => f k * pas 0 j)) := Lib.hid ((itab_lit v.val (f k)).congr (fun j hj => by
            have : j = 0 := by omega
            subst this
            simp [pas]))
          have hg3 : g2 < v.val.heap.size := HT.out.lt
          have HV3 : Hid (∀ y : Later v.val.heap.size v.val, ∃ w : Later g2 V2, w.val = y.val) := Lib.hid (fun y => ⟨v.up y, rfl⟩)
          obtain ⟨y, hy⟩ : ∃ y : Later v.val.heap.size v.val, y.val = v.val.alloc (.cells #[.int .i64 (f k)] 3) := ⟨(Later.self v.val).alloc _, rfl⟩
          rw [← hy] at HP0 ⊢
          clear hy c0 d1
          generalize v.val = V3 at *
          clear v
          have HG3 : Hid (V3.heap.size = V3.heap.size) := Lib.hid rfl
          go_wp2
          go_loopw [11, 12] (fun o ix wr => ∃ (i q gp cp : Nat) (y : Later V3.heap.size V3), i ≤ d - k ∧ q = i + 1 ∧ V3.heap.size ≤ gp ∧ o = .slice (some ⟨gp, 0, none⟩) q cp ∧ ix = .int .i64 i ∧ wr = y.val ∧ Hid (ITab y.val gp q (fun j => f k * pas i j))) (fun _ i _ => d - (intOf i).toNat)
          case atStart => exact ⟨0, 1, _, 1, y, by omega, rfl, Nat.le_refl _, rfl, rfl, rfl, HP0⟩
          case round =>
            clear HP0 y
            obtain ⟨i, q, gp, cp, y, hi, hq, hgp, rfl, rfl, rfl, HP⟩ := hrel
            by_cases hid' : i < d - k
            · have d1 : decide ((i : Int) < (d : Int) - (k : Int)) = true := decide_eq_true (by omega)
              have hmk := mk_tab1 q (by omega)
              have HE := Lib.hid (fun (t : Nat) (ht : t < i + 1 + 1) => nxT_end (c := f k) (i := i) (by omega) ht)
              rw [← hq] at HE
              have Hq := Lib.hid hq
              have hq9 : q ≤ 9 := by omega
              clear hq
              have HPb : Hid (∀ j, -17920 ≤ f k * pas i j ∧ f k * pas i j ≤ 17920 ∨ 9 < j) := Lib.hid (fun j => by
                by_cases c : j ≤ 9
                · have h1 := hf k
                  have h2 := pas_bd i j (by omega) c
                  have h3 := mul_bd (A := 256) (Bb := 70) (show -256 ≤ f k by omega) h1.2 h2.1 h2.2
                  omega
                · omega)
              generalize hpp : (fun j => f k * pas i j) = pp at *
              have HPb2 : Hid (∀ j, -17920 ≤ pp j ∧ pp j ≤ 17920 ∨ 9 < j) := Lib.hid (fun j => by rw [← hpp]; exact HPb.out j)
              have HPP : Hid (pp = fun j => f k * pas i j) := Lib.hid hpp.symm
              clear hpp HPb
              go_upto_region 19 with fail
              have HN0 : Hid (ITab (y.val.alloc (.cells (madeCells #[Value.int .i64 0] (q + 1)) 3)) y.val.heap.size (q + 1) (nxT pp 0)) := Lib.hid ((ITab.made _ _).congr (fun t _ => (nxT_zero pp t).symm))
              have hgy : gp < y.val.heap.size := HP.out.lt
              have HV4 : Hid (∀ z : Later y.val.heap.size y.val, ∃ w : Later V3.heap.size V3, w.val = z.val) := Lib.hid (fun z => ⟨y.up z, rfl⟩)
              have hg34 : V3.heap.size ≤ y.val.heap.size := y.size
              obtain ⟨z, hz⟩ : ∃ z : Later y.val.heap.size y.val, z.val = y.val.alloc (.cells (madeCells #[Value.int .i64 0] (q + 1)) 3) := ⟨(Later.self y.val).alloc _, rfl⟩
              rw [← hz] at HN0 ⊢
              clear hz hmk d1
              generalize y.val = V4 at *
              clear y
              generalize hg4 : V4.heap.size = g4 at *
              clear hg4
              go_wp2
              go_loopw [14] (fun ix wr => ∃ (j : Nat) (z : Later g4 V4), j ≤ q ∧ ix = .int .i64 j ∧ wr = z.val ∧ Hid (ITab z.val g4 (q + 1) (nxT pp j))) (fun i _ => q - (intOf i).toNat)
              case atStart => exact ⟨0, z, by omega, rfl, rfl, HN0⟩
              case round =>
                clear HN0 z
                obtain ⟨j, z, hj, rfl, rfl, HN⟩ := hrel
                by_cases hjq : j < q
                · have HNw : Hid (∀ w : Later z.val.heap.size z.val, ITab w.val g4 (q + 1) (nxT pp j)) := Lib.hid (fun w => HN.out.keep w.below)
                  have HPw : Hid (∀ w : Later g4 V4, ITab w.val gp q pp) := Lib.hid (fun w => HP.out.keep_at w.below hgy)
                  have c1 : ∀ w : Later z.val.heap.size z.val, w.val.cell? ⟨g4, j, none⟩ = some (.int .i64 (nxT pp j j)) := fun w => (HNw.out w).cell (by omega)
                  have c2 : ∀ w : Later z.val.heap.size z.val, w.val.cell? ⟨gp, j, none⟩ = some (.int .i64 (pp j)) := fun w => (HPw.out (z.up w)).cell hjq
                  have c3 : ∀ w : Later z.val.heap.size z.val, w.val.frozen? ⟨g4, j, none⟩ = false := fun w => (HNw.out w).frozen j
                  have hjq1 : (j : Int) < (q : Int) + 1 := by omega
                  have hb1 := HPb2.out j
                  have hb2 : -17920 ≤ nxT pp j j ∧ nxT pp j j ≤ 17920 := by
                    rw [nxT_at]
                    by_cases c : 1 ≤ j
                    · rw [if_pos c]; have := HPb2.out (j - 1); omega
                    · rw [if_neg c]; omega
                  have w1 := IntWalk.i64_in (nxT pp j j + pp j) (by omega)
                  have w2 := IntWalk.i64_in (0 - pp j) (by omega)
                  have HN1 : Hid (∀ w : World, ITab w g4 (q + 1) (nxT pp j) → ITab (w.setCell ⟨g4, j, none⟩ (.int .i64 (nxT pp j j + pp j))) g4 (q + 1) (fun t => if t = j then nxT pp j j + pp j else nxT pp j t)) := Lib.hid (fun w h => h.set j _ (fun t _ => rfl))
                  have HN2 : Hid (∀ w : World, ITab w g4 (q + 1) (fun t => if t = j then nxT pp j j + pp j else nxT pp j t) → ITab (w.setCell ⟨g4, j + 1, none⟩ (.int .i64 (0 - pp j))) g4 (q + 1) (nxT pp (j + 1))) := Lib.hid (fun w h => h.set (j + 1) _ (fun t _ => nxT_step pp j t))
                  have HC1 : Hid (∀ w : World, ITab w g4 (q + 1) (fun t => if t = j then nxT pp j j + pp j else nxT pp j t) → w.cell? ⟨g4, j + 1, none⟩ = some (.int .i64 0)) := Lib.hid (fun w h => by
                    have := h.cell (i := j + 1) (by omega)
                    rwa [if_neg (show ¬ j + 1 = j by omega), nxT_next] at this)
                  clear HN HE HP HT HR hf
                  generalize nxT pp j j = x at *
                  generalize hpj : pp j = pj at *
                  have HPj := Lib.hid hpj
                  clear hpj
                  go_wp2
                  refine wp_region_later_tail (Later.self z.val) 9 (by kernel_rfl) (by kernel_rfl) (fun v2 => ?_)
                  simp only [List.take_succ_cons, List.take_zero, List.drop_succ_cons, List.drop_zero]
                  repeat still_step
                  refine wpStill_nil ?_
                  go_wp2
                  have HT1 := Lib.hid (HN1.out _ (HNw.out v2))
                  obtain ⟨z3, hz3⟩ : ∃ z3 : Later g4 V4, z3.val = v2.val.setCell ⟨g4, j, none⟩ (.int .i64 (x + pj)) := ⟨(z.up v2).set ⟨g4, j, none⟩ (Nat.le_refl _) _, rfl⟩
                  rw [← hz3] at HT1 ⊢
                  clear hz3 c1 c2 c3
                  have HT1w : Hid (∀ w : Later z3.val.heap.size z3.val, ITab w.val g4 (q + 1) (fun t => if t = j then x + pj else nxT pp j t)) := Lib.hid (fun w => HT1.out.keep w.below)
                  obtain ⟨j1, hj1⟩ : ∃ j1, j1 = j + 1 := ⟨_, rfl⟩
                  have c1 : ∀ w : Later z3.val.heap.size z3.val, w.val.cell? ⟨g4, j1, none⟩ = some (.int .i64 0) := fun w => by rw [hj1]; exact HC1.out _ (HT1w.out w)
                  have c2 : ∀ w : Later z3.val.heap.size z3.val, w.val.cell? ⟨gp, j, none⟩ = some (.int .i64 pj) := fun w => by
                    have := (HPw.out (z3.up w)).cell hjq
                    rwa [HPj.out] at this
                  have c3 : ∀ w : Later z3.val.heap.size z3.val, w.val.frozen? ⟨g4, j1, none⟩ = false := fun w => by rw [hj1]; exact (HT1w.out w).frozen (j + 1)
                  have w5 : IntKind.i64.wrap ((j : Int) + 1) = (j1 : Int) := by rw [IntWalk.i64_in _ (by omega)]; omega
                  have hj1q : (j1 : Int) < (q : Int) + 1 := by omega
                  have Hj1 := Lib.hid hj1
                  clear hj1
                  refine wp_region_later_tail (Later.self z3.val) 10 (by kernel_rfl) (by kernel_rfl) (fun v4 => ?_)
                  simp only [List.take_succ_cons, List.take_zero, List.drop_succ_cons, List.drop_zero]
                  repeat still_step
                  refine wpStill_nil ?_
                  clear w5
                  go_wp2
                  go_roundw
                  case rel => exact ⟨j+1, (z3.up v4).set ⟨g4, j1, none⟩ (Nat.le_refl _) _, by omega, by go_num, rfl, Lib.hid (by
                    have := HN2.out _ (HT1w.out v4)
                    rw [← Hj1.out, Int.zero_sub] at this
                    rw [← Hj1.out]
                    exact this)⟩
                  case measure => simp [intOf]; omega
                · have hje : j = q := by omega
                  subst hje
                  have HPn : Hid (ITab z.val g4 (j + 1) (fun t => f k * pas (i + 1) t)) := Lib.hid (HN.out.congr (fun t ht => by
                    rw [← Hq.out]; exact HE.out t ht))
                  have Hj := Lib.hid (show j + 1 = i + 1 + 1 by have := Hq.out; omega)
                  have hq2 : i + 1 ≤ d - k := by omega
                  clear HN HE HP HT HR hf
                  go_wp2
                  obtain ⟨y, hy⟩ := HV4.out z
                  rw [← hy] at HPn ⊢
                  go_roundw
                  case rel => exact ⟨i+1, j+1, g4, _, y, hq2, Hj.out, hg34, rfl, by go_num, rfl, HPn⟩
                  case measure => simp [intOf]; omega
            · have hie : i = d - k := by omega
              have Hq := Lib.hid hq
              have hqd : q = d - k + 1 := by omega
              have HE := Lib.hid (fun (t : Nat) (ht : t < d + 1) => hhT_end (f := f) hlt ht)
              rw [← hqd, ← hie] at HE
              have Hqd := Lib.hid hqd
              have hqk : q + k ≤ d + 1 := by omega
              have d1 : decide ((i : Int) < (d : Int) - (k : Int)) = false := decide_eq_false (by omega)
              have HPb : Hid (∀ j, -17920 ≤ f k * pas i j ∧ f k * pas i j ≤ 17920 ∨ 9 < j) := Lib.hid (fun j => by
                by_cases c : j ≤ 9
                · have h1 := hf k
                  have h2 := pas_bd i j (by omega) c
                  have h3 := mul_bd (A := 256) (Bb := 70) (show -256 ≤ f k by omega) h1.2 h2.1 h2.2
                  omega
                · omega)
              have HHb : Hid (∀ t, t ≤ 9 → -161280 ≤ hs f d t k ∧ hs f d t k ≤ 161280) := Lib.hid (fun t ht => by
                have := hs_bd (f := f) (d := d) (t := t) hd8 ht hf k
                omega)
              have HT0 : Hid (ITab y.val g2 (d + 1) (hhT f d k (fun j => f k * pas i j) 0)) := Lib.hid ((HT.out.keep_at y.below hg3).congr (fun t _ => (hhT_zero f d k _ t).symm))
              generalize hpp : (fun j => f k * pas i j) = pp at *
              have HPb2 : Hid (∀ j, -17920 ≤ pp j ∧ pp j ≤ 17920 ∨ 9 < j) := Lib.hid (fun j => by rw [← hpp]; exact HPb.out j)
              clear hpp HPb
              obtain ⟨z, hz⟩ := HV3.out y
              rw [← hz] at HP HT0 ⊢
              have hne : gp ≠ g2 := by omega
              clear hz hid' hie hq hqd HT
              go_wp2
              clear d1
              go_loopw [15] (fun ix wr => ∃ (j : Nat) (z : Later g2 V2), j ≤ q ∧ ix = .int .i64 j ∧ wr = z.val ∧ Hid (ITab z.val g2 (d + 1) (hhT f d k pp j)) ∧ Hid (ITab z.val gp q pp)) (fun i _ => q - (intOf i).toNat)
              case atStart => exact ⟨0, z, by omega, rfl, rfl, HT0, HP⟩
              case round =>
                clear HT0 HP z y
                obtain ⟨j, z, hj, rfl, rfl, HT, HP⟩ := hrel
                by_cases hjq : j < q
                · have HTw : Hid (∀ w : Later z.val.heap.size z.val, ITab w.val g2 (d + 1) (hhT f d k pp j)) := Lib.hid (fun w => HT.out.keep w.below)
                  have HPw : Hid (∀ w : Later z.val.heap.size z.val, ITab w.val gp q pp) := Lib.hid (fun w => HP.out.keep w.below)
                  have hkj : k + j < d + 1 := by omega
                  have hb2 := HHb.out (k + j) (by omega)
                  obtain ⟨kj, hkj1⟩ : ∃ kj, kj = k + j := ⟨_, rfl⟩
                  have c1 : ∀ w : Later z.val.heap.size z.val, w.val.cell? ⟨g2, kj, none⟩ = some (.int .i64 (hs f d (k + j) k)) := fun w => by
                    have := (HTw.out w).cell (i := k + j) (by omega)
                    rw [hhT_at] at this
                    rw [hkj1]; exact this
                  have c2 : ∀ w : Later z.val.heap.size z.val, w.val.cell? ⟨gp, j, none⟩ = some (.int .i64 (pp j)) := fun w => (HPw.out w).cell hjq
                  have c3 : ∀ w : Later z.val.heap.size z.val, w.val.frozen? ⟨g2, kj, none⟩ = false := fun w => (HTw.out w).frozen _
                  have hb1 := HPb2.out j
                  have hkjd : (kj : Int) < (d : Int) + 1 := by omega
                  have w0 : IntKind.i64.wrap ((k : Int) + (j : Int)) = (kj : Int) := by rw [IntWalk.i64_in _ (by omega)]; omega
                  have w1 := IntWalk.i64_in (hs f d (k + j) k + pp j) (by omega)
                  have HN1 : Hid (∀ w : World, ITab w g2 (d + 1) (hhT f d k pp j) → ITab (w.setCell ⟨g2, kj, none⟩ (.int .i64 (hs f d (k + j) k + pp j))) g2 (d + 1) (hhT f d k pp (j + 1))) := Lib.hid (fun w h => by rw [hkj1]; exact h.set (k + j) _ (fun t _ => hhT_step f d k pp j t))
                  clear HT HP HE HHb HPb2 hkj1 hkj
                  generalize hs f d (k + j) k = x at *
                  generalize pp j = pj at *
                  go_wp2
                  refine wp_region_later_tail (Later.self z.val) 11 (by kernel_rfl) (by kernel_rfl) (fun v2 => ?_)
                  simp only [List.take_succ_cons, List.take_zero, List.drop_succ_cons, List.drop_zero]
                  repeat still_step
                  refine wpStill_nil ?_
                  clear w0
                  go_wp2
                  go_roundw
                  case rel => exact ⟨j+1, (z.up v2).set ⟨g2, kj, none⟩ (Nat.le_refl _) _, by omega, by go_num, rfl, Lib.hid (HN1.out _ (HTw.out v2)), Lib.hid ((HPw.out v2).other hne _)⟩
                  case measure => simp [intOf]; omega
                · have hje : j = q := by omega
                  subst hje
                  have HTn : Hid (ITab z.val g2 (d + 1) (fun t => hs f d t (k + 1))) := Lib.hid (HT.out.congr (fun t ht => HE.out t ht))
                  clear HT HP HE HHb HPb2
                  go_wp2
                  go_roundw
                  case rel => exact ⟨k+1, z, by omega, by go_num, rfl, HTn⟩
                  case measure => simp [intOf]; omega
        · have hke : k = d + 1 := by omega
          subst hke
          have d1 : decide (((d + 1 : Nat) : Int) ≤ (d : Int)) = false := decide_eq_false (by omega)
          go_wp2
          go_ret2
          refine RetP.of (HV1.out v) ⟨_, _, rfl, ?_, ?_⟩
          · rw [HFe.out]
            exact ⟨ad, cp, by rw [tabL_len]; rfl, (HR.out.later v.below).mono v.size, HRc.out⟩
          · rw [HFe.out]; exact HT.out.reads

end Go.Proofs.Ytjpcelldbhdneaa
