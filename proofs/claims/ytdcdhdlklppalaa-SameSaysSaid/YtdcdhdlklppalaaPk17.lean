
/-
  rotaref.habits.
  axioms.ranks, axioms.Ranks.
-/
import Derived.Test.YtdcdhdlklppalaaPk13
import Derived.Test.YtdcdhdlklppalaaPk16
import Derived.Test.YtdcdhdlklppalaaPk07
import Derived.Test.YtdcdhdlklppalaaPk10
import Derived.Test.YtdcdhdlklppalaaPk04
import Derived.Deep.CutRange
import Derived.Test.YtdcdhdlklppalaaPk09
namespace Go.Proofs.Ytdcdhdlklppalaa
open Go.RowKit
set_option linter.unusedVariables false

/-- the habits by the first k of a list of circuits -/
def habK (C : List Nat) (i t k : Nat) : Int := isum (fun j => if (C.getD j 0).testBit i = true ∧ sz (C.getD j 0) = t then 1 else 0) k
theorem habK_all {n : Nat} (hn : n ≤ 8) {L : List Nat} (hne : L ≠ []) (i t : Nat) : habK (those n (circB n L)) i t (those n (circB n L)).length = hab n L i t := by
  unfold habK hab
  rw [those_sum n (circB n L) (fun x => if x.testBit i = true ∧ sz x = t then (1 : Int) else 0)]
  refine isum_congr (fun x hx => ?_)
  have e : circP L x = true ↔ circB n L x = true := by
    have h1 := circ_same hn hne
    have h2 : x ∈ those n (circP L) ↔ x ∈ those n (circB n L) := by rw [h1]
    rw [mem_those, mem_those] at h2
    exact ⟨fun h => (h2.1 ⟨hx, h⟩).2, fun h => (h2.2 ⟨hx, h⟩).2⟩
  by_cases c : circB n L x = true
  · rw [if_pos c]
    by_cases d : x.testBit i = true ∧ sz x = t
    · rw [if_pos d, if_pos ⟨e.2 c, d⟩]
    · rw [if_neg d, if_neg (fun h => d h.2)]
  · rw [if_neg c, if_neg (fun h => c (e.1 h.1))]
theorem habK_bd (C : List Nat) (i t k : Nat) : 0 ≤ habK C i t k ∧ habK C i t k ≤ k := by
  induction k with
  | zero => exact ⟨Int.le_refl _, Int.le_refl _⟩
  | succ k ih =>
    unfold habK at ih ⊢
    simp only [isum]
    split <;> omega
theorem own_of_tabS {B : Nat} {w : World} {g n : Nat} {A : Nat → Int} (h : ITab w g n A) (hB : B ≤ g) (hn : n ≤ 1048576) : Own B w (some ⟨g, 0, none⟩) n (tabL n A) := by
  obtain ⟨c, hh, hc, hf⟩ := h
  show w.ownsRow B 3 1 (.slice (some ⟨g, 0, none⟩) (tabL n A).length n) (tabL n A).length _
  rw [tabL_len]
  refine ⟨by simp [tabL], .inr ⟨g, n, c, rfl, hB, hh, Nat.le_refl _, by unfold maxLen; omega, by omega, ?_⟩⟩
  apply List.ext_getElem
  · simp [tabL, hc]
  · intro k h1 h2
    simp [tabL] at h2
    have := hf k h2
    simp [tabL] at this ⊢
    rw [Array.getElem?_eq_getElem (by omega)] at this
    simpa using this

set_option maxRecDepth 100000 in
set_option maxHeartbeats 16000000 in
theorem c_habits {B : Nat} {W : World} (u : Later B W) (n : Nat) (hn : n ≤ 8) (L : List Nat) (hne : L ≠ []) (h256 : ∀ b, b ∈ L → b < 256) (hlen : L.length ≤ 4611686018427387904) (a : Option Addr) (cap : Nat) (h : IntsAt B W a (ints L)) :
    Calls Try.prog 47 #[.agg #[.int .i64 n, .slice a (ints L).length cap]] u.val (RetP B W (fun v w => ∃ ad gc hd r cp, v = .slice ad n gc ∧ Mtx B w ad gc n 10 hd r cp (hab n L))) := by
  have hbn := bit_le n hn
  have T0 : Hid (Two (u.val.alloc (.cells #[.int .i64 (n : Int), .slice a (ints L).length cap] 24)) u.val.heap.size 24 (.int .i64 (n : Int)) (.slice a (ints L).length cap)) := Lib.hid (Two.new _ _ _ _)
  have hrr : u.val.heap.size < (u.val.alloc (.cells #[.int .i64 (n : Int), .slice a (ints L).length cap] 24)).heap.size := by simp
  have hI : IntsAt (u.val.alloc (.cells #[.int .i64 (n : Int), .slice a (ints L).length cap] 24)).heap.size (u.val.alloc (.cells #[.int .i64 (n : Int), .slice a (ints L).length cap] 24)) a (ints L) := h.to (u.alloc _)
  have HV : Hid (∀ v : Later (u.val.alloc (.cells #[.int .i64 (n : Int), .slice a (ints L).length cap] 24)).heap.size (u.val.alloc (.cells #[.int .i64 (n : Int), .slice a (ints L).length cap] 24)), ∃ w : Later B W, w.val = v.val) := Lib.hid (fun v => ⟨(u.alloc _).up v, rfl⟩)
  have q0 : ∀ w : Later (u.val.alloc (.cells #[.int .i64 (n : Int), .slice a (ints L).length cap] 24)).heap.size (u.val.alloc (.cells #[.int .i64 (n : Int), .slice a (ints L).length cap] 24)), w.val.cell? ⟨u.val.heap.size, 0, none⟩ = some (.int .i64 (n : Int)) := fun w => (T0.out.keep w.below).c0
  have q1 : ∀ w : Later (u.val.alloc (.cells #[.int .i64 (n : Int), .slice a (ints L).length cap] 24)).heap.size (u.val.alloc (.cells #[.int .i64 (n : Int), .slice a (ints L).length cap] 24)), w.val.cell? ⟨u.val.heap.size, 1, none⟩ = some (.slice a (ints L).length cap) := fun w => (T0.out.keep w.below).c1
  have p0 : (u.val.alloc (.cells #[.int .i64 (n : Int), .slice a (ints L).length cap] 24)).cell? ⟨u.val.heap.size, 0, none⟩ = some (.int .i64 (n : Int)) := T0.out.c0
  have p1 : (u.val.alloc (.cells #[.int .i64 (n : Int), .slice a (ints L).length cap] 24)).cell? ⟨u.val.heap.size, 1, none⟩ = some (.slice a (ints L).length cap) := T0.out.c1
  have KC : Hid (Calls Try.prog 60 #[.agg #[.int .i64 n, .slice a (ints L).length cap]] (u.val.alloc (.cells #[.int .i64 (n : Int), .slice a (ints L).length cap] 24)) (RetInts (u.val.alloc (.cells #[.int .i64 (n : Int), .slice a (ints L).length cap] 24)).heap.size (u.val.alloc (.cells #[.int .i64 (n : Int), .slice a (ints L).length cap] 24)) (ints (those n (circB n L))))) := Lib.hid (c_circuits (Later.self (u.val.alloc (.cells #[.int .i64 (n : Int), .slice a (ints L).length cap] 24))) n hn L h256 hlen a cap hI)
  have HBM : Hid (B ≤ (u.val.alloc (.cells #[.int .i64 (n : Int), .slice a (ints L).length cap] 24)).heap.size) := Lib.hid (by have := u.size; simp; omega)
  have HAll : Hid (∀ i t, habK (those n (circB n L)) i t (those n (circB n L)).length = hab n L i t) := Lib.hid (fun i t => habK_all hn hne i t)
  have HC8 : Hid (∀ j, j < (those n (circB n L)).length → (those n (circB n L)).getD j 0 < 256) := Lib.hid (fun j hj => by
    have hm : (those n (circB n L)).getD j 0 ∈ those n (circB n L) := by simp [hj]
    have := (mem_those.1 hm).1
    omega)
  have HCl : (those n (circB n L)).length ≤ 256 := by
    have h1 := thoseTo_len (circB n L) (bit n)
    exact Nat.le_trans h1 hbn.2
  clear h hI h256 hne
  generalize hab n L = H at *
  generalize those n (circB n L) = C at *
  have hmk : ∀ w : World, (Instr.makeSlice 22 (.int .i64 10) (.int .i64 10)).run Try.prog w = .ok (.slice (some ⟨w.heap.size, 0, none⟩) 10 10) (w.alloc (.cells (madeCells #[.int .i64 0] 10) 3)) := fun w => mk_tab 10 (by omega) w
  go_enter Try.func47, Try.ntmps47
  go_upto_region 3 with (first | (go_at_call 60; (with_reducible refine (KC.out).mono ?_); rintro e _ ⟨_, rfl, ⟨adc, cpc, rfl, hIc, _⟩, v1, rfl⟩) | fail)
  have hil : (ints C).length = C.length := ints_len C
  try rw [hil]
  have HIc := Lib.hid hIc
  have HVB : Hid (∀ y : Later v1.val.heap.size v1.val, ∃ w : Later B W, w.val = y.val) := Lib.hid (fun y => HV.out (v1.up y))
  have r0 : ∀ y : Later v1.val.heap.size v1.val, y.val.cell? ⟨u.val.heap.size, 0, none⟩ = some (.int .i64 n) := fun y => q0 (v1.up y)
  have HBv : Hid (B ≤ v1.val.heap.size) := Lib.hid (by have := v1.size; have := HBM.out; omega)
  clear KC hIc q0 q1 p0 p1 T0 HV HBM hrr
  generalize u.val.heap.size = gb at *
  obtain ⟨y, hy⟩ : ∃ y : Later v1.val.heap.size v1.val, y.val = v1.val := ⟨Later.self _, rfl⟩
  rw [← hy]
  clear hy
  generalize v1.val = V at *
  clear v1 u
  have Hil := Lib.hid hil
  clear hil
  go_wp2
  go_loopw [4, 5] (fun ov iv wr => ∃ (i : Nat) (v : Later V.heap.size V) (ad : Option Addr) (gc : Nat) (hd : Nat → Option Addr) (r cp : Nat → Nat), i ≤ n ∧ iv = .int .i64 i ∧ ov = .slice ad i gc ∧ wr = v.val ∧ Hid (Mtx V.heap.size v.val ad gc i 10 hd r cp H)) (fun _ iv _ => n - (intOf iv).toNat)
  case atStart => exact ⟨0, y, none, 0, fun _ => none, fun _ => 0, fun _ => 0, by omega, rfl, rfl, rfl, Lib.hid (Mtx.start _ _ _ _ _ _ _)⟩
  case round =>
    clear y
    obtain ⟨i, v, ad, gc, hd, r, cp, hi, rfl, rfl, rfl, HM⟩ := hrel
    have c0 := r0 v
    by_cases hlt : i < n
    · obtain ⟨gr, hgr⟩ : ∃ gr, gr = v.val.heap.size := ⟨_, rfl⟩
      have hVg : V.heap.size ≤ gr := by have := v.size; omega
      go_upto_region 7 with fail
      have HT0 : Hid (ITab (v.val.alloc (.cells (madeCells #[.int .i64 0] 10) 3)) gr 10 (fun t => habK C i t 0)) := Lib.hid (by
        rw [hgr]
        exact (ITab.made v.val 10).congr (fun j _ => rfl))
      have HMlt : Hid ((∀ k, k < i → r k < gr) ∧ ∀ g, ad = some ⟨g, 0, none⟩ → g < gr) := Lib.hid ⟨fun k hk => by rw [hgr]; exact (HM.out.rlt (by omega) hk).2, fun g hg => by
        rw [hgr]
        rcases HM.out.form with ⟨e1, _⟩ | ⟨g', e1, _, e3⟩
        · rw [hg] at e1; cases e1
        · rw [hg] at e1; cases e1; exact e3⟩
      have HVL : Hid (∀ w : World, Below gr v.val w → gr ≤ w.heap.size → ∃ x : Later V.heap.size V, x.val = w) := Lib.hid (fun w hb hs => ⟨⟨w, v.below.trans (hb.mono hVg), by omega⟩, rfl⟩)
      have HMk : Hid (∀ w : World, Below gr v.val w → Mtx V.heap.size w ad gc i 10 hd r cp H) := Lib.hid (fun w hb => HM.out.keep (by rw [← hgr]; exact hb))
      obtain ⟨X, hX⟩ : ∃ X, X = v.val := ⟨_, rfl⟩
      obtain ⟨z, hz⟩ : ∃ z : Later gr X, z.val = v.val.alloc (.cells (madeCells #[.int .i64 0] 10) 3) := ⟨⟨_, (by rw [hX]; exact (Below.refl _ _).alloc (by omega) _), by simp; omega⟩, rfl⟩
      rw [← hz] at HT0 ⊢
      rw [← hgr]
      have Hgs : Hid (gr + 1 ≤ z.val.heap.size) := Lib.hid (by rw [hz, hgr]; simp)
      rw [← hX] at HMk HVL
      clear hz hX hgr HM c0 v
      go_wp2
      go_loopw [7] (fun kv wr => ∃ (k : Nat) (v : Later gr X), k ≤ C.length ∧ kv = .int .i64 k ∧ wr = v.val ∧ Hid (gr + 1 ≤ v.val.heap.size) ∧ Hid (ITab v.val gr 10 (fun t => habK C i t k))) (fun kv _ => C.length - (intOf kv).toNat)
      case atStart => exact ⟨0, z, by omega, rfl, rfl, Hgs, HT0⟩
      case round =>
        clear Hgs HT0 z
        obtain ⟨k, v, hk, rfl, rfl, Hgs, HT⟩ := hrel
        by_cases hlk : k < C.length
        · obtain ⟨be, oe, rfl, hbe, hce⟩ := HIc.out.at (k := k) (by rw [Hil.out]; exact hlk)
          obtain ⟨x, hx⟩ := HVL.out v.val v.below v.size
          have hx8 := HC8.out k hlk
          have cc : ∀ y : Later v.val.heap.size v.val, y.val.cell? ⟨be, oe + k, none⟩ = some (.int .i64 ((C.getD k 0 : Nat) : Int)) := fun y => by
            obtain ⟨x2, hx2⟩ := HVL.out y.val (v.below.trans (y.below.mono v.size)) (by have := v.size; have := y.size; omega)
            rw [← hx2, ← ints_getD]
            exact hce x2 k (by rw [Hil.out]; exact hlk)
          have c1 := cc (Later.self v.val)
          have hbd := fun t => habK_bd C i t k
          have HSt : Hid (∀ t, habK C i t (k + 1) = habK C i t k + (if (C.getD k 0).testBit i = true ∧ sz (C.getD k 0) = t then 1 else 0)) := Lib.hid (fun t => rfl)
          have hz8 := sz_le (C.getD k 0)
          have K1 : Hid (Calls Try.prog 59 #[.int .i64 (C.getD k 0 : Nat), .int .i64 i] v.val (Ret v.val.heap.size v.val (.bool ((C.getD k 0).testBit i)))) := Lib.hid (c_in (Later.self v.val) _ i (by omega) (by omega))
          have K2 : Hid (∀ y : Later v.val.heap.size v.val, Calls Try.prog 20 #[.int .i64 (C.getD k 0 : Nat)] y.val (Ret v.val.heap.size v.val (.int .i64 (sz (C.getD k 0))))) := Lib.hid (fun y => c_size y _ hx8)
          clear hce hx x
          generalize C.getD k 0 = ck at *
          generalize hsz : sz ck = sk at *
          clear hsz
          dsimp only [Later.self] at c1
          cases hb : ck.testBit i
          · rw [hb] at K1
            have HTn : Hid (∀ t, habK C i t (k + 1) = habK C i t k) := Lib.hid (fun t => by rw [HSt.out, if_neg (fun h => by rw [hb] at h; cases h.1)]; omega)
            clear HSt hb
            go_wp2_with (first | (go_at_call 59; (with_reducible refine (K1.out).mono ?_); rintro e _ ⟨rfl, y1, rfl⟩) | fail)
            go_roundw
            case rel => exact ⟨k + 1, v.up y1, by omega, by go_num, rfl, Lib.hid (by have := y1.size; have := Hgs.out; show gr + 1 ≤ y1.val.heap.size; omega), Lib.hid ((HT.out.keep y1.below).congr (fun t _ => (HTn.out t).symm))⟩
            case measure => simp [intOf]; omega
          · rw [hb] at K1
            have HTn : Hid (∀ t, habK C i t (k + 1) = if t = sk then habK C i sk k + 1 else habK C i t k) := Lib.hid (fun t => by
              rw [HSt.out]
              by_cases e : t = sk
              · subst e; rw [if_pos ⟨hb, rfl⟩, if_pos rfl]
              · rw [if_neg (fun h => e h.2.symm), if_neg e]; omega)
            clear HSt hb
            have t1 : ∀ y : Later v.val.heap.size v.val, y.val.cell? ⟨gr, sk, none⟩ = some (.int .i64 (habK C i sk k)) := fun y => (HT.out.keep y.below).cell (by omega)
            have t2 : ∀ y : Later v.val.heap.size v.val, y.val.frozen? ⟨gr, sk, none⟩ = false := fun y => (HT.out.keep y.below).frozen sk
            have hb1 := hbd sk
            have HTk : Hid (∀ y : Later v.val.heap.size v.val, ITab (y.val.setCell ⟨gr, sk, none⟩ (.int .i64 (habK C i sk k + 1))) gr 10 (fun t => habK C i t (k + 1))) := Lib.hid (fun y => (HT.out.keep y.below).set sk _ (fun j _ => HTn.out j))
            have w1 := IntWalk.i64_in (habK C i sk k + 1) (by omega)
            generalize habK C i sk k = hv at *
            go_upto_region 11 with (first | (go_at_call 59; (with_reducible refine (K1.out).mono ?_); rintro e _ ⟨rfl, y1, rfl⟩) | fail)
            have c2 := cc y1
            go_wp2_with (first | (go_at_call 20; (with_reducible refine (K2.out y1).mono ?_); rintro e _ ⟨rfl, y2, rfl⟩; have t1y := t1 y2; have t2y := t2 y2) | fail)
            go_roundw
            case rel => exact ⟨k + 1, (v.up y2).set ⟨gr, sk, none⟩ (Nat.le_refl _) _, by omega, by go_num, rfl, Lib.hid (by have := y2.size; have := Hgs.out; show gr + 1 ≤ (y2.val.setCell _ _).heap.size; simp; omega), HTk.out y2⟩
            case measure => simp [intOf]; omega
        · have hke : k = C.length := by omega
          subst hke
          have hgr2 := Hgs.out
          have HMv : Hid (Mtx V.heap.size v.val ad gc i 10 hd r cp H) := Lib.hid (HMk.out v.val v.below)
          have HRO : Hid (RowO V.heap.size v.val 10 (some ⟨gr, 0, none⟩) gr 10 (H i)) := Lib.hid ⟨fun _ => rfl, fun _ => own_of_tabS (HT.out.congr (fun t _ => HAll.out i t)) hVg (by omega), fun h => by cases h⟩
          have hRN : 0 < 10 → (∀ j, j < i → r j ≠ gr) ∧ ∀ g, ad = some ⟨g, 0, none⟩ → gr ≠ g := fun _ => ⟨fun j hj e => by have := HMlt.out.1 j hj; omega, fun g hg e => by have := HMlt.out.2 g hg; omega⟩
          have hBv : V.heap.size ≤ v.val.heap.size := by omega
          have hk1 : i + 1 ≤ 4294967296 := by omega
          go_wp2_with (first | (at_builtin; refine wpList_pushM (B := V.heap.size) (w := v.val) HMv.out HRO.out hRN hBv (by rfl) _ _ (by rfl) (by rfl) (by rfl) hk1 ?_; intro pp) | fail)
          obtain ⟨x, hx⟩ : ∃ x : Later V.heap.size V, x.val = pp.val := by
            obtain ⟨x0, hx0⟩ := HVL.out v.val v.below v.size
            exact ⟨x0.to pp.val (by rw [hx0]; exact pp.below), rfl⟩
          have HMp : Hid (Mtx V.heap.size x.val (some ⟨pp.g, 0, none⟩) pp.gc' (i + 1) 10 (fun k => if k = i then some ⟨gr, 0, none⟩ else hd k) (fun k => if k = i then gr else r k) (fun k => if k = i then 10 else cp k) H) := Lib.hid (by
            rw [hx]
            refine pp.out.congr (fun j t hj ht => ?_)
            by_cases e : j = i
            · subst e; rw [if_pos rfl]
            · rw [if_neg e])
          go_roundw
          case rel => exact ⟨i + 1, x, _, _, _, _, _, by omega, by go_num, by first | rfl | trivial, hx.symm, HMp⟩
          case measure => simp [intOf]; omega
    · have hie : i = n := by omega
      subst hie
      go_wp2
      go_ret
      exact RetP.of (HVB.out v) ⟨ad, gc, hd, r, cp, rfl, HM.out.mono HBv.out⟩
end Go.Proofs.Ytdcdhdlklppalaa

namespace Go.Proofs.Ytdcdhdlklppalaa
open Go.RowKit
set_option linter.unusedVariables false

set_option maxRecDepth 100000 in
set_option maxHeartbeats 8000000 in
theorem c_axRanks0B {B : Nat} {W : World} (u : Later B W) (m : Nat) (hm : m ≤ 8) (l : List Int) (a : Option Addr) (cap : Nat) (h : IntsAt B W a l) (hlen : l.length ≤ 4611686018427387904) (hf : isFam (m : Int) l) :
    Calls Try.prog 88 #[.agg #[.int .i64 m, .slice a l.length cap]] u.val (RetP B W (fun v w => ∃ g c, v = .slice (some ⟨g, 0, none⟩) (bit m) c ∧ ITab w g (bit m) (fun j => (rk (toN l) j : Int)) ∧ B ≤ g)) := by
  have hb := bit_le m hm
  have hbc := bit_cast m
  have hmk := mk_tab (bit m) (by omega)
  have T0 : Hid (Two (u.val.alloc (.cells #[.int .i64 m, .slice a l.length cap] 24)) u.val.heap.size 24 (.int .i64 m) (.slice a l.length cap)) := Lib.hid (Two.new _ _ _ _)
  have HI : Hid (IntsAt (u.val.alloc (.cells #[.int .i64 m, .slice a l.length cap] 24)).heap.size (u.val.alloc (.cells #[.int .i64 m, .slice a l.length cap] 24)) a l) := Lib.hid (h.to (u.alloc _))
  have hrr : u.val.heap.size < (u.val.alloc (.cells #[.int .i64 m, .slice a l.length cap] 24)).heap.size := by simp
  have HV : Hid (∀ v : Later (u.val.alloc (.cells #[.int .i64 m, .slice a l.length cap] 24)).heap.size (u.val.alloc (.cells #[.int .i64 m, .slice a l.length cap] 24)), ∃ w : Later B W, w.val = v.val) := Lib.hid (fun v => ⟨(u.alloc _).up v, rfl⟩)
  have HBg : Hid (B ≤ (u.val.alloc (.cells #[.int .i64 m, .slice a l.length cap] 24)).heap.size) := Lib.hid (by have := u.size; simp; omega)
  have HN : Hid (∀ i, i < l.length → ∃ s : Nat, l.getD i 0 = s ∧ s < 256 ∧ (toN l).getD i 0 = s) := Lib.hid (fun i hi => by
    have h1 := hf.2.2 i hi
    have h2 := all_le (m : Int) hf.2.1
    exact ⟨(l.getD i 0).toNat, by omega, by omega, toN_getD l i⟩)
  have HLn := Lib.hid (toN_len l)
  clear h hf
  generalize toN l = L at *
  go_enter Try.func88, Try.ntmps88
  go_upto_region 1 with fail
  generalize hr2 : u.val.heap.size = g0 at *
  generalize u.val.alloc (.cells #[.int .i64 m, .slice a l.length cap] 24) = W1 at *
  clear hr2 u
  have qa := T0.out.c0
  go_upto_region 2 with fail
  clear qa
  have HT : Hid (ITab (W1.alloc (.cells (madeCells #[Value.int .i64 0] (bit m)) 3)) W1.heap.size (bit m) (rkT L 0 0)) := Lib.hid ((ITab.made W1 (bit m)).congr (fun j _ => (rkT_start L j).symm))
  have hg1 : W1.heap.size ≤ W1.heap.size := Nat.le_refl _
  have HZ : Hid (∃ w : Later W1.heap.size W1, w.val = W1.alloc (.cells (madeCells #[Value.int .i64 0] (bit m)) 3)) := Lib.hid ⟨(Later.self W1).alloc _, rfl⟩
  generalize W1.alloc (.cells (madeCells #[Value.int .i64 0] (bit m)) 3) = W2 at *
  obtain ⟨v1, hv1⟩ := HZ.out
  subst hv1
  clear HZ hmk
  generalize hgg : W1.heap.size = g at *
  clear hgg
  go_wp2
  go_loopw [13] (fun i wr => ∃ (s : Nat) (v : Later g W1), s ≤ bit m ∧ i = .int .i64 s ∧ wr = v.val ∧ Hid (ITab v.val g (bit m) (rkT L s 0))) (fun i _ => bit m - (intOf i).toNat)
  case atStart => exact ⟨0, v1, by omega, rfl, rfl, HT⟩
  case round =>
    clear v1 HT
    obtain ⟨s, v1, hs, rfl, rfl, HT⟩ := hrel
    have qb := (T0.out.keep_at v1.below hrr).c1
    rcases nlt s (bit m) with ⟨hsb, e0⟩ | ⟨hsb, e0⟩
    · have e0' : decide ((s : Int) < (bit m : Int)) = true := decide_eq_true (by omega)
      go_wp2
      clear e0 e0' qb
      go_loopw [19] (fun i wr => ∃ (k : Nat) (v : Later g W1), k ≤ l.length ∧ i = .int .i64 k ∧ wr = v.val ∧ Hid (ITab v.val g (bit m) (rkT L s k))) (fun i _ => l.length - (intOf i).toNat)
      case atStart => exact ⟨0, v1, by omega, rfl, rfl, HT⟩
      case round =>
        clear v1 HT
        obtain ⟨k, v, hk, rfl, rfl, HT⟩ := hrel
        by_cases hlt2 : k < l.length
        · obtain ⟨x, hx, hx8, hxL⟩ := HN.out k hlt2
          obtain ⟨bb, off, rfl, hbB, hcell⟩ := HI.out.at hlt2
          have HTk : Hid (∀ w : Later v.val.heap.size v.val, ITab w.val g (bit m) (rkT L s k)) := Lib.hid (fun w => HT.out.keep w.below)
          have c0 : ∀ w : Later v.val.heap.size v.val, w.val.cell? ⟨bb, off + k, none⟩ = some (.int .i64 (x : Int)) := fun w => by rw [← hx]; exact hcell (v.up w) k hlt2
          have c0' : v.val.cell? ⟨bb, off + k, none⟩ = some (.int .i64 (x : Int)) := c0 (Later.self _)
          have c1 : ∀ w : Later v.val.heap.size v.val, w.val.cell? ⟨g, s, none⟩ = some (.int .i64 (rkTo L s k : Int)) := fun w => by
            have := (HTk.out w).cell hsb
            rwa [rkT_at] at this
          have c2 : ∀ w : Later v.val.heap.size v.val, w.val.frozen? ⟨g, s, none⟩ = false := fun w => (HTk.out w).frozen s
          have hand := i64_and s x (by omega) (by omega)
          have hsx : s &&& x < 256 := Nat.lt_of_le_of_lt Nat.and_le_right hx8
          have KS := Lib.hid (fun w : Later v.val.heap.size v.val => c_size_axioms w (s &&& x) hsx)
          have HSt : Hid (rkTo L s (k+1) = max (rkTo L s k) (sz (s &&& x))) := Lib.hid (by rw [← hxL]; rfl)
          have HTn : Hid (∀ (w : World) (z : Nat), ITab w g (bit m) (rkT L s k) → rkTo L s (k+1) = z → ITab (w.setCell ⟨g, s, none⟩ (.int .i64 (z : Int))) g (bit m) (rkT L s (k+1))) := Lib.hid (fun w z h hz => h.set s (z : Int) (fun j _ => by
            unfold rkT
            by_cases h1 : j < s
            · rw [if_pos h1, if_neg (by omega), if_pos h1]
            · by_cases h2 : j = s
              · rw [if_neg h1, if_pos h2, if_pos h2, hz]
              · rw [if_neg h1, if_neg h2, if_neg h2, if_neg h1, if_neg h2]))
          have hr8 := rkTo_le8 L s k
          have hz8 := sz_le (s &&& x)
          clear hx hxL hcell HT
          generalize rkTo L s k = p at *
          generalize sz (s &&& x) = z at *
          rcases ilt (p : Int) (z : Int) with ⟨g1, d1⟩ | ⟨g1, d1⟩ <;> rcases ilt (z : Int) (p : Int) with ⟨g2, d2⟩ | ⟨g2, d2⟩
          all_goals first | (exfalso; omega) | skip
          all_goals
            go_wp2
            refine wp_region_later_qtail (Later.self v.val) 12 (by kernel_rfl) (by kernel_rfl) (fun _ => ?_)
            simp only [List.take_succ_cons, List.take_zero, List.drop_succ_cons, List.drop_zero]
            repeat (first | go_big_quiet_step (((go_at_call 54; exact KS.out _))) | (refine wpQuiet_step (fun K hK => ?_); go_simp; refine ⟨_, fun _ => rfl, ?_⟩; refine hK _ ?_; clear hK K))
            refine wpQuiet_nil ?_
            intro v2
            go_wp2
            go_roundw
            case rel =>
              first
              | exact ⟨k+1, (v.up v2).set ⟨g, s, none⟩ (Nat.le_refl _) _, by omega, by go_num, rfl, Lib.hid (HTn.out _ p (HTk.out v2) (by rw [HSt.out]; omega))⟩
              | exact ⟨k+1, (v.up v2).set ⟨g, s, none⟩ (Nat.le_refl _) _, by omega, by go_num, rfl, Lib.hid (HTn.out _ z (HTk.out v2) (by rw [HSt.out]; omega))⟩
            case measure => simp [intOf]; omega
        · have hke : Hid (k = L.length) := Lib.hid (by have := HLn.out; omega)
          go_wp2
          go_roundw
          case rel => exact ⟨s+1, v, by omega, by go_num, rfl, Lib.hid (HT.out.congr (fun j _ => by rw [hke.out]; exact rkT_next L s j))⟩
          case measure => simp [intOf]; omega
    · have hse : Hid (s = bit m) := Lib.hid (by omega)
      have e0' : decide ((s : Int) < (bit m : Int)) = false := decide_eq_false (by omega)
      clear qb
      go_wp2
      go_ret
      refine RetP.of (HV.out v1) ⟨g, _, rfl, ?_, HBg.out⟩
      refine HT.out.congr (fun j hj => ?_)
      unfold rkT; rw [hse.out, if_pos hj]

theorem c_axRanks0 {B : Nat} {W : World} (u : Later B W) (m : Nat) (hm : m ≤ 8) (l : List Int) (a : Option Addr) (cap : Nat) (h : IntsAt B W a l) (hlen : l.length ≤ 4611686018427387904) (hf : isFam (m : Int) l) :
    Calls Try.prog 88 #[.agg #[.int .i64 m, .slice a l.length cap]] u.val (RetP B W (fun v w => ∃ g c, v = .slice (some ⟨g, 0, none⟩) (bit m) c ∧ ITab w g (bit m) (fun j => (rk (toN l) j : Int)))) := (c_axRanks0B u m hm l a cap h hlen hf).mono fun _ _ ⟨v, h1, ⟨g, c, h2, h3, _⟩, h4⟩ => ⟨v, h1, ⟨g, c, h2, h3⟩, h4⟩

set_option maxRecDepth 100000 in
set_option maxHeartbeats 4000000 in
theorem c_axRanksB {B : Nat} {W : World} (u : Later B W) (m : Nat) (hm : m ≤ 8) (l : List Int) (a : Option Addr) (cap : Nat) (h : IntsAt B W a l) (hlen : l.length ≤ 4611686018427387904) (he : MatIs (m : Int) l 0) :
    Calls Try.prog 75 #[.agg #[.int .i64 m, .slice a l.length cap]] u.val (RetP B W (fun v w => ∃ g c, v = .tuple #[.slice (some ⟨g, 0, none⟩) (bit m) c, .int .i64 0] ∧ ITab w g (bit m) (fun j => (rk (toN l) j : Int)) ∧ B ≤ g)) := by
  have T0 : Hid (Two (u.val.alloc (.cells #[.int .i64 m, .slice a l.length cap] 24)) u.val.heap.size 24 (.int .i64 m) (.slice a l.length cap)) := Lib.hid (Two.new _ _ _ _)
  have hI : IntsAt (u.val.alloc (.cells #[.int .i64 m, .slice a l.length cap] 24)).heap.size (u.val.alloc (.cells #[.int .i64 m, .slice a l.length cap] 24)) a l := h.to (u.alloc _)
  have HV : Hid (∀ v : Later (u.val.alloc (.cells #[.int .i64 m, .slice a l.length cap] 24)).heap.size (u.val.alloc (.cells #[.int .i64 m, .slice a l.length cap] 24)), ∃ w : Later B W, w.val = v.val) := Lib.hid (fun v => ⟨(u.alloc _).up v, rfl⟩)
  have q0 : ∀ w : Later (u.val.alloc (.cells #[.int .i64 m, .slice a l.length cap] 24)).heap.size (u.val.alloc (.cells #[.int .i64 m, .slice a l.length cap] 24)), w.val.cell? ⟨u.val.heap.size, 0, none⟩ = some (.int .i64 m) := fun w => (T0.out.keep w.below).c0
  have q1 : ∀ w : Later (u.val.alloc (.cells #[.int .i64 m, .slice a l.length cap] 24)).heap.size (u.val.alloc (.cells #[.int .i64 m, .slice a l.length cap] 24)), w.val.cell? ⟨u.val.heap.size, 1, none⟩ = some (.slice a l.length cap) := fun w => (T0.out.keep w.below).c1
  have p0 : (u.val.alloc (.cells #[.int .i64 m, .slice a l.length cap] 24)).cell? ⟨u.val.heap.size, 0, none⟩ = some (.int .i64 m) := T0.out.c0
  have p1 : (u.val.alloc (.cells #[.int .i64 m, .slice a l.length cap] 24)).cell? ⟨u.val.heap.size, 1, none⟩ = some (.slice a l.length cap) := T0.out.c1
  have KC : Hid (Calls Try.prog 33 #[.agg #[.int .i64 m, .slice a l.length cap]] (u.val.alloc (.cells #[.int .i64 m, .slice a l.length cap] 24)) (Ret (u.val.alloc (.cells #[.int .i64 m, .slice a l.length cap] 24)).heap.size (u.val.alloc (.cells #[.int .i64 m, .slice a l.length cap] 24)) (.int .i64 0))) := Lib.hid (c_axCheck (Later.self _) m l a cap 0 hI hlen he)
  have KR := Lib.hid (fun v : Later (u.val.alloc (.cells #[.int .i64 m, .slice a l.length cap] 24)).heap.size (u.val.alloc (.cells #[.int .i64 m, .slice a l.length cap] 24)) => c_axRanks0B v m hm l a cap hI hlen (Classical.byContradiction fun hk => by have := he.1 (fun h => hk h.1); omega))
  clear h hI he T0
  go_enter Try.func75, Try.ntmps75
  go_wp2_with (first | (go_at_call 33; ((with_reducible refine (KC.out).mono ?_); rintro e _ ⟨rfl, v1, rfl⟩)) | (go_at_call 88; ((with_reducible refine (KR.out _).mono ?_); rintro e _ ⟨_, rfl, ⟨g, c, rfl, HT, hBg⟩, v2, rfl⟩)))
  go_ret2
  exact RetP.of (HV.out v2) ⟨g, c, rfl, HT, by have := u.size; simp at hBg; omega⟩
theorem c_axRanks {B : Nat} {W : World} (u : Later B W) (m : Nat) (hm : m ≤ 8) (l : List Int) (a : Option Addr) (cap : Nat) (h : IntsAt B W a l) (hlen : l.length ≤ 4611686018427387904) (he : MatIs (m : Int) l 0) :
    Calls Try.prog 75 #[.agg #[.int .i64 m, .slice a l.length cap]] u.val (RetP B W (fun v w => ∃ g c, v = .tuple #[.slice (some ⟨g, 0, none⟩) (bit m) c, .int .i64 0] ∧ ITab w g (bit m) (fun j => (rk (toN l) j : Int)))) := (c_axRanksB u m hm l a cap h hlen he).mono fun _ _ ⟨v, h1, ⟨g, c, h2, h3, _⟩, h4⟩ => ⟨v, h1, ⟨g, c, h2, h3⟩, h4⟩

end Go.Proofs.Ytdcdhdlklppalaa
