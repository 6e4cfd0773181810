/-
  hall.Rado: its function value, which appends to a captured row and cuts it.
-/
import Derived.Deep.CutRange
import Derived.Deep.CutBlock
import Derived.Deep.RegionHeld3
import Derived.Test.YtcljgnmlpfddiaaRado
import Derived.Test.YtcljgnmlpfddiaaHallLow
import Derived.Test.YtcljgnmlpfddiaaTabs
import Derived.Test.YtcljgnmlpfddiaaBox1
namespace Go.Proofs.Ytcljgnmlpfddiaa
open Go.RowKit
set_option linter.unusedVariables false

/-- worlds that agree with W below B but for block b -/
structure Aside (B b : Nat) (W : World) where
  val : World
  os : val.os = W.os
  tape : val.tape = W.tape
  output : val.output = W.output
  size : W.heap.size ≤ val.heap.size
  base : B ≤ val.heap.size
  block : ∀ k, k < B → k ≠ b → val.heap[k]? = W.heap[k]?
namespace Aside
variable {B b : Nat} {W : World}
def past (v : Aside B b W) (w : World) (h : Below B v.val w) : Aside B b W := ⟨w, h.os.trans v.os, h.tape.trans v.tape, h.output.trans v.output, Nat.le_trans v.size h.size, Nat.le_trans v.base h.size, fun k hk hb => (h.block k hk).trans (v.block k hk hb)⟩
def up (v : Aside B b W) (y : Later v.val.heap.size v.val) : Aside B b W := v.past y.val (y.below.mono v.base)
def drew (v : Aside B b W) : Aside B b W := v.past v.val.drew (Below.refl _ _).drew
def store (v : Aside B b W) (x : Value) : Aside B b W := ⟨v.val.setCell ⟨b, 0, none⟩ x, v.os, v.tape, v.output, by simpa using v.size, by simpa using v.base, fun k hk hb => (Below.heap_setCell _ _ _ _ hb).trans (v.block k hk hb)⟩
theorem cell (v : Aside B b W) {a : Addr} (h : a.block < B) (hb : a.block ≠ b) : v.val.cell? a = W.cell? a := World.cell?_of_block (w := W) (v.block a.block h hb)
theorem below (v : Aside B b W) {B0 : Nat} (h : B0 ≤ B) (hb : B0 ≤ b) : Below B0 W v.val := ⟨v.os, v.tape, v.output, v.size, fun k hk => v.block k (by omega) (by omega)⟩
end Aside

/-- the captured row -/
def OutAt (B b : Nat) (w : World) (xs : List Int) : Prop := ∃ ad cp, RowAt1 w b 53 (.slice ad xs.length cp) ∧ Own B w ad cp xs
theorem OutAt.keep {B b : Nat} {w w' : World} {xs : List Int} (h : OutAt B b w xs) (hb : Below w.heap.size w w') : OutAt B b w' xs := by
  obtain ⟨ad, cp, h1, h2⟩ := h
  exact ⟨ad, cp, h1.keep hb, h2.keep hb⟩
theorem RowAt1.store {w : World} {g : Nat} {t : TypeId} {v x : Value} (h : RowAt1 w g t v) : RowAt1 (w.setCell ⟨g, 0, none⟩ x) g t x := by
  have := heap_setCell_same w g 0 #[v] t x h
  simpa [RowAt1] using this
theorem RowAt1.frozen {w : World} {g : Nat} {t : TypeId} {v : Value} (h : RowAt1 w g t v) : w.frozen? ⟨g, 0, none⟩ = false := frozen_of_row w g 0 _ t h
theorem OutAt.stored {B b : Nat} {w : World} {t : Value} {ad : Option Addr} {cp : Nat} {xs : List Int} (hb : b < B) (h : RowAt1 w b 53 t) (ho : Own B w ad cp xs) : OutAt B b (w.setCell ⟨b, 0, none⟩ (.slice ad xs.length cp)) xs :=
  ⟨ad, cp, h.store, ownsRow_setCell_below ho hb _⟩
/-- an own row, cut -/
theorem Own.cut {B : Nat} {w : World} {g cap : Nat} {xs ys : List Int} (h : Own B w (some ⟨g, 0, none⟩) cap (xs ++ ys)) : Own B w (some ⟨g, 0, none⟩) cap xs := by
  obtain ⟨h1, h2⟩ := h
  refine ⟨by simp, ?_⟩
  rcases h2 with ⟨e, _⟩ | ⟨g', c, cur, e, hb, hh, hn, hc, hs, ht⟩
  · cases e
  · refine .inr ⟨g', c, cur, ?_, hb, hh, by simp at hn; omega, hc, hs, ?_⟩
    · simp only [Value.slice.injEq] at e ⊢
      exact ⟨e.1, trivial, e.2.2⟩
    · have := congrArg (List.take xs.length) ht
      rw [List.take_take] at this
      simp at this
      rw [Nat.mul_one, ← this]
theorem Own.room {B : Nat} {w : World} {ad : Option Addr} {cap : Nat} {xs : List Int} (h : Own B w ad cap xs) : xs.length ≤ cap := by
  rcases h.2 with ⟨e, hn⟩ | ⟨g, c, cur, e, _, _, hn, _⟩
  · omega
  · simp only [Value.slice.injEq] at e
    omega

/-- what the function value gives back -/
def RadoPost (B b : Nat) (W : World) (r : Option (List Nat)) (pre : List Nat) (e : Ending) (w' : World) : Prop :=
  ∃ v' : Aside B b W, w' = v'.val ∧ ((∃ l, r = some l ∧ e = .returned (.bool true) ∧ OutAt B b v'.val (ints (pre ++ l))) ∨ (r = none ∧ e = .returned (.bool false) ∧ OutAt B b v'.val (ints pre)))

set_option maxRecDepth 100000 in
set_option maxHeartbeats 8000000 in
theorem c_radoFrom (B bo g c : Nat) (W : World) (m : Nat) (hm : m ≤ 8) (ls : List Nat) (h8 : ls.length ≤ 8) (hls : ∀ k, k < ls.length → ls.getD k 0 < bit m) (L : List Nat) (al am : Option Addr) (capl lm capm bl bm br bf : Nat) (hBW : B ≤ W.heap.size) (hbo : bo < B) (hlt : bl < B ∧ bm < B ∧ br < B ∧ bf < B) (hne : bl ≠ bo ∧ bm ≠ bo ∧ br ≠ bo ∧ bf ≠ bo)
    (hI : IntsAt bo W al (ints ls)) (hg : g < bo) (hT : ITab W g (bit m) (fun j => (rk L j : Int))) (cl : W.cell? ⟨bl, 0, none⟩ = some (.slice al ls.length capl)) (cm : W.cell? ⟨bm, 0, none⟩ = some (.int .i64 m)) (cr : W.cell? ⟨br, 0, none⟩ = some (.slice (some ⟨g, 0, none⟩) (bit m) c))
    (cf : W.cell? ⟨bf, 0, none⟩ = some (.func (.func 139) #[] #[.pointer (some ⟨bl, 0, none⟩), .pointer (some ⟨bm, 0, none⟩), .pointer (some ⟨br, 0, none⟩), .pointer (some ⟨bo, 0, none⟩), .pointer (some ⟨bf, 0, none⟩)])) :
    ∀ rem k used pre, ls.length - k = rem → k ≤ ls.length → used < bit m → pre.length = k → ∀ v : Aside B bo W, OutAt B bo v.val (ints pre) →
    Calls Try.prog 139 #[.int .i64 k, .int .i64 used, .pointer (some ⟨bl, 0, none⟩), .pointer (some ⟨bm, 0, none⟩), .pointer (some ⟨br, 0, none⟩), .pointer (some ⟨bo, 0, none⟩), .pointer (some ⟨bf, 0, none⟩)] v.val (RadoPost B bo W (rado m (gProg L) (ls.drop k) used) pre) := by
  have hb := bit_le m hm
  have ql : ∀ v : Aside B bo W, v.val.cell? ⟨bl, 0, none⟩ = some (.slice al ls.length capl) := fun v => by rw [v.cell hlt.1 hne.1, cl]
  have qm : ∀ v : Aside B bo W, v.val.cell? ⟨bm, 0, none⟩ = some (.int .i64 m) := fun v => by rw [v.cell hlt.2.1 hne.2.1]; exact cm
  have qr : ∀ v : Aside B bo W, v.val.cell? ⟨br, 0, none⟩ = some (.slice (some ⟨g, 0, none⟩) (bit m) c) := fun v => by rw [v.cell hlt.2.2.1 hne.2.2.1]; exact cr
  have qf : ∀ v : Aside B bo W, v.val.cell? ⟨bf, 0, none⟩ = some (.func (.func 139) #[] #[.pointer (some ⟨bl, 0, none⟩), .pointer (some ⟨bm, 0, none⟩), .pointer (some ⟨br, 0, none⟩), .pointer (some ⟨bo, 0, none⟩), .pointer (some ⟨bf, 0, none⟩)]) := fun v => by rw [v.cell hlt.2.2.2 hne.2.2.2]; exact cf
  have qt : ∀ (v : Aside B bo W) (j : Nat), j < bit m → v.val.cell? ⟨g, j, none⟩ = some (.int .i64 (rk L j : Int)) := fun v j hj => by rw [v.cell (by show g < B; omega) (by show g ≠ bo; omega)]; exact hT.cell hj
  have hp1 : ∀ (args : Array Value) (w : World), (callFunc 139 args).run Try.prog w = .ok (.enter 139 args) w := fun _ _ => by kernel_rfl
  have HR8 : Hid (∀ s, rk L s ≤ 8) := Lib.hid (fun s => by have := rk_le_sz L s; have := sz_le s; omega)
  have HI := Lib.hid hI
  have HLs := Lib.hid hls
  clear hI cl cm cr cf hls hlt hne hT hg
  intro rem
  induction rem using Nat.strongRecOn with
  | ind rem ih =>
  intro k used pre hrem hk hu hpre v hO
  have IH := Lib.hid ih
  have HO0 := Lib.hid hO
  clear ih hO
  by_cases hke : k = ls.length
  · have d0 : ((k : Int) == (ls.length : Int)) = true := by rw [beq_iff_eq]; omega
    have hR : rado m (gProg L) (ls.drop k) used = some [] := by rw [hke, List.drop_length]; rfl
    rw [hR]
    clear hR IH hrem
    go_enter Try.func139, Try.ntmps139
    go_wp2
    go_ret
    exact ⟨v, rfl, .inl ⟨[], rfl, rfl, by rw [List.append_nil]; exact HO0.out⟩⟩
  have hkl : k < ls.length := by omega
  have d0 : ((k : Int) == (ls.length : Int)) = false := by rw [beq_eq_false_iff_ne]; omega
  have hdrop : ls.drop k = ls.getD k 0 :: ls.drop (k+1) := by
    rw [List.drop_eq_getElem_cons hkl]
    congr 1
    simp [hkl]
  have HSt : Hid (∀ i l, i < m → radoStep m (gProg L) (ls.getD k 0) (ls.drop (k+1)) used i = some l → (∀ j, j < i → radoStep m (gProg L) (ls.getD k 0) (ls.drop (k+1)) used j = none) → rado m (gProg L) (ls.drop k) used = some l) := Lib.hid (fun i l hi h hno => by rw [hdrop]; exact rado_some hi h hno)
  have HNo : Hid ((∀ j, j < m → radoStep m (gProg L) (ls.getD k 0) (ls.drop (k+1)) used j = none) → rado m (gProg L) (ls.drop k) used = none) := Lib.hid (fun h => by rw [hdrop]; exact rado_none h)
  have hsk := HLs.out k hkl
  obtain ⟨bb, off, rfl, hbB, hcell⟩ := HI.out.at (k := k) (by rw [ints_len]; exact hkl)
  have c0 : ∀ v : Aside B bo W, v.val.cell? ⟨bb, off + k, none⟩ = some (.int .i64 ((ls.getD k 0 : Nat) : Int)) := fun v => by
    rw [v.cell (by show bb < B; omega) (by show bb ≠ bo; omega), ← ints_getD]
    exact hcell ⟨W, Below.refl _ _, by omega⟩ k (by rw [ints_len]; exact hkl)
  have HIH : Hid (∀ (v : Aside B bo W) (i : Nat), i < m → OutAt B bo v.val (ints (pre ++ [i])) → Calls Try.prog 139 #[.int .i64 ((k + 1 : Nat) : Int), .int .i64 ((used ||| bit i : Nat) : Int), .pointer (some ⟨bl, 0, none⟩), .pointer (some ⟨bm, 0, none⟩), .pointer (some ⟨br, 0, none⟩), .pointer (some ⟨bo, 0, none⟩), .pointer (some ⟨bf, 0, none⟩)] v.val (RadoPost B bo W (rado m (gProg L) (ls.drop (k+1)) (used ||| bit i)) (pre ++ [i]))) := Lib.hid (fun v i hi hO => IH.out (ls.length - (k+1)) (by omega) (k+1) (used ||| bit i) (pre ++ [i]) rfl (by omega) (or_lt_bit hu (bit_lt_bit hi)) (by simp [hpre]) v hO)
  have HDef : Hid (∀ i, radoStep m (gProg L) (ls.getD k 0) (ls.drop (k+1)) used i = if (ls.getD k 0).testBit i && gProg L used i then (rado m (gProg L) (ls.drop (k+1)) (used ||| bit i)).map (fun l => i :: l) else none) := Lib.hid (fun i => rfl)
  clear hdrop hcell IH
  generalize hres : rado m (gProg L) (ls.drop k) used = res at *
  clear hres
  generalize ls.getD k 0 = s at *
  generalize hstep : radoStep m (gProg L) s (ls.drop (k+1)) used = st at *
  clear hstep
  generalize hrr : (fun i => rado m (gProg L) (ls.drop (k+1)) (used ||| bit i)) = rr at *
  have HRr : Hid (∀ i, rado m (gProg L) (ls.drop (k+1)) (used ||| bit i) = rr i) := Lib.hid (fun i => by rw [← hrr])
  clear hrr
  go_enter Try.func139, Try.ntmps139
  go_wp2
  go_loopw [17] (fun i wr => ∃ (i' : Nat) (v : Aside B bo W), i' ≤ m ∧ i = .int .i64 i' ∧ wr = v.val ∧ Hid (OutAt B bo v.val (ints pre)) ∧ Hid (∀ j, j < i' → st j = none)) (fun i _ => m - (intOf i).toNat)
  case atStart => exact ⟨0, v, by omega, rfl, rfl, HO0, Lib.hid (fun i hi => by omega)⟩
  case round =>
    clear HO0
    obtain ⟨i, v, hi, rfl, rfl, HO, HN⟩ := hrel
    rcases nlt i m with ⟨hlt2, d1⟩ | ⟨hlt2, d1⟩
    case inr =>
      have hr := HNo.out (fun j hj => HN.out j (by omega))
      subst hr
      clear HNo HN HSt
      have d1' : decide ((i : Int) < (m : Int)) = false := decide_eq_false (by omega)
      go_wp2
      go_ret
      exact ⟨v, rfl, .inr ⟨rfl, rfl, HO.out⟩⟩
    have d1' : decide ((i : Int) < (m : Int)) = true := decide_eq_true (by omega)
    have HNx : Hid (st i = none → ∀ j, j < i + 1 → st j = none) := Lib.hid (fun h j hj => by
      by_cases c : j = i
      · subst c; exact h
      · exact HN.out j (by omega))
    have HYs : Hid (∀ l, st i = some l → res = some l) := Lib.hid (fun l h => HSt.out i l hlt2 h HN.out)
    have hbi := bit_lt i (by omega)
    have hbc := bit_cast i
    have w1 := IntWalk.i64_in (bit i : Int) (by omega)
    have w2 := IntWalk.i64_in ((k : Int) + 1) (by omega)
    have hui := or_lt_bit hu (bit_lt_bit hlt2)
    have o1 := i64_or used (bit i) (by omega) (by omega)
    have ib := i64_bit s i (by omega) (by omega)
    have hD := HDef.out i
    rw [HRr.out i] at hD
    have HD := Lib.hid hD
    have HI2 := Lib.hid (fun v => HIH.out v i hlt2)
    rw [HRr.out i] at HI2
    clear hD HN HSt HNo
    have y1 : ∀ y : Later v.val.heap.size v.val, y.val.cell? ⟨bl, 0, none⟩ = some (.slice (some ⟨bb, off, none⟩) ls.length capl) := fun y => ql (v.up y)
    have y2 : ∀ y : Later v.val.heap.size v.val, y.val.cell? ⟨br, 0, none⟩ = some (.slice (some ⟨g, 0, none⟩) (bit m) c) := fun y => qr (v.up y)
    have y3 : ∀ y : Later v.val.heap.size v.val, y.val.cell? ⟨bb, off + k, none⟩ = some (.int .i64 (s : Int)) := fun y => c0 (v.up y)
    have y4 : ∀ y : Later v.val.heap.size v.val, y.val.cell? ⟨g, used, none⟩ = some (.int .i64 (rk L used : Int)) := fun y => qt (v.up y) used hu
    have y5 : ∀ y : Later v.val.heap.size v.val, y.val.cell? ⟨g, used ||| bit i, none⟩ = some (.int .i64 (rk L (used ||| bit i) : Int)) := fun y => qt (v.up y) _ hui
    have r1 := HR8.out used
    have r2 := HR8.out (used ||| bit i)
    have HG : Hid (gProg L used i = decide (rk L used < rk L (used ||| bit i))) := Lib.hid rfl
    rcases btf (s.testBit i) with g1 | g1
    case inr =>
      rw [g1] at ib
      have HN2 := Lib.hid (HNx.out (by rw [HD.out, g1]; rfl))
      clear g1 HNx HYs HD HI2
      obtain ⟨y, hy⟩ : ∃ y : Later v.val.heap.size v.val, y.val = v.val := ⟨Later.self _, rfl⟩
      go_wp2
      rw [← hy]
      clear hy
      refine wp_region_later y (by kernel_rfl) (by kernel_rfl) (fun _ => ?_)
      repeat (first | go_big_quiet_step ((fail)) | (refine wpQuiet_step (fun K hK => ?_); go_simp; refine ⟨_, fun _ => rfl, ?_⟩; refine hK _ ?_; clear hK K))
      refine wpQuiet_nil ?_
      intro y
      have HO2 : Hid (OutAt B bo y.val (ints pre)) := Lib.hid (HO.out.keep y.below)
      obtain ⟨v2, hv2⟩ : ∃ v2 : Aside B bo W, v2.val = y.val := ⟨v.up y, rfl⟩
      rw [← hv2] at HO2 ⊢
      clear hv2 y1 y2 y3 y4 y5
      go_wp2
      go_roundw
      case rel => exact ⟨i+1, v2, by omega, by go_num, rfl, HO2, HN2⟩
      case measure => simp [intOf]; omega
    rw [g1] at ib
    rcases ilt (rk L used : Int) (rk L (used ||| bit i) : Int) with ⟨g2, d2⟩ | ⟨g2, d2⟩
    case inr =>
      have d3 : decide (rk L used < rk L (used ||| bit i)) = false := decide_eq_false (by omega)
      have HN2 := Lib.hid (HNx.out (by rw [HD.out, g1, HG.out, d3]; rfl))
      clear g1 g2 HNx HYs HD HI2 HG
      obtain ⟨y, hy⟩ : ∃ y : Later v.val.heap.size v.val, y.val = v.val := ⟨Later.self _, rfl⟩
      go_wp2
      rw [← hy]
      clear hy
      refine wp_region_later y (by kernel_rfl) (by kernel_rfl) (fun _ => ?_)
      repeat (first | go_big_quiet_step ((fail)) | (refine wpQuiet_step (fun K hK => ?_); go_simp; refine ⟨_, fun _ => rfl, ?_⟩; refine hK _ ?_; clear hK K))
      refine wpQuiet_nil ?_
      intro y
      have HO2 : Hid (OutAt B bo y.val (ints pre)) := Lib.hid (HO.out.keep y.below)
      obtain ⟨v2, hv2⟩ : ∃ v2 : Aside B bo W, v2.val = y.val := ⟨v.up y, rfl⟩
      rw [← hv2] at HO2 ⊢
      clear hv2 y1 y2 y3 y4 y5
      go_wp2
      go_roundw
      case rel => exact ⟨i+1, v2, by omega, by go_num, rfl, HO2, HN2⟩
      case measure => simp [intOf]; omega
    have d3 : decide (rk L used < rk L (used ||| bit i)) = true := decide_eq_true (by omega)
    have HD2 : Hid (st i = (rr i).map (fun l => i :: l)) := Lib.hid (by rw [HD.out, g1, HG.out, d3]; rfl)
    clear g1 g2 HD HG
    obtain ⟨y, hy⟩ : ∃ y : Later v.val.heap.size v.val, y.val = v.val := ⟨Later.self _, rfl⟩
    go_wp2
    rw [← hy]
    clear hy
    refine wp_region_later y (by kernel_rfl) (by kernel_rfl) (fun _ => ?_)
    repeat (first | go_big_quiet_step ((fail)) | (refine wpQuiet_step (fun K hK => ?_); go_simp; refine ⟨_, fun _ => rfl, ?_⟩; refine hK _ ?_; clear hK K))
    refine wpQuiet_nil ?_
    intro y
    have HO2 : Hid (OutAt B bo y.val (ints pre)) := Lib.hid (HO.out.keep y.below)
    obtain ⟨v2, hv2⟩ : ∃ v2 : Aside B bo W, v2.val = y.val := ⟨v.up y, rfl⟩
    rw [← hv2] at HO2 ⊢
    clear hv2 y1 y2 y3 y4 y5
    obtain ⟨ad, cp, hrow, hown0⟩ := HO2.out
    have HOwn := Lib.hid hown0
    have z0 : v2.val.cell? ⟨bo, 0, none⟩ = some (.slice ad (ints pre).length cp) := hrow.c0
    have HRow := Lib.hid hrow
    have z1 : ∀ y : Later B v2.val, y.val.cell? ⟨bo, 0, none⟩ = some (.slice ad (ints pre).length cp) := fun y => by rw [y.cell (a := ⟨bo, 0, none⟩) hbo]; exact HRow.out.c0
    have z2 : ∀ y : Later B v2.val, y.val.frozen? ⟨bo, 0, none⟩ = false := fun y => by rw [y.below.frozen (p := ⟨bo, 0, none⟩) hbo]; exact HRow.out.frozen
    have HLn : Hid ((ints pre).length ≤ 8) := Lib.hid (by rw [ints_len]; omega)
    have hv2B := v2.base
    clear hrow hown0 HO2 HO
    go_upto_region 8 with (first | (at_builtin; refine wpList_push (B := B) (W := v2.val) (w := v2.val) (Below.refl _ _) hv2B rfl _ _ rfl (ints pre) ad cp (i : Int) rfl HOwn.out rfl (by have := HLn.out; omega) ?_; intro u2 ad2 cp2 hown))
    go_upto_region 8 with fail
    obtain ⟨v3, hv3, hO3⟩ : ∃ v3 : Aside B bo W, v3.val = u2.val.setCell ⟨bo, 0, none⟩ (.slice ad2 ((ints pre).length + 1) cp2) ∧ OutAt B bo v3.val (ints (pre ++ [i])) := by
      refine ⟨(v2.past u2.val u2.below).store (.slice ad2 ((ints pre).length + 1) cp2), rfl, ?_⟩
      have h1 : RowAt1 u2.val bo 53 (.slice ad (ints pre).length cp) := by
        show u2.val.heap[bo]? = _
        rw [u2.below.block bo hbo]; exact HRow.out
      have h2 := OutAt.stored hbo h1 hown
      rw [ints_snoc]
      have e : (ints pre ++ [(i : Int)]).length = (ints pre).length + 1 := by simp
      rw [e] at h2
      exact h2
    rw [← hv3]
    have HO3 := Lib.hid hO3
    clear hv3 hO3 hown HRow HOwn z0 z1 z2
    have s0 : v3.val.drew.cell? ⟨bf, 0, none⟩ = some (.func (.func 139) #[] #[.pointer (some ⟨bl, 0, none⟩), .pointer (some ⟨bm, 0, none⟩), .pointer (some ⟨br, 0, none⟩), .pointer (some ⟨bo, 0, none⟩), .pointer (some ⟨bf, 0, none⟩)]) := qf v3.drew
    have K1 : Hid (Calls Try.prog 139 #[.int .i64 ((k : Int) + 1), .int .i64 ((used ||| bit i : Nat) : Int), .pointer (some ⟨bl, 0, none⟩), .pointer (some ⟨bm, 0, none⟩), .pointer (some ⟨br, 0, none⟩), .pointer (some ⟨bo, 0, none⟩), .pointer (some ⟨bf, 0, none⟩)] v3.val.drew (RadoPost B bo W (rr i) (pre ++ [i]))) := Lib.hid (HI2.out v3.drew (HO3.out.keep (Below.refl _ _).drew))
    clear HI2 HO3
    cases hri : rr i with
    | none =>
      have K2 : Hid (Calls Try.prog 139 #[.int .i64 ((k : Int) + 1), .int .i64 ((used ||| bit i : Nat) : Int), .pointer (some ⟨bl, 0, none⟩), .pointer (some ⟨bm, 0, none⟩), .pointer (some ⟨br, 0, none⟩), .pointer (some ⟨bo, 0, none⟩), .pointer (some ⟨bf, 0, none⟩)] v3.val.drew (fun e w' => ∃ v4 : Aside B bo W, e = .returned (.bool false) ∧ w' = v4.val ∧ OutAt B bo v4.val (ints (pre ++ [i])))) := Lib.hid (K1.out.mono (by
        rintro e _ ⟨v4, rfl, h⟩
        rcases h with ⟨l, h1, _⟩ | ⟨_, h2, h3⟩
        · rw [hri] at h1; cases h1
        · exact ⟨v4, h2, rfl, h3⟩))
      have HN2 := Lib.hid (HNx.out (by rw [HD2.out, hri]; rfl))
      clear K1 HNx HYs HD2 hri
      go_region_held3 (fun w' => w'.cell? ⟨bf, 0, none⟩ = some (.func (.func 139) #[] #[.pointer (some ⟨bl, 0, none⟩), .pointer (some ⟨bm, 0, none⟩), .pointer (some ⟨br, 0, none⟩), .pointer (some ⟨bo, 0, none⟩), .pointer (some ⟨bf, 0, none⟩)])) (first | exact s0 | exact qf v4) (first | (go_at_call 139; (with_reducible refine (K2.out).mono ?_); rintro e _ ⟨v4, rfl, rfl, hO4⟩))
      obtain ⟨ad4, cp4, hrow4, hown4⟩ := hO4
      obtain ⟨g4, rfl⟩ := own_some hown4 (by rw [ints_snoc]; simp)
      have hl4 : (ints (pre ++ [i])).length = k + 1 := by rw [ints_len]; simp [hpre]
      have hroom := hown4.room
      rw [hl4] at hrow4 hroom
      have z0 : v4.val.cell? ⟨bo, 0, none⟩ = some (.slice (some ⟨g4, 0, none⟩) (k + 1) cp4) := hrow4.c0
      have z2 : v4.val.frozen? ⟨bo, 0, none⟩ = false := hrow4.frozen
      have HOc : Hid (OutAt B bo (v4.val.setCell ⟨bo, 0, none⟩ (.slice (some ⟨g4, 0, none⟩) k cp4)) (ints pre)) := Lib.hid (by
        rw [ints_snoc] at hown4
        have h2 := OutAt.stored hbo hrow4 hown4.cut
        rw [show (ints pre).length = k by rw [ints_len]; exact hpre] at h2
        exact h2)
      have e1 : decide ((k : Int) ≤ (cp4 : Int)) = true := decide_eq_true (by omega)
      have e2 : decide (k ≤ cp4) = true := decide_eq_true (by omega)
      have e3 : k ≤ cp4 := by omega
      clear hown4 hrow4
      go_wp2
      go_roundw
      case rel => exact ⟨i+1, v4.store _, by omega, by go_num, rfl, HOc, HN2⟩
      case measure => simp [intOf]; omega
    | some l =>
      have K2 : Hid (Calls Try.prog 139 #[.int .i64 ((k : Int) + 1), .int .i64 ((used ||| bit i : Nat) : Int), .pointer (some ⟨bl, 0, none⟩), .pointer (some ⟨bm, 0, none⟩), .pointer (some ⟨br, 0, none⟩), .pointer (some ⟨bo, 0, none⟩), .pointer (some ⟨bf, 0, none⟩)] v3.val.drew (fun e w' => ∃ v4 : Aside B bo W, e = .returned (.bool true) ∧ w' = v4.val ∧ OutAt B bo v4.val (ints (pre ++ [i] ++ l)))) := Lib.hid (K1.out.mono (by
        rintro e _ ⟨v4, rfl, h⟩
        rcases h with ⟨l', h1, h2, h3⟩ | ⟨h1, _⟩
        · rw [hri] at h1
          cases h1
          exact ⟨v4, h2, rfl, h3⟩
        · rw [hri] at h1; cases h1))
      have hr := HYs.out (i :: l) (by rw [HD2.out, hri]; rfl)
      subst hr
      clear K1 HNx HYs HD2 hri
      go_region_held3 (fun w' => w'.cell? ⟨bf, 0, none⟩ = some (.func (.func 139) #[] #[.pointer (some ⟨bl, 0, none⟩), .pointer (some ⟨bm, 0, none⟩), .pointer (some ⟨br, 0, none⟩), .pointer (some ⟨bo, 0, none⟩), .pointer (some ⟨bf, 0, none⟩)])) (first | exact s0 | exact qf v4) (first | (go_at_call 139; (with_reducible refine (K2.out).mono ?_); rintro e _ ⟨v4, rfl, rfl, hO4⟩))
      go_wp2
      go_ret
      exact ⟨v4, rfl, .inl ⟨i :: l, rfl, rfl, by rw [List.append_assoc] at hO4; exact hO4⟩⟩

end Go.Proofs.Ytcljgnmlpfddiaa
