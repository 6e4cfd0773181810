
/-
  same.Canon's function value: the least list of bases by new names, the order in a table.
-/
import Derived.Test.YtdcdhdlklppalaaPk44
import Derived.Test.YtdcdhdlklppalaaPk40
import Derived.OwnWalk
namespace Go.Proofs.Ytdcdhdlklppalaa
open Go.RowKit
set_option linter.unusedVariables false

/-- what the search finds in memory, whenever -/
structure CcOk (B bt : Nat) (W : World) (n : Nat) (L : List Nat) (aa : Option Addr) (capa ba bp cq bb bf : Nat) : Prop where
  n8 : n ≤ 8
  hbt : bt < B
  hbb : bb < B
  hne : bt ≠ bb
  len : L.length ≤ 256
  lt : ∀ b, b ∈ L → b < bit n
  ca : ∀ v : Off B (fun k => k = bt ∨ k = bb) W, v.val.cell? ⟨ba, 0, none⟩ = some (.int .i64 n)
  ca1 : ∀ v : Off B (fun k => k = bt ∨ k = bb) W, v.val.cell? ⟨ba, 1, none⟩ = some (.slice aa L.length capa)
  li : ∀ v : Off B (fun k => k = bt ∨ k = bb) W, IntsAt v.val.heap.size v.val aa (ints L)
  cp : ∀ v : Off B (fun k => k = bt ∨ k = bb) W, v.val.cell? ⟨bp, 0, none⟩ = some (.slice (some ⟨bt, 0, none⟩) n cq)
  cf : ∀ v : Off B (fun k => k = bt ∨ k = bb) W, v.val.cell? ⟨bf, 0, none⟩ = some (.func (.func 42) #[] #[.pointer (some ⟨ba, 0, none⟩), .pointer (some ⟨bp, 0, none⟩), .pointer (some ⟨bb, 0, none⟩), .pointer (some ⟨bf, 0, none⟩)])
/-- the table holds an order's beginning -/
def TabP (bt n : Nat) (pre : List Nat) (w : World) : Prop := ∃ A : Nat → Int, ITab w bt n A ∧ ∀ j, j < pre.length → A j = ((pre.getD j 0 : Nat) : Int)
theorem TabP.keep {bt n : Nat} {pre : List Nat} {w w' : World} (h : TabP bt n pre w) (hb : Below w.heap.size w w') : TabP bt n pre w' := by
  obtain ⟨A, h1, h2⟩ := h
  exact ⟨A, h1.keep hb, h2⟩
theorem TabP.other {bt n b i : Nat} {pre : List Nat} {w : World} (h : TabP bt n pre w) (hne : bt ≠ b) (x : Value) : TabP bt n pre (w.setCell ⟨b, i, none⟩ x) := by
  obtain ⟨A, h1, h2⟩ := h
  exact ⟨A, h1.other hne x, h2⟩
theorem TabP.snoc {bt n K : Nat} {pre : List Nat} {w : World} (h : TabP bt n pre w) : TabP bt n (pre ++ [K]) (w.setCell ⟨bt, pre.length, none⟩ (.int .i64 (K : Int))) := by
  obtain ⟨A, h1, h2⟩ := h
  refine ⟨fun j => if j = pre.length then (K : Int) else A j, h1.set pre.length (K : Int) (fun j _ => rfl), fun j hj => ?_⟩
  by_cases e : j = pre.length
  · subst e
    simp
  · have hj2 : j < pre.length := by rw [List.length_append] at hj; simp at hj; omega
    show (if j = pre.length then (K : Int) else A j) = _
    rw [if_neg e, h2 j hj2, getD_snocP_lt hj2]
theorem TabP.init {bt n K : Nat} {pre : List Nat} {w : World} (h : TabP bt n (pre ++ [K]) w) : TabP bt n pre w := by
  obtain ⟨A, h1, h2⟩ := h
  exact ⟨A, h1, fun j hj => by rw [h2 j (by rw [List.length_append]; simp; omega), getD_snocP_lt hj]⟩
theorem TabP.rd {bt n : Nat} {pre : List Nat} {w : World} (h : TabP bt n pre w) (hl : pre.length = n) : IntsAt w.heap.size w (some ⟨bt, 0, none⟩) (ints pre) := by
  obtain ⟨A, h1, h2⟩ := h
  have e : tabL n A = ints pre := by
    unfold tabL ints
    apply List.ext_getElem
    · simp [hl]
    · intro i k1 k2
      simp at k1 k2
      simp only [List.getElem_map, List.getElem_range]
      rw [h2 i (by omega)]
      have : pre.getD i 0 = pre[i] := by simp [k2]
      rw [this]
  rw [← e]
  exact h1.ints
/-- what the search hands back -/
def CanPost2 (lo B bt : Nat) (W : World) (n bb : Nat) (L pre : List Nat) (b0 : List Int) (e : Ending) (w' : World) : Prop :=
  e = .returned (.tuple #[]) ∧ ∃ v' : Off B (fun k => k = bt ∨ k = bb) W, w' = v'.val ∧ TabP bt n pre v'.val ∧ ∃ b1, BstI lo bb (fun k => k = bt) b1 v'.val ∧ Bst (fun q => ren q L) (Ext n pre) b0 b1

set_option maxRecDepth 100000 in
set_option maxHeartbeats 20000000 in
theorem c_ccFrom (lo B bt : Nat) (hlo : lo ≤ B) (W : World) (n : Nat) (L : List Nat) (aa : Option Addr) (capa ba bp cq bb bf : Nat) (H : CcOk B bt W n L aa capa ba bp cq bb bf) :
    ∀ d (pre : List Nat) (used : Nat) (b0 : List Int) (v : Off B (fun k => k = bt ∨ k = bb) W), Pre n pre → pre.length + d = n → used < 256 → (∀ k, k < 8 → used.testBit k = pre.contains k) → TabP bt n pre v.val → BstI lo bb (fun k => k = bt) b0 v.val →
    Calls Try.prog 42 #[.int .i64 pre.length, .int .i64 used, .pointer (some ⟨ba, 0, none⟩), .pointer (some ⟨bp, 0, none⟩), .pointer (some ⟨bb, 0, none⟩), .pointer (some ⟨bf, 0, none⟩)] v.val (CanPost2 lo B bt W n bb L pre b0) := by
  have hn8 := H.n8
  have hbn := bit_le n hn8
  have hbt := H.hbt
  have hbb := H.hbb
  have HH := Lib.hid H
  have hp1 : ∀ (args : Array Value) (w : World), (callFunc 42 args).run Try.prog w = .ok (.enter 42 args) w := fun _ _ => by kernel_rfl
  clear H
  intro d
  induction d with
  | zero =>
    intro pre used b0 v hpre hlen hu hub hP hI
    have hpl : pre.length = n := by omega
    have HP0 := Lib.hid hP
    have HI0 := Lib.hid hI
    have Hpm := Lib.hid (hpre.pm hpl)
    have q0 := HH.out.ca v
    have q1 := HH.out.ca1 v
    have q2 := HH.out.cp v
    have dd : ((n : Int) == (n : Int)) = true := by simp
    have hLl := HH.out.len
    have hvB := v.base
    have KR : Hid (Calls Try.prog 35 #[.agg #[.int .i64 n, .slice aa L.length capa], .slice (some ⟨bt, 0, none⟩) n cq] v.val (RetOwn v.val.heap.size v.val (ren pre L))) := Lib.hid (by
      have h1 := c_sameRenamed (Later.self v.val) (n : Int) L pre (fun b hb => by have := HH.out.lt b hb; omega) (by omega) aa (some ⟨bt, 0, none⟩) capa cq (HH.out.li v) (hP.rd hpl) (fun i hi => by have := Hpm.out.lt i (by omega); omega) (by omega)
      rwa [hpl] at h1)
    obtain ⟨ab, cb, r1, r2, r3, r4⟩ := hI.ex
    have hb0 := hI.len
    have hRl : (ren pre L).length ≤ 256 := by rw [ren_len]; exact hLl
    have t0 : ∀ y : Later v.val.heap.size v.val, y.val.cell? ⟨bb, 0, none⟩ = some (.slice ab b0.length cb) := fun y => (r1.keep y.below).c0
    have t1 : ∀ y : Later v.val.heap.size v.val, y.val.frozen? ⟨bb, 0, none⟩ = false := fun y => (r1.keep y.below).frozen
    have KC : Hid (∀ (y : Later v.val.heap.size v.val) (ar : Option Addr) (cr : Nat), IntsAt y.val.heap.size y.val ar (ren pre L) → Calls Try.prog 29 #[.slice ar (ren pre L).length cr, .slice ab b0.length cb] y.val (Ret y.val.heap.size y.val (.int .i64 (lexc (ren pre L) b0)))) := Lib.hid (fun y ar cr h => c_slCompare (Later.self y.val) (ren pre L) b0 ar ab cr cb h (r2.to y) (by omega) (by omega))
    have HR1 := Lib.hid r1
    have HOne := Lib.hid (Bst.one (f := fun q => ren q L) (S := Ext n pre) (p := pre) (ext_leaf Hpm.out) b0)
    have HSb : Hid (∀ k, k = bt → k < v.val.heap.size) := Lib.hid (fun k hk => by omega)
    have HNb := Lib.hid hI.nb
    rw [hpl]
    clear r1 r2 r3 r4 hP hI hpre hlen hub hu
    have HPl := Lib.hid hpl
    clear hpl
    generalize hX : ren pre L = X at *
    have HX := Lib.hid hX
    clear hX
    have HOn2 := Lib.hid HOne.out
    clear HOne
    generalize hr : lexc X b0 = r at *
    clear hr
    go_enter Try.func42, Try.ntmps42
    rcases ilt r 0 with ⟨g1, d1⟩ | ⟨g1, d1⟩
    · have HOn3 : Hid (Bst (fun q => ren q L) (Ext n pre) b0 X) := Lib.hid (by have := HOn2.out; rwa [if_pos g1] at this)
      clear HOn2 g1
      go_wp2_with (first | (go_at_call 35; (with_reducible refine (KR.out).mono ?_); rintro e _ ⟨_, rfl, ⟨ar, cr, rfl, hO⟩, y, rfl⟩; have HO := Lib.hid hO; clear hO; have KC1 := Lib.hid (KC.out y ar cr HO.out.reads); have t2 := t0 y) | (go_at_call 29; (with_reducible refine (KC1.out).mono ?_); rintro e _ ⟨rfl, y2, rfl⟩; have t3 : y2.val.cell? ⟨bb, 0, none⟩ = some (.slice ab b0.length cb) := t0 (y.up y2); have t4 : y2.val.frozen? ⟨bb, 0, none⟩ = false := t1 (y.up y2)) | fail)
      refine bodyPost_ret (v := .tuple #[]) (by kernel_rfl) rfl ?_
      refine ⟨rfl, (v.up (y.up y2)).store bb 0 (.inr rfl) _, rfl, (HP0.out.keep (y.up y2).below).other HH.out.hne _, X, ?_, HOn3.out⟩
      exact BstI.new (HR1.out.keep (y.up y2).below) (HO.out.keep y2.below) (by omega) HSb.out HNb.out hRl (by omega)
    · have HOn3 : Hid (Bst (fun q => ren q L) (Ext n pre) b0 b0) := Lib.hid (by have := HOn2.out; rwa [if_neg (by omega)] at this)
      clear HOn2 g1
      go_wp2_with (first | (go_at_call 35; (with_reducible refine (KR.out).mono ?_); rintro e _ ⟨_, rfl, ⟨ar, cr, rfl, hO⟩, y, rfl⟩; have HO := Lib.hid hO; clear hO; have KC1 := Lib.hid (KC.out y ar cr HO.out.reads); have t2 := t0 y) | (go_at_call 29; (with_reducible refine (KC1.out).mono ?_); rintro e _ ⟨rfl, y2, rfl⟩) | fail)
      refine bodyPost_ret (v := .tuple #[]) (by kernel_rfl) rfl ?_
      exact ⟨rfl, v.up (y.up y2), rfl, HP0.out.keep (y.up y2).below, b0, HI0.out.keep (y.up y2).below.size (fun k hk _ => (y.up y2).below.block k hk) (fun k h => .inl h), HOn3.out⟩
  | succ d ih =>
    intro pre used b0 v hpre hlen hu hub hP hI
    have hpl : pre.length < n := by omega
    have hp8 : pre.length < 8 := by omega
    have IH := Lib.hid ih
    have q0 := HH.out.ca v
    have dd : ((pre.length : Int) == (n : Int)) = false := by rw [beq_eq_false_iff_ne]; omega
    have HP0 := Lib.hid hP
    have HI0 := Lib.hid hI
    have Hpre := Lib.hid hpre
    have Hub := Lib.hid hub
    have Hbl := Lib.hid hpl
    have hlp : Hid (pre.length + 1 + d = n) := Lib.hid (by omega)
    obtain ⟨i, hi⟩ : ∃ i, i = pre.length := ⟨_, rfl⟩
    have HLi : Hid (pre.length = i) := Lib.hid hi.symm
    rw [← hi] at hpl hp8 dd ⊢
    have w0 := IntWalk.i64_in ((i : Int) + 1) (by omega)
    clear hP hI hpre ih hi hlen hub
    go_enter Try.func42, Try.ntmps42
    go_wp2
    go_loopw [24] (fun kk wr => ∃ (K : Nat) (v : Off B (fun k => k = bt ∨ k = bb) W) (b1 : List Int), K ≤ n ∧ kk = .int .i64 K ∧ wr = v.val ∧ Hid (TabP bt n pre v.val) ∧ Hid (BstI lo bb (fun k => k = bt) b1 v.val) ∧ Hid (Bst (fun q => ren q L) (fun q => Ext n pre q ∧ q.getD pre.length 0 < K) b0 b1)) (fun kk _ => n - (intOf kk).toNat)
    case atStart => exact ⟨0, v, b0, by omega, by first | rfl | go_num, rfl, HP0, HI0, Lib.hid (Bst.refl _ (fun q hq => by have := hq.2; omega) _)⟩
    case round =>
      clear HP0 HI0 q0 v
      obtain ⟨K, v, b1, hK, rfl, rfl, HP, HI, HBs⟩ := hrel
      have qbv := HH.out.ca v
      by_cases hlt : K < n
      · have hub := Hub.out K (by omega)
        have s1 := shr_and used K hu
        rcases btf (used.testBit K) with g1 | g1
        · rw [g1] at s1 hub
          rw [show ((true.toNat : Nat) : Int) = 1 from rfl] at s1
          have HBn := Lib.hid (bst_up_no Hbl.out HBs.out hub.symm)
          clear HBs hub g1
          go_wp2
          go_roundw
          case rel => exact ⟨K + 1, v, b1, by omega, by go_num, by first | rfl | trivial, HP, HI, HBn⟩
          case measure => first | (simp [intOf]; done) | (simp [intOf]; omega)
        · rw [g1] at s1 hub
          rw [show ((false.toNat : Nat) : Int) = 0 from rfl] at s1
          have HCt : Hid (pre.contains K = false) := Lib.hid hub.symm
          clear hub
          have x1 : v.val.cell? ⟨bp, 0, none⟩ = some (.slice (some ⟨bt, 0, none⟩) n cq) := HH.out.cp v
          obtain ⟨A, k1, k2⟩ := HP.out
          have x2 : v.val.cell? ⟨bt, i, none⟩ = some (.int .i64 (A i)) := k1.cell hpl
          have x3 : v.val.frozen? ⟨bt, i, none⟩ = false := k1.frozen _
          obtain ⟨v3, hv3⟩ : ∃ v3 : Off B (fun k => k = bt ∨ k = bb) W, v3.val = v.val.setCell ⟨bt, i, none⟩ (.int .i64 (K : Int)) := ⟨v.store bt i (.inl rfl) _, rfl⟩
          have HP3 : Hid (TabP bt n (pre ++ [K]) v3.val) := Lib.hid (by
            have h1 := HP.out.snoc (K := K)
            rw [HLi.out] at h1
            rw [hv3]; exact h1)
          have HI3 : Hid (BstI lo bb (fun k => k = bt) b1 v3.val) := Lib.hid (by
            rw [hv3]
            exact HI.out.keep (by simp) (fun k hk hS => Below.heap_setCell _ _ _ _ hS) (fun k hk => .inl hk))
          go_upto_region 9 with fail
          rw [← hv3]
          clear hv3 x1 x2 x3 k1 k2
          have HSn := Lib.hid (Hpre.out.snoc hlt HCt.out)
          have HLn : Hid ((pre ++ [K]).length = i + 1) := Lib.hid (by rw [List.length_append, HLi.out]; rfl)
          have hbk := bit_lt K (by omega)
          have bk := bit_cast K
          have w3 := IntWalk.i64_in (bit K : Int) (by omega)
          have o1 := i64_or used (bit K) (by omega) (by omega)
          have hu2 := or_lt used (bit K) hu (by omega)
          have K1 : Hid (Calls Try.prog 42 #[.int .i64 ((i : Int) + 1), .int .i64 ((used ||| bit K : Nat) : Int), .pointer (some ⟨ba, 0, none⟩), .pointer (some ⟨bp, 0, none⟩), .pointer (some ⟨bb, 0, none⟩), .pointer (some ⟨bf, 0, none⟩)] v3.val.drew (CanPost2 lo B bt W n bb L (pre ++ [K]) b1)) := Lib.hid (by
            have h1 := IH.out (pre ++ [K]) (used ||| bit K) b1 v3.drew HSn.out (by rw [HLn.out]; have := hlp.out; rw [HLi.out] at this; exact this) hu2 (fun k hk => by rw [or_bit_testBit, Hub.out k hk, contains_snoc]) (HP3.out.keep (Below.refl _ _).drew) (HI3.out.keep (Nat.le_refl _) (fun k _ _ => rfl) (fun k hk => .inl hk))
            rw [HLn.out] at h1
            exact h1)
          have s0 : v3.val.drew.cell? ⟨bf, 0, none⟩ = some (.func (.func 42) #[] #[.pointer (some ⟨ba, 0, none⟩), .pointer (some ⟨bp, 0, none⟩), .pointer (some ⟨bb, 0, none⟩), .pointer (some ⟨bf, 0, none⟩)]) := HH.out.cf v3.drew
          have qf : ∀ v : Off B (fun k => k = bt ∨ k = bb) W, v.val.cell? ⟨bf, 0, none⟩ = some (.func (.func 42) #[] #[.pointer (some ⟨ba, 0, none⟩), .pointer (some ⟨bp, 0, none⟩), .pointer (some ⟨bb, 0, none⟩), .pointer (some ⟨bf, 0, none⟩)]) := HH.out.cf
          clear IH HP HI HP3 HI3
          generalize hub : used ||| bit K = ub at *
          clear hub
          go_region_held3 (fun w' => w'.cell? ⟨bf, 0, none⟩ = some (.func (.func 42) #[] #[.pointer (some ⟨ba, 0, none⟩), .pointer (some ⟨bp, 0, none⟩), .pointer (some ⟨bb, 0, none⟩), .pointer (some ⟨bf, 0, none⟩)])) (first | exact s0 | exact qf v4) (first | (go_at_call 42; (with_reducible refine (K1.out).mono ?_); rintro e _ ⟨rfl, v4, rfl, hP4, b2, hI4, hB4⟩))
          have HP5 := Lib.hid hP4.init
          have HI5 := Lib.hid hI4
          have HBn := Lib.hid (bst_up Hbl.out HBs.out hB4)
          clear hP4 hI4 hB4 s0 K1 HBs
          go_wp2
          go_roundw
          case rel => exact ⟨K + 1, v4, b2, by omega, by go_num, by first | rfl | trivial, HP5, HI5, HBn⟩
          case measure => first | (simp [intOf]; done) | (simp [intOf]; omega)
      · have hKn : K = n := by omega
        subst hKn
        have HFin := Lib.hid (bst_up_all Hbl.out HBs.out)
        clear HBs
        go_wp2
        go_end0
        exact ⟨rfl, v, rfl, HP.out, b1, HI.out, HFin.out⟩
end Go.Proofs.Ytdcdhdlklppalaa
