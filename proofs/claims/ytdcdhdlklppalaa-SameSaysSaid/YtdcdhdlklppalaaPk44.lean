
/-
  rotaref.Canon's function value: the least list of bases by new names.
-/
import Derived.Test.YtdcdhdlklppalaaPk32
import Derived.Test.YtdcdhdlklppalaaPk42
import Derived.Test.YtdcdhdlklppalaaPk33
import Derived.OwnWalk
namespace Go.Proofs.Ytdcdhdlklppalaa
open Go.RowKit
set_option linter.unusedVariables false

/-- the best list so far lies in a box, its own block none of those in S -/
structure BstI (lo bb : Nat) (S : Nat → Prop) (b : List Int) (w : World) : Prop where
  ex : ∃ ab cb, RowAt1 w bb 22 (.slice ab b.length cb) ∧ IntsAt w.heap.size w ab b ∧ (ab = none → cb = 0) ∧ ∀ x, ab = some x → lo ≤ x.block ∧ x.block < w.heap.size ∧ x.block ≠ bb ∧ ¬ S x.block
  nb : ¬ S bb
  len : b.length ≤ 256
theorem BstI.keep {lo bb : Nat} {S S' : Nat → Prop} {b : List Int} {w w' : World} (h : BstI lo bb S b w) (hs : w.heap.size ≤ w'.heap.size) (hk : ∀ k, k < w.heap.size → ¬ S k → w'.heap[k]? = w.heap[k]?) (hS : ∀ k, S' k → S k ∨ w.heap.size ≤ k) : BstI lo bb S' b w' := by
  obtain ⟨ab, cb, h1, h2, h3, h4⟩ := h.ex
  refine ⟨⟨ab, cb, ?_, ?_, h3, fun x hx => ?_⟩, fun c => ?_, h.len⟩
  · show w'.heap[bb]? = _
    rw [hk bb h1.lt h.nb]; exact h1
  · intro hne
    obtain ⟨g, off, rfl, hlt, hc⟩ := h2 hne
    obtain ⟨_, k1, k2, k3⟩ := h4 _ rfl
    refine ⟨g, off, rfl, Nat.lt_of_lt_of_le hlt hs, fun i hi => ?_⟩
    rw [World.cell?_of_block (w := w) (a := ⟨g, off + i, none⟩) (hk g k1 k3)]
    exact hc i hi
  · obtain ⟨k0, k1, k2, k3⟩ := h4 x hx
    exact ⟨k0, by omega, k2, fun c => (hS _ c).elim k3 (fun h => by omega)⟩
  · rcases hS bb c with h5 | h5
    · exact h.nb h5
    · have := h1.lt; omega
theorem BstI.new {lo bb B' : Nat} {S : Nat → Prop} {b : List Int} {w : World} {v0 : Value} {ar : Option Addr} {cr : Nat} (h0 : RowAt1 w bb 22 v0) (ho : Own B' w ar cr b) (hb : bb < B') (hS : ∀ k, S k → k < B') (hn : ¬ S bb) (hl : b.length ≤ 256) (hlo : lo ≤ B') : BstI lo bb S b (w.setCell ⟨bb, 0, none⟩ (.slice ar b.length cr)) := by
  have ho2 : Own B' (w.setCell ⟨bb, 0, none⟩ (.slice ar b.length cr)) ar cr b := ownsRow_setCell_below ho (show bb < B' from hb) _
  refine ⟨⟨ar, cr, h0.store, ho2.reads, ho2.cap, fun x hx => ?_⟩, hn, hl⟩
  have h := ho2.blk x hx
  exact ⟨by omega, h.2, by omega, fun c => by have := hS _ c; omega⟩

/-- what the search finds in memory, whenever -/
structure CnOk (B bp : Nat) (W : World) (n : Nat) (L : List Nat) (aa : Option Addr) (capa ba bb bf : Nat) : Prop where
  n8 : n ≤ 8
  hbp : bp < B
  hbb : bb < B
  hne : bp ≠ bb
  len : L.length ≤ 256
  lt : ∀ b, b ∈ L → b < bit n
  ca : ∀ v : Off B (fun k => k = bp ∨ k = bb) W, v.val.cell? ⟨ba, 0, none⟩ = some (.int .i64 n)
  ca1 : ∀ v : Off B (fun k => k = bp ∨ k = bb) W, v.val.cell? ⟨ba, 1, none⟩ = some (.slice aa L.length capa)
  li : ∀ v : Off B (fun k => k = bp ∨ k = bb) W, IntsAt v.val.heap.size v.val aa (ints L)
  cf : ∀ v : Off B (fun k => k = bp ∨ k = bb) W, v.val.cell? ⟨bf, 0, none⟩ = some (.func (.func 28) #[] #[.pointer (some ⟨bp, 0, none⟩), .pointer (some ⟨ba, 0, none⟩), .pointer (some ⟨bb, 0, none⟩), .pointer (some ⟨bf, 0, none⟩)])
/-- what the search hands back -/
def CanPost (lo B bp : Nat) (W : World) (n bb : Nat) (L pre : List Nat) (b0 : List Int) (e : Ending) (w' : World) : Prop :=
  e = .returned (.tuple #[]) ∧ ∃ v' : Off B (fun k => k = bp ∨ k = bb) W, w' = v'.val ∧ ∃ ad cp, PAt B bp v'.val ad cp pre ∧ ∃ b1, BstI lo bb (fun k => k = bp ∨ ownBlk ad = some k) b1 v'.val ∧ Bst (fun q => ren q L) (Ext n pre) b0 b1

set_option maxRecDepth 100000 in
set_option maxHeartbeats 20000000 in
theorem c_canFrom (lo B bp : Nat) (hlo : lo ≤ B) (W : World) (n : Nat) (L : List Nat) (aa : Option Addr) (capa ba bb bf : Nat) (H : CnOk B bp W n L aa capa ba bb bf) :
    ∀ d (pre : List Nat) (b0 : List Int) (ad : Option Addr) (cp : Nat) (v : Off B (fun k => k = bp ∨ k = bb) W), Pre n pre → pre.length + d = n → PAt B bp v.val ad cp pre → BstI lo bb (fun k => k = bp ∨ ownBlk ad = some k) b0 v.val →
    Calls Try.prog 28 #[.pointer (some ⟨bp, 0, none⟩), .pointer (some ⟨ba, 0, none⟩), .pointer (some ⟨bb, 0, none⟩), .pointer (some ⟨bf, 0, none⟩)] v.val (CanPost lo B bp W n bb L pre b0) := by
  have hn8 := H.n8
  have hbn := bit_le n hn8
  have hbp := H.hbp
  have hbb := H.hbb
  have HH := Lib.hid H
  have hp1 : ∀ (args : Array Value) (w : World), (callFunc 28 args).run Try.prog w = .ok (.enter 28 args) w := fun _ _ => by kernel_rfl
  have hfl : ∀ (x y : Value) (w : World), (Instr.field 24 (.agg #[x, y]) 1).run Try.prog w = .ok y w := fun _ _ _ => by kernel_rfl
  clear H
  intro d
  induction d with
  | zero =>
    intro pre b0 ad cp v hpre hlen hP hI
    have hpl : pre.length = n := by omega
    have HP0 := Lib.hid hP
    have HI0 := Lib.hid hI
    have Hpm := Lib.hid (hpre.pm hpl)
    have c0 : v.val.cell? ⟨bp, 0, none⟩ = some (.slice ad n cp) := by rw [← hpl]; exact hP.1.c0
    have q0 := HH.out.ca v
    have q1 := HH.out.ca1 v
    have dd : ((n : Int) == (n : Int)) = true := by simp
    have hLl := HH.out.len
    have hvB := v.base
    have KR : Hid (Calls Try.prog 9 #[.agg #[.int .i64 n, .slice aa L.length capa], .slice ad n cp] v.val (RetP v.val.heap.size v.val (MatO v.val.heap.size n (ren pre L)))) := Lib.hid (by
      have h1 := c_refRenamed (Later.self v.val) (n : Int) L pre (fun b hb => by rw [hpl]; exact HH.out.lt b hb) (by omega) aa ad capa cp (HH.out.li v) hP.2.reads (fun i hi => by have := Hpm.out.lt i (by omega); omega) (by omega)
      rwa [hpl] at h1)
    obtain ⟨ab, cb, r1, r2, r3, r4⟩ := hI.ex
    have hb0 := hI.len
    have hRl : (ren pre L).length ≤ 256 := by rw [ren_len]; exact hLl
    have t0 : ∀ y : Later v.val.heap.size v.val, y.val.cell? ⟨bb, 0, none⟩ = some (.slice ab b0.length cb) := fun y => (r1.keep y.below).c0
    have t1 : ∀ y : Later v.val.heap.size v.val, y.val.frozen? ⟨bb, 0, none⟩ = false := fun y => (r1.keep y.below).frozen
    have KC : Hid (∀ (y : Later v.val.heap.size v.val) (ar : Option Addr) (cr : Nat), IntsAt y.val.heap.size y.val ar (ren pre L) → Calls Try.prog 29 #[.slice ar (ren pre L).length cr, .slice ab b0.length cb] y.val (Ret y.val.heap.size y.val (.int .i64 (lexc (ren pre L) b0)))) := Lib.hid (fun y ar cr h => c_slCompare (Later.self y.val) (ren pre L) b0 ar ab cr cb h (r2.to y) (by omega) (by omega))
    have HR1 := Lib.hid r1
    have HOne := Lib.hid (Bst.one (f := fun q => ren q L) (S := Ext n pre) (p := pre) (ext_leaf Hpm.out) b0)
    have HSb : Hid (∀ k, k = bp ∨ ownBlk ad = some k → k < v.val.heap.size) := Lib.hid (fun k hk => by
      rcases hk with rfl | hk
      · omega
      · exact (hP.blk k hk).2)
    have HNb := Lib.hid hI.nb
    clear r1 r2 r3 r4 hP hI hpre hpl hlen
    generalize hX : ren pre L = X at *
    have HX := Lib.hid hX
    clear hX
    have HOn2 := Lib.hid HOne.out
    clear HOne
    go_enter Try.func28, Try.ntmps28
    generalize hr : lexc X b0 = r at *
    clear hr
    rcases ilt r 0 with ⟨g1, d1⟩ | ⟨g1, d1⟩
    · have HOn3 : Hid (Bst (fun q => ren q L) (Ext n pre) b0 X) := Lib.hid (by have := HOn2.out; rwa [if_pos g1] at this)
      clear HOn2 g1
      go_wp2_with (first | (go_at_call 9; (with_reducible refine (KR.out).mono ?_); rintro e _ ⟨_, rfl, ⟨ar, cr, rfl, hO⟩, y, rfl⟩; have HO := Lib.hid hO; clear hO; have KC1 := Lib.hid (KC.out y ar cr HO.out.reads); have t2 := t0 y) | (go_at_call 29; (with_reducible refine (KC1.out).mono ?_); rintro e _ ⟨rfl, y2, rfl⟩; have t3 : y2.val.cell? ⟨bb, 0, none⟩ = some (.slice ab b0.length cb) := t0 (y.up y2); have t4 : y2.val.frozen? ⟨bb, 0, none⟩ = false := t1 (y.up y2)) | fail)
      refine bodyPost_ret (v := .tuple #[]) (by kernel_rfl) rfl ?_
      refine ⟨rfl, (v.up (y.up y2)).store bb 0 (.inr rfl) _, rfl, ad, cp, ?_, X, ?_, HOn3.out⟩
      · have h1 := HP0.out.keep (y.up y2).below
        exact ⟨row1_other h1.1 HH.out.hne _, ownsRow_setCell_below h1.2 (show bb < B from hbb) _⟩
      · exact BstI.new (HR1.out.keep (y.up y2).below) (HO.out.keep y2.below) (by omega) HSb.out HNb.out hRl (by omega)
    · have HOn3 : Hid (Bst (fun q => ren q L) (Ext n pre) b0 b0) := Lib.hid (by have := HOn2.out; rwa [if_neg (by omega)] at this)
      clear HOn2 g1
      go_wp2_with (first | (go_at_call 9; (with_reducible refine (KR.out).mono ?_); rintro e _ ⟨_, rfl, ⟨ar, cr, rfl, hO⟩, y, rfl⟩; have HO := Lib.hid hO; clear hO; have KC1 := Lib.hid (KC.out y ar cr HO.out.reads); have t2 := t0 y) | (go_at_call 29; (with_reducible refine (KC1.out).mono ?_); rintro e _ ⟨rfl, y2, rfl⟩) | fail)
      refine bodyPost_ret (v := .tuple #[]) (by kernel_rfl) rfl ?_
      exact ⟨rfl, v.up (y.up y2), rfl, ad, cp, HP0.out.keep (y.up y2).below, b0, HI0.out.keep (y.up y2).below.size (fun k hk _ => (y.up y2).below.block k hk) (fun k h => .inl h), HOn3.out⟩
  | succ d ih =>
    intro pre b0 ad cp v hpre hlen hP hI
    have hpl : pre.length < n := by omega
    have IH := Lib.hid ih
    have c0 : v.val.cell? ⟨bp, 0, none⟩ = some (.slice ad pre.length cp) := hP.1.c0
    have q0 := HH.out.ca v
    have dd : ((pre.length : Int) == (n : Int)) = false := by rw [beq_eq_false_iff_ne]; omega
    have HP0 := Lib.hid hP
    have HI0 := Lib.hid hI
    have Hpre := Lib.hid hpre
    have Hbl := Lib.hid hpl
    have hlp : Hid (pre.length + 1 + d = n) := Lib.hid (by omega)
    obtain ⟨i, hi⟩ : ∃ i, i = pre.length := ⟨_, rfl⟩
    have HLi : Hid (pre.length = i) := Lib.hid hi.symm
    rw [← hi] at hpl c0 dd
    have w0 := IntWalk.i64_in ((n : Int) - 1) (by omega)
    clear hP hI hpre ih hi hlen
    go_enter Try.func28, Try.ntmps28
    go_wp2
    go_loopw [5] (fun kk wr => ∃ (kz : Int) (v : Off B (fun k => k = bp ∨ k = bb) W) (ad : Option Addr) (cp : Nat) (b1 : List Int), -1 ≤ kz ∧ kz < n ∧ kk = .int .i64 kz ∧ wr = v.val ∧ Hid (PAt B bp v.val ad cp pre) ∧ Hid (BstI lo bb (fun k => k = bp ∨ ownBlk ad = some k) b1 v.val) ∧ Hid (Bst (fun q => ren q L) (fun q => Ext n pre q ∧ kz + 1 ≤ ((q.getD pre.length 0 : Nat) : Int)) b0 b1)) (fun kk _ => (intOf kk + 1).toNat)
    case atStart => exact ⟨(n : Int) - 1, v, ad, cp, b0, by omega, by omega, by first | rfl | go_num, rfl, HP0, HI0, Lib.hid (Bst.refl _ (fun q hq => by have := ext_lt Hbl.out hq.1; omega) _)⟩
    case round =>
      clear HP0 HI0 c0 q0 w0 v
      obtain ⟨kz, v, ad, cp, b1, hk1, hk2, rfl, rfl, HP, HI, HBs⟩ := hrel
      rcases ile 0 kz with ⟨g1, d1⟩ | ⟨g1, d1⟩
      · obtain ⟨K, rfl⟩ := Int.eq_ofNat_of_zero_le g1
        have hlt : K < n := by omega
        have x1 : v.val.cell? ⟨bp, 0, none⟩ = some (.slice ad i cp) := by rw [← HLi.out]; exact HP.out.1.c0
        have w1 := IntWalk.i64_in ((K : Int) - 1) (by omega)
        have KCo : Hid (Calls Try.prog 23 #[.slice ad i cp, .int .i64 K] v.val (Ret v.val.heap.size v.val (.bool (pre.contains K)))) := Lib.hid (by
          have h1 := c_contains (Later.self v.val) (ints pre) (K : Int) ad cp HP.out.2.reads (by rw [ints_len, HLi.out]; omega)
          rw [mem_ints_contains, ints_len, HLi.out] at h1
          exact h1)
        have HBk : Hid (Bst (fun q => ren q L) (fun q => Ext n pre q ∧ K + 1 ≤ q.getD pre.length 0) b0 b1) := Lib.hid (HBs.out.congr (fun q => ⟨fun h => ⟨h.1, by have := h.2; omega⟩, fun h => ⟨h.1, by have := h.2; omega⟩⟩))
        have HCv : Hid (∀ b2, Bst (fun q => ren q L) (fun q => Ext n pre q ∧ K ≤ q.getD pre.length 0) b0 b2 → Bst (fun q => ren q L) (fun q => Ext n pre q ∧ ((K : Int) - 1) + 1 ≤ ((q.getD pre.length 0 : Nat) : Int)) b0 b2) := Lib.hid (fun b2 h => h.congr (fun q => ⟨fun h => ⟨h.1, by have := h.2; omega⟩, fun h => ⟨h.1, by have := h.2; omega⟩⟩))
        clear HBs
        generalize hct : pre.contains K = ct at *
        have HCt := Lib.hid hct
        clear hct
        cases ct
        case true =>
          have HBn := Lib.hid (HCv.out b1 (bst_dn_no Hbl.out HBk.out HCt.out))
          clear HBk HCv HCt
          go_wp2_with (first | (go_at_call 23; (with_reducible refine (KCo.out).mono ?_); rintro e _ ⟨rfl, y, rfl⟩) | fail)
          go_roundw
          case rel => exact ⟨(K : Int) - 1, v.up y, ad, cp, b1, by omega, by omega, by first | rfl | go_num, by first | rfl | trivial, Lib.hid (HP.out.keep y.below), Lib.hid (HI.out.keep y.below.size (fun k hk _ => y.below.block k hk) (fun k h => .inl h)), HBn⟩
          case measure => first | (simp [intOf]; done) | (simp [intOf]; omega)
        go_upto_region 8 with (first | (go_at_call 23; (with_reducible refine (KCo.out).mono ?_); rintro e _ ⟨rfl, y, rfl⟩) | fail)
        obtain ⟨v2, hv2⟩ : ∃ v2 : Off B (fun k => k = bp ∨ k = bb) W, v2.val = y.val := ⟨v.up y, rfl⟩
        have HPy : Hid (PAt B bp v2.val ad cp pre) := Lib.hid (by rw [hv2]; exact HP.out.keep y.below)
        have HIy : Hid (BstI lo bb (fun k => k = bp ∨ ownBlk ad = some k) b1 v2.val) := Lib.hid (by rw [hv2]; exact HI.out.keep y.below.size (fun k hk _ => y.below.block k hk) (fun k h => .inl h))
        rw [← hv2]
        clear hv2 x1 HP HI KCo
        have z0 : v2.val.cell? ⟨bp, 0, none⟩ = some (.slice ad i cp) := by rw [← HLi.out]; exact HPy.out.1.c0
        have z1 : ∀ y : Later B v2.val, y.val.cell? ⟨bp, 0, none⟩ = some (.slice ad i cp) := fun y => by rw [y.cell (a := ⟨bp, 0, none⟩) hbp]; exact z0
        have z2 : ∀ y : Later B v2.val, y.val.frozen? ⟨bp, 0, none⟩ = false := fun y => by rw [y.below.frozen (p := ⟨bp, 0, none⟩) hbp]; exact HPy.out.1.frozen
        have hvB := v2.base
        go_upto_region 9 with (first | (at_builtin; refine wpList_pushK (B := B) (W := v2.val) (w := v2.val) bp (Below.refl _ _) hvB rfl _ _ rfl (ints pre) i (by rw [ints_len]; exact HLi.out) ad cp (K : Int) rfl HPy.out.2 rfl (by omega) ?_; intro u2 g2 cp2 hown hkp hnb hbl) | fail)
        obtain ⟨v3, hv3⟩ : ∃ v3 : Off B (fun k => k = bp ∨ k = bb) W, v3.val = u2.val.setCell ⟨bp, 0, none⟩ (.slice (some ⟨g2, 0, none⟩) (i + 1) cp2) := ⟨(v2.past u2.val hbl).store bp 0 (.inl rfl) _, rfl⟩
        have HP3 : Hid (PAt B bp v3.val (some ⟨g2, 0, none⟩) cp2 (pre ++ [K])) := Lib.hid (by
          have h1 := HPy.out.pushed hbp hbl hown
          rw [HLi.out] at h1
          rw [hv3]; exact h1)
        have HI3 : Hid (BstI lo bb (fun k => k = bp ∨ ownBlk (some ⟨g2, 0, none⟩) = some k) b1 v3.val) := Lib.hid (by
          rw [hv3]
          have hkk := hkp.trans hnb (kept_store u2.val 0 (.slice (some ⟨g2, 0, none⟩) (i + 1) cp2))
          refine HIy.out.keep hkk.size (fun k hk hS => hkk.block k hk (fun e => hS (.inl e)) (fun e => hS (.inr e))) (fun k hk => ?_)
          rcases hk with rfl | hk
          · exact .inl (.inl rfl)
          · rcases hnb with e | ⟨x, e, hx⟩
            · exact .inl (.inr (by rw [← e]; exact hk))
            · right
              have h1 : some x = some k := by rw [← e]; exact hk
              have : x = k := by simpa using h1
              omega)
        have HSn := Lib.hid (Hpre.out.snoc hlt HCt.out)
        have HLn : Hid ((pre ++ [K]).length = i + 1) := Lib.hid (by rw [List.length_append, HLi.out]; rfl)
        rw [← hv3]
        clear hv3 hown hkp hnb hbl HPy HIy z0 z1 z2 hvB
        have K1 : Hid (Calls Try.prog 28 #[.pointer (some ⟨bp, 0, none⟩), .pointer (some ⟨ba, 0, none⟩), .pointer (some ⟨bb, 0, none⟩), .pointer (some ⟨bf, 0, none⟩)] v3.val (CanPost lo B bp W n bb L (pre ++ [K]) b1)) := Lib.hid (IH.out (pre ++ [K]) b1 (some ⟨g2, 0, none⟩) cp2 v3 HSn.out (by rw [HLn.out]; have := hlp.out; rw [HLi.out] at this; exact this) HP3.out HI3.out)
        have s0 := HH.out.cf v3
        clear HP3 HI3
        go_upto_region 10 with (first | (go_at_call 28; (with_reducible refine (K1.out).mono ?_); rintro e _ ⟨rfl, v5, rfl, ad4, cp3, hP4, b2, hI4, hB4⟩) | fail)
        obtain ⟨g3, hg3⟩ := own_some hP4.2 (by rw [ints_snoc]; simp)
        subst hg3
        have HP5 := Lib.hid hP4
        have HI5 := Lib.hid hI4
        have HBn := Lib.hid (HCv.out b2 (bst_dn Hbl.out HBk.out hB4))
        clear hP4 hI4 hB4 s0 K1 HBk HCv
        have hroom : i + 1 ≤ cp3 := by
          have h1 := HP5.out.2.room
          rw [ints_len, HLn.out] at h1
          exact h1
        have e1 : decide ((i : Int) ≤ (cp3 : Int)) = true := decide_eq_true (by omega)
        have e2 : decide (i ≤ cp3) = true := decide_eq_true (by omega)
        have e3 : i ≤ cp3 := by omega
        have z0 : v5.val.cell? ⟨bp, 0, none⟩ = some (.slice (some ⟨g3, 0, none⟩) (i + 1) cp3) := by
          have h1 := HP5.out.1.c0
          rwa [HLn.out] at h1
        have z2 : v5.val.frozen? ⟨bp, 0, none⟩ = false := HP5.out.1.frozen
        have HP6 : Hid (PAt B bp (v5.val.setCell ⟨bp, 0, none⟩ (.slice (some ⟨g3, 0, none⟩) i cp3)) (some ⟨g3, 0, none⟩) cp3 pre) := Lib.hid (by
          have h1 := HP5.out.cut hbp
          rwa [HLi.out] at h1)
        have w5 : IntKind.i64.wrap (((i + 1 : Nat) : Int) - 1) = (i : Int) := by rw [IntWalk.i64_in _ (by omega)]; omega
        have w6 : IntKind.i64.wrap ((i : Int) + 1 - 1) = (i : Int) := by rw [IntWalk.i64_in _ (by omega)]; omega
        have HI6 : Hid (BstI lo bb (fun k => k = bp ∨ ownBlk (some ⟨g3, 0, none⟩) = some k) b2 (v5.val.setCell ⟨bp, 0, none⟩ (.slice (some ⟨g3, 0, none⟩) i cp3))) := Lib.hid (HI5.out.keep (kept_store (b := bp) (o := none) v5.val 0 (.slice (some ⟨g3, 0, none⟩) i cp3)).size (fun k hk hS => (kept_store (b := bp) (o := none) v5.val 0 (.slice (some ⟨g3, 0, none⟩) i cp3)).block k hk (fun e => hS (.inl e)) (fun e => by cases e)) (fun k hk => .inl hk))
        clear HP5 HI5
        go_wp2
        go_roundw
        case rel => exact ⟨(K : Int) - 1, v5.store bp 0 (.inl rfl) _, some ⟨g3, 0, none⟩, cp3, b2, by omega, by omega, by first | rfl | go_num, by first | rfl | trivial, HP6, HI6, HBn⟩
        case measure => first | (simp [intOf]; done) | (simp [intOf]; omega)
      · have hkz : kz = -1 := by omega
        have HFin : Hid (Bst (fun q => ren q L) (Ext n pre) b0 b1) := Lib.hid (bst_dn_all (HBs.out.congr (fun q => ⟨fun h => ⟨h.1, Nat.zero_le _⟩, fun h => ⟨h.1, by omega⟩⟩)))
        clear HBs hkz
        go_wp2
        go_end0
        exact ⟨rfl, v, rfl, ad, cp, HP.out, b1, HI.out, HFin.out⟩
end Go.Proofs.Ytdcdhdlklppalaa
