
/-
  rotaref.FirstWays's inner function value: a way is noted down, and on to the next.
  rotaref.FirstWays$1$1: its walk.
-/
import Derived.Test.YtnhpefcjgaimeaaPk34
import Derived.Test.YtnhpefcjgaimeaaPk40
namespace Go.Proofs.Ytnhpefcjgaimeaa
open Go.RowKit
set_option linter.unusedVariables false

/-- what these function values give back -/
def RPost (bo : Nat) (w : World) (res : Option Rws) (pre : Rws) (e : Ending) (w' : World) : Prop :=
  Kept bo none w w' ∧ ((∃ r ad cp, res = some r ∧ e = .returned (.bool true) ∧ OutR bo w' ad (pre ++ r).length cp (pre ++ r)) ∨ (res = none ∧ e = .returned (.bool false) ∧ ∃ ad len cp, OutR bo w' ad len cp pre))
theorem RPost.from {bo : Nat} {w w1 : World} {res : Option Rws} {pre : Rws} {e : Ending} {w' : World} (h : RPost bo w1 res pre e w') (hk : Kept bo none w w1) : RPost bo w res pre e w' := ⟨hk.trans (NewB.refl _ _) h.1, h.2⟩
theorem row_of_new {w' : World} {b : Nat} {row : List Nat} {ad : Option Addr} {cp B : Nat} (hb : b < B) (h : Own B w' ad cp (ints row)) : RowV w' b none row ad cp where
  nil := h.cap
  ints := h.reads
  off := fun a ha => by
    subst ha
    rcases h.2 with ⟨e, _⟩ | ⟨g, c, cur, e, hbg, hh, _⟩
    · cases e
    · simp only [Value.slice.injEq, Option.some.injEq] at e
      have e1 := e.1
      subst e1
      have h1 : g < w'.heap.size := (Array.getElem?_eq_some_iff.1 hh).1
      exact ⟨h1, by show g ≠ b; omega, by simp⟩

/-- append of some numbers to nil, at a step of a region that draws -/
theorem step_newI {w : World} {ops : Array Oper} {o : Oper} {a : Act} {K : Act → World → Prop} {Q : Exit → Act → World → Prop} {E : Prop} (hgd : o.guard = none) (s x : Operand)
    (ho : o.op = .call { callee := .builtin .append, args := #[s, x], argTypes := #[43, 43] })
    (xs : List Int) (b off cx : Nat) (hs : a.eval s = .slice none 0 0) (hx : a.eval x = .slice (some ⟨b, off, none⟩) xs.length cx) (hI : IntsAt w.heap.size w (some ⟨b, off, none⟩) xs) (hne : 0 < xs.length) (hlen : xs.length ≤ 1048576)
    (h : ∀ (u' : Later w.heap.size w) (g cap' : Nat), Own w.heap.size u'.val (some ⟨g, 0, none⟩) cap' xs → K (a.put o.dst (.slice (some ⟨g, 0, none⟩) xs.length cap')) u'.val) :
    if Region.wanted o (yielded ops a.tmps) = true then Oper.wp Try.prog o a w K Q else E := by
  obtain ⟨i0, hi, hz0, hz1, hz2⟩ := info_parts info_int
  obtain ⟨b', off', e, hlt, hc⟩ := hI (by intro e; rw [e] at hne; simp at hne)
  simp only [Option.some.injEq, Addr.mk.injEq] at e
  obtain ⟨rfl, rfl, _⟩ := e
  refine step_append_lies _ hgd s x 43 ho w.heap.size 3 i0 (.int .i64 0) 1 8 Try.underlying43 hi hz0 hz1 hz2 rfl (by decide) (.slice none 0 0) 0 [] hs (World.ownsRow_nil _ _ _ _) ⟨b, off, none⟩ xs.length cx (xs.map (Value.int .i64)) hx (by simp) ?_ ?_ hne (by unfold maxLen; omega) (by omega) (Nat.le_refl _) _ rfl ?_
  · intro j v hj
    have hjl : j < xs.length := by
      have := (List.getElem?_eq_some_iff.1 hj).1
      simpa using this
    rw [show (⟨b, off, none⟩ : Addr).add j = ⟨b, off + j, none⟩ by unfold Addr.add; split <;> simp_all]
    rw [hc j hjl]
    rw [List.getElem?_map, List.getElem?_eq_getElem hjl] at hj
    rw [List.getD_eq_getElem?_getD, List.getElem?_eq_getElem hjl]
    simpa using hj
  · intro v hv
    rw [List.mem_map] at hv
    obtain ⟨z, _, rfl⟩ := hv
    rfl
  · intro g cap' w' h2 h3 _ _
    have hO : Own w.heap.size w' (some ⟨g, 0, none⟩) cap' xs := by
      show w'.ownsRow w.heap.size 3 1 (.slice (some ⟨g, 0, none⟩) xs.length cap') xs.length _
      simpa using h2
    have hbel : Below w.heap.size w w' := ⟨h3.os, h3.tape, h3.output, h3.size, fun k hk => h3.block k hk (by simp [Value.ownBlock])⟩
    have := h ⟨w', hbel, h3.size⟩ g cap' hO
    simpa using this

end Go.Proofs.Ytnhpefcjgaimeaa

namespace Go.Proofs.Ytnhpefcjgaimeaa
open Go.RowKit
set_option linter.unusedVariables false

/-- the next one's answer, wherever it is called -/
def NextR (bo : Nat) (W : World) (k n : Nat) (nx : Nat → Option Rws) (c1 c2 c3 c4 c5 : Value) : Prop := ∀ (w : World) (gone : Nat) (pre : Rws) (ad : Option Addr) (len cp : Nat), Kept bo none W w → OutR bo w ad len cp pre → pre.length = k → len = k → gone < bit n → Calls Try.prog 18 #[.int .i64 k, .int .i64 gone, c1, c2, c3, c4, c5] w (RPost bo w (nx gone) pre)

/-- with the way noted down -/
def DoCut (bo : Nat) (w : World) (pre : Rws) (way : List Nat) (ad : Option Addr) (cpw : Nat) (w' : World) : Prop := Kept bo none w w' ∧ RowV w' bo none way ad cpw ∧ ∃ g cp', OutR bo w' (some ⟨g, 0, none⟩) (pre.length + 1) cp' (pre ++ [way])

set_option maxRecDepth 100000 in
set_option maxHeartbeats 8000000 in
theorem c_doW (bo : Nat) (W : World) (bk bgn bn k n gone : Nat) (nx : Nat → Option Rws) (c1 c2 c3 c4 c5 : Value) (hn : n ≤ 7) (hk : k ≤ 100) (hg : gone < bit n)
    (hlt : bo < W.heap.size ∧ bk < W.heap.size ∧ bgn < W.heap.size ∧ bn < W.heap.size) (hne : bk ≠ bo ∧ bgn ≠ bo ∧ bn ≠ bo)
    (hck : W.cell? ⟨bk, 0, none⟩ = some (.int .i64 k)) (hcg : W.cell? ⟨bgn, 0, none⟩ = some (.int .i64 gone)) (hcn : W.cell? ⟨bn, 0, none⟩ = some (.func (.func 18) #[] #[c1, c2, c3, c4, c5]))
    (hNX : NextR bo W (k + 1) n nx c1 c2 c3 c4 c5)
    (w : World) (hw : Kept bo none W w) (pre : Rws) (ad : Option Addr) (len cp : Nat) (hO : OutR bo w ad len cp pre) (hpk : pre.length = k) (way : List Nat) (b1 off1 cpw : Nat) (hR : RowV w bo none way (some ⟨b1, off1, none⟩) cpw) (h0 : 0 < way.length) (h8 : way.length ≤ 8) (hwn : ∀ j, j < way.length → way.getD j 0 < n) :
    Calls Try.prog 21 #[.slice (some ⟨b1, off1, none⟩) way.length cpw, .pointer (some ⟨bo, 0, none⟩), .pointer (some ⟨bk, 0, none⟩), .pointer (some ⟨bn, 0, none⟩), .pointer (some ⟨bgn, 0, none⟩)] w (RPost bo w ((nx (gone ||| prfT way way.length)).map (fun r => way :: r)) pre) := by
  have hbn := bit_le n (by omega)
  have qk : ∀ w, Kept bo none W w → w.cell? ⟨bk, 0, none⟩ = some (.int .i64 k) := fun w h => by rw [h.cell hlt.2.1 hne.1 (by simp)]; exact hck
  have qg : ∀ w, Kept bo none W w → w.cell? ⟨bgn, 0, none⟩ = some (.int .i64 gone) := fun w h => by rw [h.cell hlt.2.2.1 hne.2.1 (by simp)]; exact hcg
  have qn : ∀ w, Kept bo none W w → w.cell? ⟨bn, 0, none⟩ = some (.func (.func 18) #[] #[c1, c2, c3, c4, c5]) := fun w h => by rw [h.cell hlt.2.2.2 hne.2.2 (by simp)]; exact hcn
  have HK := Lib.hid hw
  have HO := Lib.hid hO
  have HR := Lib.hid hR
  have HNX := Lib.hid hNX
  have HWN := Lib.hid hwn
  have HP := Lib.hid hpk
  have hbw : bo < w.heap.size := Nat.lt_of_lt_of_le hlt.1 hw.size
  have hp1 : ∀ (args : Array Value) (w : World), (callFunc 18 args).run Try.prog w = .ok (.enter 18 args) w := fun _ _ => by kernel_rfl
  have HL : Hid (k ≤ len ∧ len ≤ cp) := Lib.hid ⟨by have := hO.le; omega, hO.room⟩
  have HIw : Hid (IntsAt w.heap.size w (some ⟨b1, off1, none⟩) (ints way)) := Lib.hid hR.ints
  obtain ⟨q, hq⟩ : ∃ q, way.length = q := ⟨_, rfl⟩
  have HQ : Hid ((ints way).length = q) := Lib.hid (by rw [ints_len]; exact hq)
  clear hw hO hR hNX hwn hck hcg hcn hpk
  have HKd : Hid (Kept bo none W w.drew) := Lib.hid (HK.out.trans (NewB.refl _ _) (Kept.of (Below.refl _ _).drew : Kept bo none w w.drew))
  have HOd : Hid (OutR bo w.drew ad len cp pre) := Lib.hid (HO.out.keep (Below.refl _ _).drew)
  have HKy : Hid (∀ y : Later w.drew.heap.size w.drew, Kept bo none W y.val) := Lib.hid (fun y => HKd.out.trans (NewB.refl _ _) (Kept.of y.below))
  have HOy : Hid (∀ y : Later w.drew.heap.size w.drew, OutR bo y.val ad len cp pre) := Lib.hid (fun y => HOd.out.keep y.below)
  have HRn : Hid (∀ (y : Later w.drew.heap.size w.drew) (g cap' : Nat), Own w.drew.heap.size y.val (some ⟨g, 0, none⟩) cap' (ints way) → RowV y.val bo none way (some ⟨g, 0, none⟩) cap') := Lib.hid (fun y g cap' h => row_of_new (B := w.drew.heap.size) hbw h)
  have s0 : w.drew.cell? ⟨bo, 0, none⟩ = some (.slice ad len cp) ∧ w.drew.cell? ⟨bk, 0, none⟩ = some (.int .i64 k) := ⟨HOd.out.box.c0, qk _ HKd.out⟩
  have s1 : ∀ y : Later w.drew.heap.size w.drew, y.val.cell? ⟨bo, 0, none⟩ = some (.slice ad len cp) ∧ y.val.cell? ⟨bk, 0, none⟩ = some (.int .i64 k) := fun y => ⟨(HOy.out y).box.c0, qk _ (HKy.out y)⟩
  have s2 : ∀ (y : Later w.drew.heap.size w.drew) (o : Obj), (y.val.alloc o).cell? ⟨bo, 0, none⟩ = some (.slice ad len cp) ∧ (y.val.alloc o).cell? ⟨bk, 0, none⟩ = some (.int .i64 k) := fun y o => s1 (y.alloc o)
  have HPe : Hid (∀ ad : Option Addr, Value.slice ad k k = .slice ad pre.length pre.length) := Lib.hid (fun ad => by rw [HP.out])
  have HQe : Hid (Value.slice (some ⟨b1, off1, none⟩) q cpw = .slice (some ⟨b1, off1, none⟩) (ints way).length cpw) := Lib.hid (by rw [HQ.out])
  have hpl : pre.length + 1 ≤ 4294967296 := by rw [HP.out]; omega
  have hil : 0 < (ints way).length ∧ (ints way).length ≤ 1048576 := by rw [HQ.out]; omega
  have HId : Hid (IntsAt w.drew.heap.size w.drew (some ⟨b1, off1, none⟩) (ints way)) := Lib.hid HIw.out
  have s3 : ∀ (y : Later w.drew.heap.size w.drew) (p : PushR bo y.val pre way), p.val.cell? ⟨bo, 0, none⟩ = some (.slice ad len cp) ∧ p.val.cell? ⟨bk, 0, none⟩ = some (.int .i64 k) ∧ p.val.frozen? ⟨bo, 0, none⟩ = false := fun y p => by
    have h := s1 (y.up ⟨p.val, p.below, p.below.size⟩)
    exact ⟨h.1, h.2, ((HOy.out y).box.keep p.below).frozen⟩
  have HFin : Hid (∀ (y : Later w.drew.heap.size w.drew) (p : PushR bo y.val pre way), DoCut bo w pre way (some ⟨b1, off1, none⟩) cpw (p.val.setCell ⟨bo, 0, none⟩ (.slice (some ⟨p.g, 0, none⟩) (pre.length + 1) p.cp'))) := Lib.hid (fun y p => by
    have hk : Kept bo none w (p.val.setCell ⟨bo, 0, none⟩ (.slice (some ⟨p.g, 0, none⟩) (pre.length + 1) p.cp')) := ((Kept.of (Below.refl _ _).drew : Kept bo none w w.drew).trans (NewB.refl _ _) (Kept.of y.below)).trans (NewB.refl _ _) (p.kept _)
    exact ⟨hk, HR.out.kept hk (NewB.refl _ _), p.g, p.cp', p.out⟩)
  have HC : Hid ((ad = none ∧ len = 0 ∧ cp = 0 ∧ k = 0) ∨ ∃ g, ad = some ⟨g, 0, none⟩) := Lib.hid (by
    cases had : ad with
    | none =>
      have := HO.out.nil had
      have := HL.out
      exact .inl ⟨rfl, by omega, by omega, by omega⟩
    | some x =>
      obtain ⟨g, rfl⟩ := HO.out.base x had
      exact .inr ⟨g, rfl⟩)
  rw [hq]
  clear HIw hq hbw
  go_enter Try.func21, Try.ntmps21
  go_upto_region 1 with fail
  go_cut [14] from 7 to 14 (fun x_ w_ => DoCut bo w pre way (some ⟨b1, off1, none⟩) cpw w_)
  case first => as_aux_lemma =>
    have hl := HL.out
    clear HL HO HR HNX HWN HK HKd HOd qk qg qn
    rcases HC.out with ⟨rfl, rfl, rfl, rfl⟩ | ⟨g, rfl⟩
    · clear hl HC
      go_region_law (first | ((refine step_newI (w := w.drew) (by rfl) _ _ (by rfl) (ints way) b1 off1 cpw (by rfl) (Eq.trans (by rfl) HQe.out) HId.out hil.1 hil.2 ?_; intro y gy cy hown)) | ((refine step_outR (w := y.val) (HOy.out y) (HRn.out y gy cy hown) (by rfl) _ _ (by rfl) (Eq.trans (by rfl) (HPe.out none)) (by rfl) hpl ?_; intro p; have s4 := s3 y p)))
      all_goals
        go_wp2
        go_meet
        case rel => exact HFin.out y p
    · have e0 : k ≤ cp := by omega
      clear HC hl
      go_region_law (first | ((refine step_newI (w := w.drew) (by rfl) _ _ (by rfl) (ints way) b1 off1 cpw (by rfl) (Eq.trans (by rfl) HQe.out) HId.out hil.1 hil.2 ?_; intro y gy cy hown)) | ((refine step_outR (w := y.val) (HOy.out y) (HRn.out y gy cy hown) (by rfl) _ _ (by rfl) (Eq.trans (by rfl) (HPe.out (some ⟨g, 0, none⟩))) (by rfl) hpl ?_; intro p; have s4 := s3 y p)))
      all_goals
        go_wp2
        go_meet
        case rel => exact HFin.out y p
  case rest => as_aux_lemma =>
    obtain ⟨hk1, hR1, pg, pcp, hO1⟩ := hcut
    have hql : way.length = q := by rw [← ints_len]; exact HQ.out
    clear s0 s1 s2 s3 HFin HC HRn HOy HKy HOd HKd HL HId HO HR HPe HQe
    have HKc : Hid (Kept bo none W wc) := Lib.hid (HK.out.trans (NewB.refl _ _) hk1)
    have HKd : Hid (Kept bo none W wc.drew) := Lib.hid (HKc.out.trans (NewB.refl _ _) (Kept.of (Below.refl _ _).drew))
    have HKy : Hid (∀ y : Later wc.drew.heap.size wc.drew, Kept bo none W y.val) := Lib.hid (fun y => HKd.out.trans (NewB.refl _ _) (Kept.of y.below))
    have HKw : Hid (∀ y : Later wc.drew.heap.size wc.drew, Kept bo none w y.val) := Lib.hid (fun y => (hk1.trans (NewB.refl _ _) (Kept.of (Below.refl _ _).drew)).trans (NewB.refl _ _) (Kept.of y.below))
    have HOy : Hid (∀ y : Later wc.drew.heap.size wc.drew, OutR bo y.val (some ⟨pg, 0, none⟩) (pre.length + 1) pcp (pre ++ [way])) := Lib.hid (fun y => (hO1.keep (Below.refl _ _).drew).keep y.below)
    have HIc : Hid (IntsAt wc.drew.heap.size wc.drew (some ⟨b1, off1, none⟩) (ints way)) := Lib.hid hR1.ints
    have hpt : prfT way q < bit n := prfT_lt (q := q) (fun j hj => HWN.out j (by omega)) q (Nat.le_refl _)
    have hgw : gone ||| prfT way q < bit n := or_lt_bit hg hpt
    have KS : Hid (Calls Try.prog 22 #[.slice (some ⟨b1, off1, none⟩) q cpw] wc.drew (Ret wc.drew.heap.size wc.drew (.int .i64 (prfT way q)))) := Lib.hid (c_setOf (Later.self wc.drew) way _ cpw q HIc.out (by omega) (by omega) (fun j hj => by have := HWN.out j (by omega); omega))
    have o1 := i64_or gone (prfT way q) (by omega) (by omega)
    have KN : Hid (∀ y : Later wc.drew.heap.size wc.drew, Calls Try.prog 18 #[.int .i64 ((k : Int) + 1), .int .i64 ((gone ||| prfT way q : Nat) : Int), c1, c2, c3, c4, c5] y.val (fun e w' => ∃ bb, e = .returned (.bool bb) ∧ Kept bo none W w' ∧ RPost bo w ((nx (gone ||| prfT way q)).map (fun r => way :: r)) pre (.returned (.bool bb)) w')) := Lib.hid (fun y => by
      have := HNX.out y.val (gone ||| prfT way q) (pre ++ [way]) _ _ _ (HKy.out y) (HOy.out y) (by rw [List.length_append, HP.out]; rfl) (by rw [HP.out]) hgw
      rw [show ((k + 1 : Nat) : Int) = (k : Int) + 1 by omega] at this
      refine this.mono ?_
      rintro e w' ⟨hk, h⟩
      have hkw := (HKw.out y).trans (NewB.refl _ _) hk
      have hkW := (HKy.out y).trans (NewB.refl _ _) hk
      rcases h with ⟨r, ad', cp', h1, rfl, h3⟩ | ⟨h1, rfl, ad', len', cp', h3⟩
      · refine ⟨true, rfl, hkW, hkw, .inl ⟨way :: r, ad', cp', by rw [h1]; rfl, rfl, ?_⟩⟩
        rwa [List.append_assoc] at h3
      · exact ⟨false, rfl, hkW, hkw, .inr ⟨by rw [h1]; rfl, rfl, ad', len', cp', h3.cut⟩⟩)
    have w1 := IntWalk.i64_in ((k : Int) + 1) (by omega)
    have sW : ∀ w', Kept bo none W w' → w'.cell? ⟨bn, 0, none⟩ = some (.func (.func 18) #[] #[c1, c2, c3, c4, c5]) ∧ w'.cell? ⟨bk, 0, none⟩ = some (.int .i64 k) ∧ w'.cell? ⟨bgn, 0, none⟩ = some (.int .i64 gone) := fun w' h => ⟨qn w' h, qk w' h, qg w' h⟩
    have s0 := sW _ HKd.out
    have s1 : ∀ y : Later wc.drew.heap.size wc.drew, _ := fun y => sW _ (HKy.out y)
    clear qn qk qg hk1 hR1 hO1 HK HNX HWN HP HQ HKc HKd HOy HIc
    go_upto_region 2 with fail
    go_region_held3 (fun w' => w'.cell? ⟨bn, 0, none⟩ = some (.func (.func 18) #[] #[c1, c2, c3, c4, c5]) ∧ w'.cell? ⟨bk, 0, none⟩ = some (.int .i64 k) ∧ w'.cell? ⟨bgn, 0, none⟩ = some (.int .i64 gone)) (first | exact s0 | exact s1 y | exact sW _ hkW) (first | (go_at_call 22; ((with_reducible refine (KS.out).mono ?_); rintro e _ ⟨rfl, y, rfl⟩)) | (go_at_call 18; ((with_reducible refine (KN.out y).mono ?_); rintro e w4 ⟨bb, rfl, hkW, hF⟩)))
    all_goals
      go_wp2
      go_ret
      exact hF

end Go.Proofs.Ytnhpefcjgaimeaa
