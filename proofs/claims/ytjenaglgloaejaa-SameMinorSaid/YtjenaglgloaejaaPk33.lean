
/-
  The search for a minor in plain words: what rotaref.Minor tests.
  rotaref.Isomorphic.
-/
import Derived.Test.YtjenaglgloaejaaPk27
import Derived.Test.YtjenaglgloaejaaPk39
import Derived.Test.YtjenaglgloaejaaPk23
namespace Go.Proofs.Ytjenaglgloaejaa
open Go.RowKit
set_option linter.unusedVariables false

theorem iso_same {n1 n2 r1 r2 : Nat} {L1 L2 : List Nat} (h1 : MatL n1 L1 r1) (h2 : MatL n2 L2 r2) : (ordF false n1 n2 L1 L2).head? = isoFN n1 n2 L1 L2 := by
  unfold ordF isoFN cutF
  by_cases c : n1 = n2 ∧ L1.length = L2.length
  · rw [if_pos c, if_pos c]
    obtain ⟨rfl, hl⟩ := c
    rw [ords_same h1 h2 hl]
    cases srch n1 (okH n1 L1 L2) (finB L1 L2) n1 [] <;> rfl
  · rw [if_neg c, if_neg c]; rfl
theorem MatL.head {n r : Nat} {L : List Nat} (h : MatL n L r) : sz (L.getD 0 0) = r := by
  have h0 : 0 < L.length := List.length_pos_iff.2 h.ne
  exact h.fam.eq _ (by simp [h0])
theorem MatL.full {n r : Nat} {L : List Nat} (h : MatL n L r) : rk L (bit n - 1) = r := rk_all h.ne h.fam h.lt
theorem mnL_mt {n d c : Nat} {L : List Nat} (hρ : RkM n (rk L)) (hc : c < bit n) : MatL (cnt (d ||| c) n) (mnL n d c L) (mnK n d c L) := by
  have := (mnR_rk (gone := d ||| c) hρ hc).bases_mat
  rwa [mnK_full] at this
theorem mnL_del {n d : Nat} {L : List Nat} : those (cnt d n) (ofRank (cnt d n) (delR n L d)) = mnL n d 0 L := by
  rw [del_bases]
  unfold mnL
  rw [Nat.or_zero]
theorem disj_bits {c d : Nat} (h : c &&& d = 0) : ∀ j, c.testBit j = true → d.testBit j = false := fun j hj => by
  have h1 : (c &&& d).testBit j = false := by rw [h]; simp
  rw [Nat.testBit_and, hj] at h1
  simpa using h1
theorem mnL_con {n d c : Nat} {L : List Nat} (hρ : RkM n (rk L)) (hc : c < bit n) (hdc : c &&& d = 0) :
    those (cnt (prTo d c n) (cnt d n)) (ofRank (cnt (prTo d c n) (cnt d n)) (conR (cnt d n) (mnL n d 0 L) (prTo d c n))) = mnL n d c L := by
  have h := con_bases hρ hc (disj_bits hdc)
  unfold mnL
  rw [Nat.or_zero]
  exact h
theorem cnt_pr {n d c : Nat} (hdc : c &&& d = 0) : cnt (prTo d c n) (cnt d n) = cnt (d ||| c) n := cnt_two (disj_bits hdc) n (Nat.le_refl _)
theorem cnt_dc {n d c : Nat} (hn : n ≤ 8) (hd : d < bit n) (hc : c < bit n) (h : c &&& d = 0) : cnt (d ||| c) n + sz d + sz c = n := by
  have h1 := cnt_sz (gone := d ||| c) hn (or_lt_bit hd hc)
  have h2 := sz_incl d c
  rw [Nat.and_comm, h] at h2
  rw [show sz 0 = 0 from rfl] at h2
  omega
/-- what rotaref.Minor tests -/
def MnQ (n q : Nat) (L K : List Nat) (d c : Nat) : Prop := q + sz d ≤ n ∧ c &&& d = 0 ∧ q + sz d + sz c = n ∧ (mnL n d c L).length = K.length ∧ sz ((mnL n d c L).getD 0 0) = sz (K.getD 0 0) ∧ (ordF false q q (mnL n d c L) K).head? ≠ none
theorem mnQ_iff {n q r k : Nat} {L K : List Nat} (hρ : RkM n (rk L)) (hK : MatL q K k) {d c : Nat} (hd : d < bit n) (hc : c < bit n) : MnQ n q L K d c ↔ MnP n q L K d c := by
  unfold MnQ MnP
  by_cases h : c &&& d = 0
  case neg => exact ⟨fun x => absurd x.2.1 h, fun x => absurd x.1 h⟩
  have h1 := cnt_dc hρ.n8 hd hc h
  have hY := mnL_mt (d := d) hρ hc
  rw [hY.head, hK.head, hK.full]
  by_cases hq : cnt (d ||| c) n = q
  case neg => exact ⟨fun x => absurd (by omega) hq, fun x => absurd x.2.1 hq⟩
  rw [hq] at hY
  rw [iso_same hY hK]
  exact ⟨fun x => ⟨h, hq, x.2.2.2.2.1, x.2.2.2.1, x.2.2.2.2.2⟩, fun x => ⟨by omega, h, by omega, x.2.2.2.1, x.2.2.1, x.2.2.2.2⟩⟩
end Go.Proofs.Ytjenaglgloaejaa

namespace Go.Proofs.Ytjenaglgloaejaa
open Go.RowKit
set_option linter.unusedVariables false

set_option maxRecDepth 100000 in
set_option maxHeartbeats 4000000 in
theorem c_isoDoR {B bp : Nat} {W : World} {n bo bd : Nat} (hn : n ≤ 8) (hbp : bp < B) (h1 : bo < bp) (h2 : bd < bp) (hne : bo ≠ bd) (v : Off B (fun k => k = bp ∨ (k = bo ∨ k = bd)) W) (q : List Nat) (ad : Option Addr) (cp : Nat) (hq : q.length = n) (hP : PAt B bp v.val ad cp q) (hI : IsoI bo bd bp (ownBlk ad) [] v.val) :
    Calls Try.prog 42 #[.slice ad q.length cp, .pointer (some ⟨bo, 0, none⟩), .pointer (some ⟨bd, 0, none⟩)] v.val (fun e w' => e = .returned (.bool false) ∧ ∃ v' : Off B (fun k => k = bp ∨ (k = bo ∨ k = bd)) W, w' = v'.val ∧ PAt B bp v'.val ad cp q ∧ IsoI bo bd bp (ownBlk ad) [q] v'.val) := by
  obtain ⟨r1, r2⟩ := hI.no rfl
  have hvB := v.base
  have HR1 := Lib.hid r1
  have HR2 := Lib.hid r2
  have HIq : Hid (IntsAt v.val.heap.size v.val ad (ints q)) := Lib.hid hP.2.reads
  have hcap := hP.2.cap
  have HFin : Hid (∀ (v1 : Later v.val.heap.size v.val) (ar : Option Addr) (cr : Nat), Own v.val.heap.size v1.val ar cr (ints q) → ∃ v' : Off B (fun k => k = bp ∨ (k = bo ∨ k = bd)) W, (v1.val.setCell ⟨bo, 0, none⟩ (.slice ar q.length cr)).setCell ⟨bd, 0, none⟩ (.bool true) = v'.val ∧ PAt B bp v'.val ad cp q ∧ IsoI bo bd bp (ownBlk ad) [q] v'.val) := Lib.hid (fun v1 ar cr ho => by
    have hP1 := hP.keep v1.below
    refine ⟨((v.up v1).store bo 0 (.inr (.inl rfl)) _).store bd 0 (.inr (.inr rfl)) _, rfl, ⟨?_, ?_⟩, hI.ob, (fun h => by cases h), fun q' l' hl => ?_⟩
    · exact row1_other (row1_other hP1.1 (by omega) _) (by omega) _
    · exact ownsRow_setCell_below (ownsRow_setCell_below hP1.2 (show bo < B by omega) _) (show bd < B by omega) _
    · cases hl
      have ho2 : Own v.val.heap.size ((v1.val.setCell ⟨bo, 0, none⟩ (.slice ar q.length cr)).setCell ⟨bd, 0, none⟩ (.bool true)) ar cr (ints q) := ownsRow_setCell_below (ownsRow_setCell_below ho (show bo < v.val.heap.size by omega) _) (show bd < v.val.heap.size by omega) _
      refine ⟨ar, cr, row1_other ((r1.keep v1.below).store) hne _, ⟨ho2.cap, ho2.reads, fun a ha => ?_⟩, (row1_other (r2.keep v1.below) (fun e => hne e.symm) _).store⟩
      have hb := ho2.blk a ha
      refine ⟨hb.2, by omega, fun e => ?_⟩
      have := hP.blk _ e
      omega)
  clear hP hI r1 r2
  have hq8 : q.length ≤ 8 := by omega
  clear hq
  have hbo : bo < v.val.heap.size := HR1.out.lt
  have hbd : bd < v.val.heap.size := HR2.out.lt
  have z1 : ∀ y : Later v.val.heap.size v.val, y.val.cell? ⟨bo, 0, none⟩ = some (.slice none 0 0) := fun y => (HR1.out.keep y.below).c0
  have z2 : ∀ y : Later v.val.heap.size v.val, y.val.frozen? ⟨bo, 0, none⟩ = false := fun y => (HR1.out.keep y.below).frozen
  have z3 : ∀ (y : Later v.val.heap.size v.val) (x : Value), (y.val.setCell ⟨bo, 0, none⟩ x).cell? ⟨bd, 0, none⟩ = some (.bool false) := fun y x => (row1_other (HR2.out.keep y.below) (fun e => hne e.symm) x).c0
  have z4 : ∀ (y : Later v.val.heap.size v.val) (x : Value), (y.val.setCell ⟨bo, 0, none⟩ x).frozen? ⟨bd, 0, none⟩ = false := fun y x => (row1_other (HR2.out.keep y.below) (fun e => hne e.symm) x).frozen
  have hil : (ints q).length = q.length := ints_len q
  have Hil := Lib.hid hil
  have HApp : Hid (∀ (ops : Array Oper) (rest : List Oper) (o : Oper) (a : Act) (Q : Exit → Act → World → Prop) (hgd : o.guard = none) (s x : Operand) (ho : o.op = .call { callee := .builtin .append, args := #[s, x], argTypes := #[22, 22] }) (hs : a.eval s = .slice none 0 0) (hx : a.eval x = .slice ad q.length cp), (∀ (v1 : Later v.val.heap.size v.val) (ar : Option Addr) (cr : Nat), Own v.val.heap.size v1.val ar cr (ints q) → wpList Try.prog ops Q rest (a.put o.dst (.slice ar q.length cr)) v1.val) → wpList Try.prog ops Q (o :: rest) a v.val) := Lib.hid (fun ops rest o a Q hgd s x ho hs hx h => by
    refine wpList_appends_g (B := v.val.heap.size) (Nat.le_refl _) hgd s x ho [] none 0 hs (Own.nil _ _) (ints q) ad cp (by rw [ints_len]; exact hx) HIq.out hcap (by rw [ints_len]; simp; omega) (fun w' ad' cap' ho' hg => ?_)
    rw [List.nil_append] at ho' ⊢
    rw [ints_len]
    have hb : Below v.val.heap.size v.val w' := ⟨hg.os, hg.tape, hg.output, hg.size, fun k hk => hg.block k hk (by simp [Value.ownBlock])⟩
    exact h ⟨w', hb, hg.size⟩ ad' cap' ho')
  clear hil hcap HIq
  go_enter Try.func42, Try.ntmps42
  go_wp2_with (first | (at_builtin; refine HApp.out _ _ _ _ _ rfl _ _ rfl rfl rfl ?_; intro v1 ar cr hO; have HO := Lib.hid hO; clear hO; have y1 := z1 v1; have y2 := z2 v1) | fail)
  go_ret
  obtain ⟨v', e1, e2, e3⟩ := HFin.out v1 ar cr HO.out
  exact ⟨rfl, v', e1, e2, e3⟩
theorem iso_doR (B bp : Nat) (W : World) (n bo bd : Nat) (hn : n ≤ 8) (hbp : bp < B) (h1 : bo < bp) (h2 : bd < bp) (hne : bo ≠ bd) : DoOn B bp W (fun k => k = bo ∨ k = bd) n false 42 #[.pointer (some ⟨bo, 0, none⟩), .pointer (some ⟨bd, 0, none⟩)] (IsoI bo bd bp) where
  plain := fun _ _ => by kernel_rfl
  keep := fun o o' l w w' h hk hn => h.kept ⟨by omega, by omega⟩ hk hn
  call := fun v l q ad cp hq hl hP hI => by
    have hl0 := hl rfl
    subst hl0
    exact c_isoDoR hn hbp h1 h2 hne v q ad cp hq.len hP hI
/-- what rotaref.Isomorphic answers -/
def IsoRef (r : Option (List Nat)) (v : Value) (w : World) : Prop := (r = none ∧ v = .tuple #[.slice none 0 0, .bool false]) ∨ ∃ q ad cp, r = some q ∧ v = .tuple #[.slice ad q.length cp, .bool true] ∧ Reads w.heap.size w (.slice ad q.length cp) (ints q)

set_option maxRecDepth 100000 in
set_option maxHeartbeats 16000000 in
theorem c_refIso {B : Nat} {W : World} (u : Later B W) (n1 n2 : Nat) (hn1 : n1 ≤ 8) (hn2 : n2 ≤ 8) (L1 L2 : List Nat) (a b : Option Addr) (cap capb : Nat) (h1 : IntsAt B W a (ints L1)) (h2 : IntsAt B W b (ints L2)) (hlen1 : L1.length ≤ 256) (hlen2 : L2.length ≤ 256) (hne1 : L1 ≠ []) (hne2 : L2 ≠ []) (hlt1 : ∀ x, x ∈ L1 → x < bit n1) (hlt2 : ∀ x, x ∈ L2 → x < bit n2) :
    Calls Try.prog 14 #[.agg #[.int .i64 n1, .slice a L1.length cap], .agg #[.int .i64 n2, .slice b L2.length capb]] u.val (RetP B W (IsoRef (ordF false n1 n2 L1 L2).head?)) := by
  have hs1 : (u.val.alloc (.cells #[.int .i64 n1, .slice a L1.length cap] 24)).heap.size = u.val.heap.size + 1 := by simp
  have hs2 : ((u.val.alloc (.cells #[.int .i64 n1, .slice a L1.length cap] 24)).alloc (.cells #[.int .i64 n2, .slice b L2.length capb] 24)).heap.size = u.val.heap.size + 2 := by simp
  have huB := u.size
  have hZs : Hid (((((u.val.alloc (.cells #[.int .i64 n1, .slice a L1.length cap] 24)).alloc (.cells #[.int .i64 n2, .slice b L2.length capb] 24)).alloc (.cells #[.slice none 0 0] 22)).alloc (.cells #[.bool false] 4)).heap.size = u.val.heap.size + 4) := Lib.hid (by simp)
  have HA : Hid (RowL ((((u.val.alloc (.cells #[.int .i64 n1, .slice a L1.length cap] 24)).alloc (.cells #[.int .i64 n2, .slice b L2.length capb] 24)).alloc (.cells #[.slice none 0 0] 22)).alloc (.cells #[.bool false] 4)) u.val.heap.size 24 [.int .i64 n1, .slice a L1.length cap]) := Lib.hid ((((RowL.new _ _ _).keep ((Below.refl _ _).alloc (Nat.le_refl _) _)).keep ((Below.refl _ _).alloc (Nat.le_refl _) _)).keep ((Below.refl _ _).alloc (Nat.le_refl _) _))
  have HB2 : Hid (RowL ((((u.val.alloc (.cells #[.int .i64 n1, .slice a L1.length cap] 24)).alloc (.cells #[.int .i64 n2, .slice b L2.length capb] 24)).alloc (.cells #[.slice none 0 0] 22)).alloc (.cells #[.bool false] 4)) (u.val.heap.size + 1) 24 [.int .i64 n2, .slice b L2.length capb]) := Lib.hid (by
    have := ((RowL.new (u.val.alloc (.cells #[.int .i64 n1, .slice a L1.length cap] 24)) 24 [.int .i64 n2, .slice b L2.length capb]).keep ((Below.refl _ _).alloc (Nat.le_refl _) (.cells #[.slice none 0 0] 22))).keep ((Below.refl _ _).alloc (Nat.le_refl _) (.cells #[.bool false] 4))
    rwa [hs1] at this)
  have R1 : Hid (RowAt1 ((((u.val.alloc (.cells #[.int .i64 n1, .slice a L1.length cap] 24)).alloc (.cells #[.int .i64 n2, .slice b L2.length capb] 24)).alloc (.cells #[.slice none 0 0] 22)).alloc (.cells #[.bool false] 4)) (u.val.heap.size + 2) 22 (.slice none 0 0)) := Lib.hid (by
    have h := row1_under (show RowAt1 (((u.val.alloc (.cells #[.int .i64 n1, .slice a L1.length cap] 24)).alloc (.cells #[.int .i64 n2, .slice b L2.length capb] 24)).alloc (.cells #[.slice none 0 0] 22)) ((u.val.alloc (.cells #[.int .i64 n1, .slice a L1.length cap] 24)).alloc (.cells #[.int .i64 n2, .slice b L2.length capb] 24)).heap.size 22 (.slice none 0 0) from heap_alloc_new _ _) (.cells #[.bool false] 4)
    rwa [hs2] at h)
  have R2 : Hid (RowAt1 ((((u.val.alloc (.cells #[.int .i64 n1, .slice a L1.length cap] 24)).alloc (.cells #[.int .i64 n2, .slice b L2.length capb] 24)).alloc (.cells #[.slice none 0 0] 22)).alloc (.cells #[.bool false] 4)) (u.val.heap.size + 2 + 1) 4 (.bool false)) := Lib.hid (by
    have h := heap_alloc_new (((u.val.alloc (.cells #[.int .i64 n1, .slice a L1.length cap] 24)).alloc (.cells #[.int .i64 n2, .slice b L2.length capb] 24)).alloc (.cells #[.slice none 0 0] 22)) (.cells #[.bool false] 4)
    rw [show (((u.val.alloc (.cells #[.int .i64 n1, .slice a L1.length cap] 24)).alloc (.cells #[.int .i64 n2, .slice b L2.length capb] 24)).alloc (.cells #[.slice none 0 0] 22)).heap.size = u.val.heap.size + 2 + 1 by simp] at h
    exact h)
  obtain ⟨x, hx⟩ : ∃ x : Later B W, x.val = ((((u.val.alloc (.cells #[.int .i64 n1, .slice a L1.length cap] 24)).alloc (.cells #[.int .i64 n2, .slice b L2.length capb] 24)).alloc (.cells #[.slice none 0 0] 22)).alloc (.cells #[.bool false] 4)) := ⟨(((u.alloc _).alloc _).alloc _).alloc _, rfl⟩
  have K : Hid (∀ (bo : Nat), u.val.heap.size + 2 = bo → Calls Try.prog 34 #[.agg #[.int .i64 n1, .slice a L1.length cap], .agg #[.int .i64 n2, .slice b L2.length capb], .func (.func 42) #[] #[.pointer (some ⟨bo, 0, none⟩), .pointer (some ⟨bo + 1, 0, none⟩)]] x.val (EachPost x.val (fun k => k = bo ∨ k = bo + 1) (IsoI bo (bo + 1)) (ordF false n1 n2 L1 L2))) := Lib.hid (fun bo hbo => by
    have hz := hZs.out
    rw [← hx] at hz
    have hR1 := R1.out
    have hR2 := R2.out
    rw [← hx, hbo] at hR1 hR2
    exact c_orders x n1 n2 hn1 hn2 L1 L2 a b cap capb h1 h2 hlen1 hlen2 hne1 hne2 hlt1 hlt2 (fun k => k = bo ∨ k = bo + 1) (fun k hk => by show k < x.val.heap.size; omega) (fun k hk => by omega) false 42 #[.pointer (some ⟨bo, 0, none⟩), .pointer (some ⟨bo + 1, 0, none⟩)] (IsoI bo (bo + 1))
      (fun bp W' k1 k2 k3 => iso_doR W'.heap.size bp W' n1 bo (bo + 1) hn1 k2 (by have : x.val.heap.size ≤ bp := k1; omega) (by have : x.val.heap.size ≤ bp := k1; omega) (by omega))
      (fun bp w k1 k2 => ⟨(fun g hg => by cases hg), fun _ => ⟨hR1.keep k2, hR2.keep k2⟩, (fun q l' h => by cases h)⟩))
  have HV : Hid (∀ (bo : Nat), u.val.heap.size + 2 = bo → ∀ v : Off x.val.heap.size (fun k => k = bo ∨ k = bo + 1) x.val, ∃ w : Later B W, w.val = v.val) := Lib.hid (fun bo hbo v => by
    have hz := hZs.out
    rw [← hx] at hz
    have hb := v.below (B0 := B) (by have := x.size; omega) (fun k hk => by omega)
    exact ⟨x.to v.val hb, rfl⟩)
  rw [← hx] at HA HB2
  have hp1 : ∀ (args : Array Value) (w : World), (callFunc 42 args).run Try.prog w = .ok (.enter 42 args) w := fun _ _ => by kernel_rfl
  have HX := Lib.hid hx
  clear h1 h2 hs1 hs2 huB hZs R1 R2 hlt1 hlt2 hne1 hne2 hx
  go_enter Try.func14, Try.ntmps14
  go_upto_region 3 with fail
  rw [← HX.out]
  rw [show u.val.heap.size + 1 + 1 = u.val.heap.size + 2 from rfl]
  have p0 : x.val.cell? ⟨u.val.heap.size, 0, none⟩ = some (.int .i64 n1) := HA.out.cell rfl
  have p1 : x.val.cell? ⟨u.val.heap.size, 1, none⟩ = some (.slice a L1.length cap) := HA.out.cell rfl
  have p2 : x.val.cell? ⟨u.val.heap.size + 1, 0, none⟩ = some (.int .i64 n2) := HB2.out.cell rfl
  have p3 : x.val.cell? ⟨u.val.heap.size + 1, 1, none⟩ = some (.slice b L2.length capb) := HB2.out.cell rfl
  clear HX HA HB2
  generalize hbo : u.val.heap.size + 2 = bo at *
  have K := Lib.hid (K.out bo rfl)
  have HV := Lib.hid (HV.out bo rfl)
  clear hbo
  generalize u.val.heap.size = g at *
  generalize g + 1 = g' at *
  generalize hF : ordF false n1 n2 L1 L2 = F at *
  have HF := Lib.hid hF
  clear hF
  cases F with
  | nil =>
    have K2 : Hid (Calls Try.prog 34 #[.agg #[.int .i64 n1, .slice a L1.length cap], .agg #[.int .i64 n2, .slice b L2.length capb], .func (.func 42) #[] #[.pointer (some ⟨bo, 0, none⟩), .pointer (some ⟨bo + 1, 0, none⟩)]] x.val (fun e w' => e = .returned (.tuple #[]) ∧ ∃ v' : Off x.val.heap.size (fun k => k = bo ∨ k = bo + 1) x.val, w' = v'.val ∧ RowAt1 v'.val bo 22 (.slice none 0 0) ∧ RowAt1 v'.val (bo + 1) 4 (.bool false))) := Lib.hid (K.out.mono (by
      rintro e _ ⟨rfl, v', rfl, bp, o, hbp, hI⟩
      exact ⟨rfl, v', rfl, hI.no rfl⟩))
    clear K
    go_upto_region 4 with (first | (go_at_call 34; (with_reducible refine (K2.out).mono ?_); rintro e _ ⟨rfl, v', rfl, c0, c1⟩; have C0 := Lib.hid c0; have C1 := Lib.hid c1; clear c0 c1) | fail)
    have e0 : ∀ y : Later v'.val.heap.size v'.val, y.val.cell? ⟨bo, 0, none⟩ = some (.slice none 0 0) := fun y => (C0.out.keep y.below).c0
    have e1 : ∀ y : Later v'.val.heap.size v'.val, y.val.cell? ⟨bo + 1, 0, none⟩ = some (.bool false) := fun y => (C1.out.keep y.below).c0
    obtain ⟨y, hy⟩ : ∃ y : Later v'.val.heap.size v'.val, y.val = v'.val := ⟨Later.self _, rfl⟩
    rw [← hy]
    clear hy
    refine wp_region_later y (by kernel_rfl) (by kernel_rfl) (fun _ => ?_)
    repeat (first | go_big_quiet_step ((fail)) | (refine wpQuiet_step (fun K hK => ?_); go_simp; refine ⟨_, fun _ => rfl, ?_⟩; refine hK _ ?_; clear hK K))
    refine wpQuiet_nil ?_
    intro y
    go_wp2
    go_ret2
    obtain ⟨w, hw⟩ := HV.out (v'.up y)
    exact RetP.of ⟨w, hw⟩ (.inl ⟨rfl, rfl⟩)
  | cons q F' =>
    have K2 : Hid (Calls Try.prog 34 #[.agg #[.int .i64 n1, .slice a L1.length cap], .agg #[.int .i64 n2, .slice b L2.length capb], .func (.func 42) #[] #[.pointer (some ⟨bo, 0, none⟩), .pointer (some ⟨bo + 1, 0, none⟩)]] x.val (fun e w' => e = .returned (.tuple #[]) ∧ ∃ v' : Off x.val.heap.size (fun k => k = bo ∨ k = bo + 1) x.val, w' = v'.val ∧ ∃ ar cr, RowAt1 v'.val bo 22 (.slice ar q.length cr) ∧ RowAt1 v'.val (bo + 1) 4 (.bool true) ∧ Reads v'.val.heap.size v'.val (.slice ar q.length cr) (ints q))) := Lib.hid (K.out.mono (by
      rintro e _ ⟨rfl, v', rfl, bp, o, hbp, hI⟩
      obtain ⟨ar, cr, h1, h2, h3⟩ := hI.yes q F' rfl
      refine ⟨rfl, v', rfl, ar, cr, h1, h3, ?_⟩
      have := Reads.mk h2.ints h2.nil
      rwa [ints_len] at this))
    clear K
    go_upto_region 4 with (first | (go_at_call 34; (with_reducible refine (K2.out).mono ?_); rintro e _ ⟨rfl, v', rfl, ar, cr, c0, c1, hR⟩; have C0 := Lib.hid c0; have C1 := Lib.hid c1; have HR := Lib.hid hR; clear c0 c1 hR) | fail)
    have e0 : ∀ y : Later v'.val.heap.size v'.val, y.val.cell? ⟨bo, 0, none⟩ = some (.slice ar q.length cr) := fun y => (C0.out.keep y.below).c0
    have e1 : ∀ y : Later v'.val.heap.size v'.val, y.val.cell? ⟨bo + 1, 0, none⟩ = some (.bool true) := fun y => (C1.out.keep y.below).c0
    obtain ⟨y, hy⟩ : ∃ y : Later v'.val.heap.size v'.val, y.val = v'.val := ⟨Later.self _, rfl⟩
    rw [← hy]
    clear hy
    refine wp_region_later y (by kernel_rfl) (by kernel_rfl) (fun _ => ?_)
    repeat (first | go_big_quiet_step ((fail)) | (refine wpQuiet_step (fun K hK => ?_); go_simp; refine ⟨_, fun _ => rfl, ?_⟩; refine hK _ ?_; clear hK K))
    refine wpQuiet_nil ?_
    intro y
    go_wp2
    go_ret2
    obtain ⟨w, hw⟩ := HV.out (v'.up y)
    exact RetP.of ⟨w, hw⟩ (.inr ⟨q, ar, cr, rfl, rfl, (HR.out.keep y.below).mono y.size⟩)
end Go.Proofs.Ytjenaglgloaejaa
