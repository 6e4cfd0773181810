
/-
  hall.grown, hall.matched.
  hall.matched, hall.Most.
-/
import Derived.Test.YtdhmponbakodmaaDoorPk16
import Derived.Test.YtdhmponbakodmaaDoorPk17
namespace Go.Proofs.YtdhmponbakodmaaDoor
open Go.RowKit
set_option linter.unusedVariables false

theorem tz_bit {t : Nat} (ht : t < 256) (h0 : t ≠ 0) : tzN t < 8 ∧ t.testBit (tzN t) = true := by
  have : ∀ t : Fin 256, t.val ≠ 0 → tzN t.val < 8 ∧ t.val.testBit (tzN t.val) = true := by decide +kernel
  exact this ⟨t, ht⟩ h0
theorem leSub {a b : Nat} (h : sub a b) : a ≤ b := by
  have e : a ||| b = b := or_eq_iff.2 h
  have h2 : a ≤ a ||| b := Nat.left_le_or
  omega
theorem nand_less {a s s1 i : Nat} (ha : a < 256) (h : sub s s1) (h1 : (nand a s).testBit i = true) (h2 : s1.testBit i = true) : nand a s1 < nand a s := by
  have hle : nand a s1 ≤ nand a s := leSub (fun j hj => by
    rw [nand_testBit] at hj ⊢
    simp at hj
    rw [hj.1]
    cases c : s.testBit j
    · rfl
    · rw [h j c] at hj; cases hj.2)
  have hne : nand a s1 ≠ nand a s := fun e => by
    rw [← e, nand_testBit, h2] at h1
    simp at h1
  omega
theorem Dbr.to {B : Nat} {W : World} (h : Dbr B W) (u : Later B W) : Dbr u.val.heap.size u.val := ⟨Nat.lt_of_lt_of_le h.1 u.size, fun i hi => h.cell u hi⟩
/-- what grown gives back -/
def GrOut (B : Nat) (n : Nat) (ls : List Nat) (S : Nat → Prop) (X s0 k go bs : Nat) (of : Nat → Int) (v : Value) (w : World) : Prop :=
  ∃ (b : Bool) (of' : Nat → Int) (s' : Nat), v = .bool b ∧ ITab w go n of' ∧ RowAt1 w bs 3 (.int .i64 s') ∧ (b = true → GWin n ls S X of s0 k of') ∧ (b = false → (∀ j, j < n → of' j = of j) ∧ GFail n ls of s0 s' k)

set_option maxRecDepth 100000 in
set_option maxHeartbeats 8000000 in
theorem c_grown (B : Nat) (W : World) (n : Nat) (hn : n ≤ 8) (ls : List Nat) (hl8 : ls.length ≤ 8) (hls : ∀ q, q < ls.length → ls.getD q 0 < bit n) (al : Option Addr) (capl go bs cg : Nat) (hI : IntsAt B W al (ints ls)) (hgo : B ≤ go) (hbs : B ≤ bs) (hne : go ≠ bs) (hD : Dbr B W) :
    ∀ rem s0 k S X of, 256 - s0 = rem → (∀ q, S q → q < ls.length) → GPre n ls S X s0 k of → ∀ u : Later B W, ITab u.val go n of → RowAt1 u.val bs 3 (.int .i64 s0) →
    Calls Tryd.prog 27 #[.slice al ls.length capl, .slice (some ⟨go, 0, none⟩) n cg, .int .i64 k, .pointer (some ⟨bs, 0, none⟩)] u.val (RetP B W (GrOut B n ls S X s0 k go bs of)) := by
  have HI := Lib.hid hI
  have HLs := Lib.hid hls
  have HD := Lib.hid hD
  clear hI hls hD
  intro rem
  induction rem using Nat.strongRecOn with
  | ind rem ih =>
  intro s0 k S X of hrem hSl hP u hT hR
  have IH := Lib.hid ih
  have HP := Lib.hid hP
  have HSl := Lib.hid hSl
  have HT0 := Lib.hid hT
  have HR0 := Lib.hid hR
  clear ih hP hSl hT hR
  have hbn := bit_le n hn
  have hkl := HP.out.klt
  have hk8 : k < 8 := by omega
  have hlk := HLs.out k hkl
  have hlt0 := HP.out.lt
  have HL0 : Hid (LInv n ls of s0 s0) := Lib.hid (LInv.start hlt0)
  obtain ⟨bb, off, rfl, hbB, hcell⟩ := HI.out.at (k := k) (by rw [ints_len]; exact hkl)
  have c0 : ∀ v : Later B W, v.val.cell? ⟨bb, off + k, none⟩ = some (.int .i64 ((ls.getD k 0 : Nat) : Int)) := fun v => by rw [← ints_getD]; exact hcell v k (by rw [ints_len]; exact hkl)
  have HIH : Hid (∀ (s q : Nat) (S' : Nat → Prop) (X' : Nat), s0 < s → s < 256 → (∀ q, S' q → q < ls.length) → GPre n ls S' X' s q of → ∀ v : Later B W, ITab v.val go n of → RowAt1 v.val bs 3 (.int .i64 s) → Calls Tryd.prog 27 #[.slice (some ⟨bb, off, none⟩) ls.length capl, .slice (some ⟨go, 0, none⟩) n cg, .int .i64 q, .pointer (some ⟨bs, 0, none⟩)] v.val (RetP B W (GrOut B n ls S' X' s q go bs of))) := Lib.hid (fun s q S' X' h1 h2 h3 h4 v h5 h6 => IH.out (256 - s) (by omega) s q S' X' of rfl h3 h4 v h5 h6)
  clear IH hcell HI
  have o0 := i64_andNot (ls.getD k 0) s0 (by omega) (by omega)
  generalize hlk2 : ls.getD k 0 = lk at *
  have HLke := Lib.hid hlk2
  clear hlk2
  have cs0 : ∀ w : Later u.val.heap.size u.val, w.val.cell? ⟨bs, 0, none⟩ = some (.int .i64 s0) := fun w => (HR0.out.keep w.below).c0
  have cl0 : ∀ w : Later u.val.heap.size u.val, w.val.cell? ⟨bb, off + k, none⟩ = some (.int .i64 (lk : Int)) := fun w => c0 (u.up w)
  go_enter Tryd.func27, Tryd.ntmps27
  go_wp2
  refine wp_region_later (Later.self u.val) (by kernel_rfl) (by kernel_rfl) (fun _ => ?_)
  repeat (first | go_big_quiet_step (fail) | (refine wpQuiet_step (fun K hK => ?_); go_simp; refine ⟨_, fun _ => rfl, ?_⟩; refine hK _ ?_; clear hK K))
  refine wpQuiet_nil ?_
  intro y0
  have HT1 : Hid (ITab y0.val go n of) := Lib.hid (HT0.out.keep y0.below)
  have HR1 : Hid (RowAt1 y0.val bs 3 (.int .i64 s0)) := Lib.hid (HR0.out.keep y0.below)
  obtain ⟨v0, hv0⟩ : ∃ v0 : Later B W, v0.val = y0.val := ⟨u.up y0, rfl⟩
  rw [← hv0] at HT1 HR1 ⊢
  clear hv0 HT0 HR0 cs0 cl0 o0
  go_wp2
  go_loopw [9] (fun x wr => ∃ (s : Nat) (v : Later B W), x = .int .i64 (nand lk s) ∧ wr = v.val ∧ Hid (ITab v.val go n of) ∧ Hid (RowAt1 v.val bs 3 (.int .i64 s)) ∧ Hid (LInv n ls of s0 s)) (fun x _ => (intOf x).toNat)
  case atStart => exact ⟨s0, v0, rfl, rfl, HT1, HR1, HL0⟩
  case round =>
    clear HT1 HR1 HL0 v0
    obtain ⟨s, v, rfl, rfl, HT, HR, HL⟩ := hrel
    have hsn := HL.out.lt
    have hx8 : nand lk s < 256 := nand_lt _ _ 8 (by omega)
    by_cases h0 : nand lk s = 0
    · have HF : Hid (GFail n ls of s0 s k) := Lib.hid (HL.out.last (by rw [HLke.out]; omega) (by rw [HLke.out]; exact h0))
      rw [h0]
      clear h0 hx8
      go_wp2
      go_ret
      exact RetP.mk v ⟨false, of, s, rfl, HT.out, HR.out, (fun h => by cases h), fun _ => ⟨fun _ _ => rfl, HF.out⟩⟩
    · obtain ⟨hi8, hib⟩ := tz_bit hx8 h0
      have KT := Lib.hid (c_tz (Later.self v.val) (nand lk s) hx8 h0 (HD.out.to v))
      dsimp only [Later.self] at KT
      have d0 : ((nand lk s : Int) != 0) = true := by rw [bne_iff_ne]; omega
      have d1 : (nand lk s != 0) = true := by rw [bne_iff_ne]; exact h0
      have hib2 := hib
      rw [nand_testBit] at hib2
      simp at hib2
      obtain ⟨hki, hsi⟩ := hib2
      have HIB := Lib.hid hib
      clear hib
      generalize hie : tzN (nand lk s) = i at *
      clear hie
      have hin : i < n := (lt_pow_iff n lk hn (by omega)).1 hlk i hi8 hki
      have hbi := bit_lt i hi8
      have hbc := bit_cast i
      have w1 := IntWalk.i64_in (bit i : Int) (by omega)
      have o1 := i64_or s (bit i) (by omega) (by omega)
      have hsi2 : s ||| bit i < bit n := or_bit_lt hn hsn hin
      have hgt : s0 < s ||| bit i := by
        have h1 := leSub HL.out.up
        have h2 := or_bit s i (by omega) hi8 hsi
        omega
      have HK1 : Hid ((ls.getD k 0).testBit i = true) := Lib.hid (by rw [HLke.out]; exact hki)
      have HSI := Lib.hid hsi
      clear hki hsi h0
      have hx0 : Hid (nand lk s = nand lk s) := Lib.hid rfl
      generalize hxx : nand lk s = x at *
      have HXX := Lib.hid hxx
      clear hxx hx0
      go_upto_region 5 with (first | (go_at_call 21; (with_reducible refine (KT.out).mono ?_); rintro e _ ⟨rfl, v1, rfl⟩))
      have HT1 : Hid (ITab v1.val go n of) := Lib.hid (HT.out.keep v1.below)
      have HR1 : Hid (RowAt1 v1.val bs 3 (.int .i64 s)) := Lib.hid (HR.out.keep v1.below)
      obtain ⟨v2, hv2⟩ : ∃ v2 : Later B W, v2.val = v1.val := ⟨v.up v1, rfl⟩
      rw [← hv2] at HT1 HR1 ⊢
      clear hv2 HT HR KT v1
      have e0 : ∀ w : Later v2.val.heap.size v2.val, w.val.cell? ⟨bs, 0, none⟩ = some (.int .i64 s) := fun w => (HR1.out.keep w.below).c0
      have e1 : ∀ w : Later v2.val.heap.size v2.val, w.val.frozen? ⟨bs, 0, none⟩ = false := fun w => (HR1.out.keep w.below).frozen
      refine wp_region_later_tail (Later.self v2.val) 6 (by kernel_rfl) (by kernel_rfl) (fun v3 => ?_)
      simp only [List.take_succ_cons, List.take_zero, List.drop_succ_cons, List.drop_zero]
      repeat still_step
      refine wpStill_nil ?_
      go_upto_region 6 with fail
      obtain ⟨v4, hv4⟩ : ∃ v4 : Later B W, v4.val = v3.val.setCell ⟨bs, 0, none⟩ (.int .i64 ((s ||| bit i : Nat) : Int)) := ⟨(v2.up v3).set ⟨bs, 0, none⟩ hbs _, rfl⟩
      have HT4 : Hid (ITab v4.val go n of) := Lib.hid (by rw [hv4]; exact (HT1.out.keep v3.below).other hne _)
      have HR4 : Hid (RowAt1 v4.val bs 3 (.int .i64 ((s ||| bit i : Nat) : Int))) := Lib.hid (by rw [hv4]; exact (HR1.out.keep v3.below).store)
      rw [← hv4]
      clear hv4 e0 e1 HT1 HR1 v3 v2
      have ci : v4.val.cell? ⟨go, i, none⟩ = some (.int .i64 (of i)) := HT4.out.cell hin
      have fi : v4.val.frozen? ⟨go, i, none⟩ = false := HT4.out.frozen i
      rcases ilt (of i) 0 with ⟨g1, e1⟩ | ⟨g1, e1⟩
      · have HW := Lib.hid (HP.out.free HL.out hin HK1.out HSI.out g1)
        have HTw : Hid (ITab (v4.val.setCell ⟨go, i, none⟩ (.int .i64 (k : Int))) go n (fun j => if j = i then (k : Int) else of j)) := Lib.hid (HT4.out.set i _ (fun j _ => rfl))
        have HRw : Hid (RowAt1 (v4.val.setCell ⟨go, i, none⟩ (.int .i64 (k : Int))) bs 3 (.int .i64 ((s ||| bit i : Nat) : Int))) := Lib.hid ((Below.heap_setCell _ _ _ _ (show bs ≠ go from fun e => hne e.symm)).trans HR4.out)
        generalize of i = z at *
        clear g1
        go_wp2
        go_ret
        exact RetP.mk (v4.set ⟨go, i, none⟩ hgo _) ⟨true, _, _, rfl, HTw.out, HRw.out, fun _ => HW.out, fun h => by cases h⟩
      · obtain ⟨q, hq⟩ := Int.eq_ofNat_of_zero_le g1
        obtain ⟨hpre, hSq⟩ := HP.out.deep hn HL.out hin HSI.out hq HSl.out
        have KR := Lib.hid (HIH.out (s ||| bit i) q _ _ hgt (by omega) (fun p hp => HSl.out p hp.1) hpre v4 HT4.out HR4.out)
        have HSq := Lib.hid hSq
        have HQ := Lib.hid hq
        rw [hq] at ci e1
        clear hq g1 hpre hSq
        go_upto_region 7 with (first | (go_at_call 27; (with_reducible refine (KR.out).mono ?_); rintro e _ ⟨_, rfl, ⟨b, of1, s1, rfl, hT5, hR5, hw, hf⟩, v5, rfl⟩))
        · have hb : b = true := by first | assumption | (cases b <;> simp_all)
          subst hb
          have HW := Lib.hid (HP.out.won HL.out hin HK1.out HSI.out HQ.out HSq.out (hw rfl))
          have c5 : v5.val.cell? ⟨go, i, none⟩ = some (.int .i64 (of1 i)) := hT5.cell hin
          have f5 : v5.val.frozen? ⟨go, i, none⟩ = false := hT5.frozen i
          have HTw : Hid (ITab (v5.val.setCell ⟨go, i, none⟩ (.int .i64 (k : Int))) go n (fun j => if j = i then (k : Int) else of1 j)) := Lib.hid (hT5.set i _ (fun j _ => rfl))
          have HRw : Hid (RowAt1 (v5.val.setCell ⟨go, i, none⟩ (.int .i64 (k : Int))) bs 3 (.int .i64 s1)) := Lib.hid ((Below.heap_setCell _ _ _ _ (show bs ≠ go from fun e => hne e.symm)).trans hR5)
          clear hw hf hT5 hR5 KR
          generalize of1 i = z at *
          go_wp2
          go_ret
          exact RetP.mk (v5.set ⟨go, i, none⟩ hgo _) ⟨true, _, _, rfl, HTw.out, HRw.out, fun _ => HW.out, fun h => by cases h⟩
        · have hb : b = false := by first | assumption | (cases b <;> simp_all)
          subst hb
          obtain ⟨hsame, hfail⟩ := hf rfl
          have HL5 : Hid (LInv n ls of s0 s1) := Lib.hid (HL.out.lost HQ.out hfail)
          have HT5 : Hid (ITab v5.val go n of) := Lib.hid (hT5.congr hsame)
          have HR5 := Lib.hid hR5
          have hs1 : s1 < bit n := hfail.lt
          have HLess : Hid (nand lk s1 < x) := Lib.hid (by
            rw [← HXX.out]
            exact nand_less (by omega) (fun j hj => hfail.up j ((or_bit_at s i j).2 (.inl hj))) (by rw [HXX.out]; exact HIB.out) (hfail.up i ((or_bit_at s i i).2 (.inr rfl))))
          have o5 := i64_andNot lk s1 (by omega) (by omega)
          clear hsame hfail hT5 hR5 hw hf KR ci fi e1 o1 HT4 HR4
          have cs0 : ∀ w : Later v5.val.heap.size v5.val, w.val.cell? ⟨bs, 0, none⟩ = some (.int .i64 s1) := fun w => (HR5.out.keep w.below).c0
          have cl0 : ∀ w : Later v5.val.heap.size v5.val, w.val.cell? ⟨bb, off + k, none⟩ = some (.int .i64 (lk : Int)) := fun w => c0 (v5.up w)
          refine wp_region_later (Later.self v5.val) (by kernel_rfl) (by kernel_rfl) (fun _ => ?_)
          repeat (first | go_big_quiet_step (fail) | (refine wpQuiet_step (fun K hK => ?_); go_simp; refine ⟨_, fun _ => rfl, ?_⟩; refine hK _ ?_; clear hK K))
          refine wpQuiet_nil ?_
          intro y0
          have HT6 : Hid (ITab y0.val go n of) := Lib.hid (HT5.out.keep y0.below)
          have HR6 : Hid (RowAt1 y0.val bs 3 (.int .i64 s1)) := Lib.hid (HR5.out.keep y0.below)
          obtain ⟨v6, hv6⟩ : ∃ v6 : Later B W, v6.val = y0.val := ⟨v5.up y0, rfl⟩
          rw [← hv6] at HT6 HR6 ⊢
          clear hv6 cs0 cl0 o5
          go_wp2
          go_roundw
          case rel => exact ⟨s1, v6, rfl, rfl, HT6, HR6, HL5⟩
          case measure => have := HLess.out; simpa [intOf] using this

end Go.Proofs.YtdhmponbakodmaaDoor

namespace Go.Proofs.YtdhmponbakodmaaDoor
open Go.RowKit
set_option linter.unusedVariables false

/-- a value and a number -/
def AndInt (k : Int) (v : Value) (w : World) : Prop := ∃ v1, v = .tuple #[v1, .int .i64 k]

set_option maxRecDepth 100000 in
set_option maxHeartbeats 8000000 in
theorem c_matched {B : Nat} {W : World} (u : Later B W) (n : Nat) (hn : n ≤ 8) (ls : List Nat) (hl8 : ls.length ≤ 8) (hls : ∀ q, q < ls.length → ls.getD q 0 < bit n) (al : Option Addr) (capl : Nat) (hI : IntsAt B W al (ints ls)) (hD : Dbr B W) :
    Calls Tryd.prog 20 #[.int .i64 n, .slice al ls.length capl] u.val (RetP B W (AndInt (mtN ls))) := by
  have HI := Lib.hid hI
  have HLs := Lib.hid hls
  have HD := Lib.hid hD
  have hmk := mk_tab n (by omega)
  have hBu := u.size
  clear hI hls hD
  go_enter Tryd.func20, Tryd.ntmps20
  go_upto_region 2 with fail
  have HT0 : Hid (ITab (u.val.alloc (.cells (madeCells #[Value.int .i64 0] n) 3)) u.val.heap.size n (fun j => if j < 0 then -1 else 0)) := Lib.hid ((ITab.made u.val n).congr (fun j _ => by rw [if_neg (by omega)]))
  obtain ⟨z0, hz0⟩ : ∃ z : Later B W, z.val = (u.val.alloc (.cells (madeCells #[Value.int .i64 0] n) 3)) := ⟨u.alloc _, rfl⟩
  rw [← hz0] at HT0 ⊢
  clear hz0 hmk
  generalize u.val.heap.size = go at *
  clear u
  go_wp2
  go_loopw [15] (fun i wr => ∃ (k : Nat) (v : Later B W), k ≤ n ∧ i = .int .i64 k ∧ wr = v.val ∧ Hid (ITab v.val go n (fun j => if j < k then -1 else 0))) (fun i _ => n - (intOf i).toNat)
  case atStart => exact ⟨0, z0, by omega, rfl, rfl, HT0⟩
  case round =>
    clear z0 HT0
    obtain ⟨k, v, hk, rfl, rfl, HT⟩ := hrel
    by_cases hlt : k < n
    · have fz := HT.out.frozen k
      obtain ⟨ov, hov⟩ : ∃ o : Int, v.val.cell? ⟨go, k, none⟩ = some (.int .i64 o) := ⟨_, HT.out.cell hlt⟩
      have HT2 : Hid (ITab (v.val.setCell ⟨go, k, none⟩ (.int .i64 (-1))) go n (fun j => if j < k + 1 then -1 else 0)) := Lib.hid (HT.out.set k _ (fun j hj => by
        by_cases c : j = k
        · subst c; simp
        · rw [if_neg c]
          by_cases c2 : j < k
          · rw [if_pos c2, if_pos (by omega)]
          · rw [if_neg c2, if_neg (by omega)]))
      go_wp2
      go_roundw
      case rel => exact ⟨k+1, v.set ⟨go, k, none⟩ hBu _, by omega, by go_num, rfl, HT2⟩
      case measure => simp [intOf]; omega
    · have hke : k = n := by omega
      subst hke
      have HT1 : Hid (ITab v.val go k (fun _ => -1)) := Lib.hid (HT.out.congr (fun j hj => by rw [if_pos hj]))
      have HM1 : Hid (Md k ls 0 0 0 (fun _ => -1)) := Lib.hid (Md.start k ls)
      clear HT hlt hk
      go_wp2
      go_loopw [8, 24] (fun m i wr => ∃ (q S U : Nat) (of : Nat → Int) (v : Later B W), q ≤ ls.length ∧ i = .int .i64 q ∧ m = .int .i64 (sz S) ∧ wr = v.val ∧ Hid (ITab v.val go k of) ∧ Hid (Md k ls q S U of)) (fun _ i _ => ls.length - (intOf i).toNat)
      case atStart => exact ⟨0, 0, 0, _, v, by omega, rfl, rfl, rfl, HT1, HM1⟩
      case round =>
        clear v HT1 HM1
        obtain ⟨q, S, U, of, v, hq, rfl, rfl, rfl, HT, HM⟩ := hrel
        by_cases hlt : q < ls.length
        · have HTa : Hid (ITab (v.val.alloc (.cells #[.int .i64 0] 3)) go k of) := Lib.hid (HT.out.keep ((Below.refl _ _).alloc (Nat.le_refl _) _))
          have HRa : Hid (RowAt1 (v.val.alloc (.cells #[.int .i64 0] 3)) v.val.heap.size 3 (.int .i64 (0 : Nat))) := Lib.hid (heap_alloc_new v.val _)
          have hgl := HT.out.lt
          have KG := Lib.hid (c_grown B W k hn ls hl8 HLs.out al capl go v.val.heap.size k HI.out hBu v.size (by omega) HD.out _ 0 q (fun p => S.testBit p = true) 0 of rfl (fun p hp => by
            have h1 := HM.out.slt
            have h2 := bit_le q (by omega)
            have := (lt_pow_iff q S (by omega) (by omega)).1 h1 p (lt_of_testBit (by omega) hp) hp
            omega) (HM.out.pre hlt (by omega)) (v.alloc (.cells #[.int .i64 0] 3)) HTa.out HRa.out)
          dsimp only [Later.alloc, Later.to] at KG
          have hz8 := sz_le S
          have HS8 : Hid (S.testBit q = false) := Lib.hid (by
            have := (HM.out.pre hlt (by omega)).new
            cases c : S.testBit q
            · rfl
            · exact absurd c this)
          clear HTa HRa
          go_upto_region 13 with (first | (go_at_call 27; (with_reducible refine (KG.out).mono ?_); rintro e _ ⟨_, rfl, ⟨b, of1, s1, rfl, hT5, hR5, hw, hf⟩, v5, rfl⟩))
          · have hb : b = true := by first | assumption | (cases b <;> simp_all)
            subst hb
            have HM2 := Lib.hid (HM.out.win (by omega) (hw rfl))
            have HZ : Hid (sz (S ||| bit q) = sz S + 1) := Lib.hid (sz_add (by omega) HS8.out)
            have HT5 := Lib.hid hT5
            clear hw hf hT5 hR5 KG HT HM
            generalize sz S = zs at *
            go_wp2
            go_roundw
            case rel => exact ⟨q+1, S ||| bit q, U, of1, v5, by omega, by go_num, by rw [HZ.out]; go_num, rfl, HT5, HM2⟩
            case measure => simp [intOf]; omega
          · have hb : b = false := by first | assumption | (cases b <;> simp_all)
            subst hb
            obtain ⟨hsame, hfail⟩ := hf rfl
            have HM2 := Lib.hid (HM.out.lose hn hfail)
            have HT5 : Hid (ITab v5.val go k of) := Lib.hid (hT5.congr hsame)
            clear hsame hfail hw hf hT5 hR5 KG HT HM
            go_wp2
            go_roundw
            case rel => exact ⟨q+1, S, _, of, v5, by omega, by go_num, rfl, rfl, HT5, HM2⟩
            case measure => simp [intOf]; omega
        · have hqe : q = ls.length := by omega
          subst hqe
          have hE := HM.out.many hn hl8 HLs.out
          rw [hE]
          clear hE HM
          go_wp2
          go_ret2
          exact RetP.mk v ⟨_, rfl⟩

set_option maxRecDepth 100000 in
set_option maxHeartbeats 4000000 in
theorem c_most {B : Nat} {W : World} (u : Later B W) (n : Nat) (hn : n ≤ 8) (ls : List Nat) (hl8 : ls.length ≤ 8) (hls : ∀ q, q < ls.length → ls.getD q 0 < bit n) (al : Option Addr) (capl : Nat) (hI : IntsAt B W al (ints ls)) (hD : Dbr B W) (hL : LisIs (n : Int) (ints ls) 0) :
    Calls Tryd.prog 5 #[.int .i64 n, .slice al ls.length capl] u.val (Ret B W (.tuple #[.int .i64 (mtN ls), .int .i64 0])) := by
  have K1 := Lib.hid (fun v : Later B W => c_hallCheck v n (ints ls) al capl 0 hI (by rw [ints_len]; omega) hL)
  rw [ints_len] at K1
  have K2 := Lib.hid (fun v : Later B W => c_matched v n hn ls hl8 hls al capl hI hD)
  clear hI hD hL
  generalize mtN ls = m at *
  go_enter Tryd.func5, Tryd.ntmps5
  go_wp2_with (first | (go_at_call 9; (with_reducible refine ((K1.out _)).mono ?_); rintro e _ ⟨rfl, v1, rfl⟩) | (go_at_call 20; (with_reducible refine ((K2.out _)).mono ?_); rintro e _ ⟨_, rfl, ⟨x, rfl⟩, v2, rfl⟩))
  go_ret2
  exact Ret.mk v2 rfl
set_option maxRecDepth 100000 in
set_option maxHeartbeats 4000000 in
theorem c_most_no {B : Nat} {W : World} (u : Later B W) (n : Int) (l : List Int) (a : Option Addr) (cap : Nat) (e : Int) (h : IntsAt B W a l) (hlen : l.length ≤ 4611686018427387904) (he : LisIs n l e) (h0 : e ≠ 0) :
    Calls Tryd.prog 5 #[.int .i64 n, .slice a l.length cap] u.val (Ret B W (.tuple #[.int .i64 0, .int .i64 e])) := by
  have K1 := Lib.hid (fun v : Later B W => c_hallCheck v n l a cap e h hlen he)
  have d0 : (e != 0) = true := by rw [bne_iff_ne]; exact h0
  clear h he h0
  go_enter Tryd.func5, Tryd.ntmps5
  go_wp2_with (first | (go_at_call 9; (with_reducible refine ((K1.out _)).mono ?_); rintro e _ ⟨rfl, v1, rfl⟩))
  go_ret2
  exact Ret.mk v1 rfl

end Go.Proofs.YtdhmponbakodmaaDoor
