
/-
  rotaref.Unbroken, Above, Chains.
-/
import Derived.Test.YtjpcelldbhdneaaFlR
import Derived.Test.YtjpcelldbhdneaaLatB
import Derived.Test.YtjpcelldbhdneaaElems
import Derived.Test.YtjpcelldbhdneaaMem
import Derived.Deep.AppendLies
import Derived.Deep.RegionLaw
namespace Go.Proofs.Ytjpcelldbhdneaa
open Go.RowKit
set_option linter.unusedVariables false

/-- append of one number at a step of a region that draws its order -/
theorem step_push {B : Nat} {W w : World} (hw : Below B W w) (hB : B ≤ w.heap.size) {ops : Array Oper} {o : Oper} {a : Act} {K : Act → World → Prop} {Q : Exit → Act → World → Prop} {E : Prop} (hgd : o.guard = none) (s x : Operand)
    (ho : o.op = .call { callee := .builtin .append, args := #[s, x], argTypes := #[22, 22] })
    (xs : List Int) (ad : Option Addr) (cap : Nat) (y : Int) (hs : a.eval s = .slice ad xs.length cap) (hown : Own B w ad cap xs)
    (hx : a.eval x = .slice (some ⟨w.heap.size, 0, none⟩) 1 1)
    (hlen : xs.length + 1 ≤ 1099511627776)
    (h : ∀ (u' : Later B W) (ad' : Option Addr) (cap' : Nat), Own B u'.val ad' cap' (xs ++ [y]) → K (a.put o.dst (.slice ad' (xs ++ [y]).length cap')) u'.val) :
    if Region.wanted o (yielded ops a.tmps) = true then Oper.wp Try.prog o a (w.alloc (.cells #[.int .i64 y] 3)) K Q else E := by
  obtain ⟨i0, hi, hz0, hz1, hz2⟩ := info_parts info_int
  refine step_append_lies _ hgd s x 22 ho B 3 i0 (.int .i64 0) 1 8 Try.underlying22 hi hz0 hz1 hz2 rfl (by decide) _ xs.length _ hs (hown.alloc _) ⟨w.heap.size, 0, none⟩ 1 1 [.int .i64 y] hx rfl ?_ ?_ (by decide) (by unfold maxLen; omega) (by omega) (by simp; omega) _ rfl ?_
  · intro j v hj
    have hj0 : j = 0 := by
      have := (List.getElem?_eq_some_iff.1 hj).1
      simp at this
      omega
    subst hj0
    have e : (⟨w.heap.size, 0, none⟩ : Addr).add 0 = ⟨w.heap.size, 0, none⟩ := by unfold Addr.add; split <;> simp_all
    rw [e]
    simp at hj
    subst hj
    exact cell_one_new w (.int .i64 y) 3 0 _ rfl
  · intro v hv
    simp at hv
    subst hv
    rfl
  · intro g cap' w' h2 h3 _ _
    have hO : Own B w' (some ⟨g, 0, none⟩) cap' (xs ++ [y]) := by
      show w'.ownsRow B 3 1 (.slice (some ⟨g, 0, none⟩) (xs ++ [y]).length cap') (xs ++ [y]).length _
      rw [List.length_append]
      simpa using h2
    have := h ⟨w', own_below (hw.alloc hB _) (by simp; omega) (hown.alloc _) h3, by have := h3.size; simp at this; omega⟩ (some ⟨g, 0, none⟩) cap' hO
    rw [List.length_append] at this
    exact this


set_option maxRecDepth 100000 in
set_option maxHeartbeats 4000000 in
theorem c_unbTell {B : Nat} {W : World} (u : Later B W) (C : List Nat) (h256 : ∀ i, i < C.length → C.getD i 0 < 256 ∧ C.getD i 0 ≠ 0) (hlen : C.length ≤ 256) (cap g : Nat) (a : Option Addr) (s : Nat) (hs : s < 256) (h : IntsAt B W a (ints C)) (hg : g < B) (hbox : W.cell? ⟨g, 0, none⟩ = some (.slice a (ints C).length cap)) :
    Calls Try.prog 183 #[.int .i64 s, .pointer (some ⟨g, 0, none⟩)] u.val (Ret B W (.bool (brokP C s))) := by
  have q1 : ∀ u : Later B W, u.val.cell? ⟨g, 0, none⟩ = some (.slice a C.length cap) := fun u => by rw [u.cell hg, hbox, ints_len]
  have HI := Lib.hid h
  have HF : Hid (brokP C s = true ↔ ∀ i, i < C.length → (!decide (drop1 (C.getD i 0) ||| s = s)) = true) := Lib.hid all_getD
  have H8 := Lib.hid h256
  clear h hbox h256
  generalize brokP C s = r at *
  go_enter Try.func183, Try.ntmps183
  go_wp2
  go_loopw [4] (fun i wr => ∃ (k : Nat) (v : Later B W), k ≤ C.length ∧ i = .int .i64 k ∧ wr = v.val ∧ Hid (∀ i, i < k → ¬ drop1 (C.getD i 0) ||| s = s)) (fun i _ => C.length - (intOf i).toNat)
  case atStart => exact ⟨0, u, by omega, rfl, rfl, Lib.hid (fun i hi => by omega)⟩
  case round =>
    obtain ⟨k, v, hk, rfl, rfl, hf⟩ := hrel
    by_cases hlt : k < C.length
    · obtain ⟨b, off, rfl, hbB, hcell⟩ := HI.out.at (k := k) (by rw [ints_len]; exact hlt)
      have c0 : ∀ v : Later B W, v.val.cell? ⟨b, off + k, none⟩ = some (.int .i64 ((C.getD k 0 : Nat) : Int)) := fun v => by rw [← ints_getD]; exact hcell v k (by rw [ints_len]; exact hlt)
      obtain ⟨h8, hne⟩ := H8.out k hlt
      have HX : Hid (drop1 (C.getD k 0) ||| s = s → r = false) := Lib.hid (fun h => by
        cases c : r
        · rfl
        · have := HF.out.1 c k hlt
          rw [decide_eq_true h] at this; cases this)
      have HY : Hid (¬ drop1 (C.getD k 0) ||| s = s → ∀ i, i < k + 1 → ¬ drop1 (C.getD i 0) ||| s = s) := Lib.hid (fun h i hi => by
        by_cases c : i = k
        · subst c; exact h
        · exact hf.out i (by omega))
      clear hcell hf
      generalize C.getD k 0 = x at *
      obtain ⟨d, hd8, hlow, htd, hdb, hmin, hdl⟩ := low_facts x h8 hne
      have hel := elems_first hd8 htd hmin
      have hdx : (x : Int) - (bit d : Int) = ((drop1 x : Nat) : Int) := by
        have h1 : drop1 x = nand x (bit d) := eq_of_bits (drop1_lt x h8) (nand_lt _ _ 8 h8) (fun i hi => by
          rw [hdb i hi, nand_testBit_bit]
          by_cases c : i = d
          · subst c; simp
          · simp [c, Ne.symm c])
        have h2 := nand_bit x d h8 hd8 htd
        have h3 := bit_le_of_mem x d h8 hd8 htd
        omega
      have hdr := drop1_lt x h8
      have bd := bit_lt d hd8
      have bc := bit_cast d
      have w1 := IntWalk.i64_in (bit d : Int) (by omega)
      have w2 := IntWalk.i64_in ((drop1 x : Nat) : Int) (by omega)
      have KE := Lib.hid (fun v : Later B W => c_elements v x h8)
      have hl0 : 0 < (elems x).length := by
        rcases Nat.eq_zero_or_pos (elems x).length with h | h
        · rw [List.length_eq_zero_iff.1 h] at hel; cases hel
        · exact h
      have hg0 : (ints (elems x)).getD 0 0 = (d : Int) := by
        rw [ints_getD]
        simp [List.getD, hel]
      clear hlow htd hdb hmin hdl hel
      have q1v := q1 v
      go_upto_region 5 with (first | (go_at_call 159; ((with_reducible refine (KE.out v).mono ?_); rintro e _ ⟨_, rfl, ⟨ad1, cp1, rfl, hI1, hcp1⟩, v2, rfl⟩)))
      obtain ⟨b2, off2, rfl, hb2, hc2⟩ := hI1.at (k := 0) (by rw [ints_len]; exact hl0)
      have e0 : ∀ w : Later v2.val.heap.size v2.val, w.val.cell? ⟨b2, off2, none⟩ = some (.int .i64 (d : Int)) := fun w => by
        have := hc2 w 0 (by rw [ints_len]; exact hl0)
        rwa [hg0, Nat.add_zero] at this
      have c0' : ∀ w : Later v2.val.heap.size v2.val, w.val.cell? ⟨b, off + k, none⟩ = some (.int .i64 (x : Int)) := fun w => c0 (v2.up w)
      have q1' : ∀ w : Later v2.val.heap.size v2.val, w.val.cell? ⟨g, 0, none⟩ = some (.slice (some ⟨b, off, none⟩) C.length cap) := fun w => q1 (v2.up w)
      have KW := Lib.hid (fun w : Later v2.val.heap.size v2.val => c_within w (drop1 x) s (by omega) (by omega))
      rw [ints_len]
      clear hI1 hc2 hcp1 hg0 KE
      obtain ⟨y, hy⟩ : ∃ y : Later v2.val.heap.size v2.val, y.val = v2.val := ⟨Later.self _, rfl⟩
      rw [← hy]
      clear hy
      generalize (elems x).length = el at *
      generalize drop1 x = dx at *
      by_cases hw : dx ||| s = s
      · have K1 := Lib.hid (fun v => dcall_t (KW.out v) hw)
        have hr := HX.out hw
        subst hr
        clear hw KW HX HY
        refine wp_region_later y (by kernel_rfl) (by kernel_rfl) (fun _ => ?_)
        repeat (first | go_big_quiet_step (((go_at_call 107; exact K1.out _))) | (refine wpQuiet_step (fun K hK => ?_); go_simp; refine ⟨_, fun _ => rfl, ?_⟩; refine hK _ ?_; clear hK K))
        refine wpQuiet_nil ?_
        intro y
        go_wp2
        go_ret
        exact Ret.mk (v2.up y) rfl
      · have K1 := Lib.hid (fun v => dcall_f (KW.out v) hw)
        have HN := Lib.hid (HY.out hw)
        clear hw KW HX HY
        refine wp_region_later y (by kernel_rfl) (by kernel_rfl) (fun _ => ?_)
        repeat (first | go_big_quiet_step (((go_at_call 107; exact K1.out _))) | (refine wpQuiet_step (fun K hK => ?_); go_simp; refine ⟨_, fun _ => rfl, ?_⟩; refine hK _ ?_; clear hK K))
        refine wpQuiet_nil ?_
        intro y
        go_wp2
        go_roundw
        case rel => exact ⟨k+1, v2.up y, by omega, by go_num, rfl, HN⟩
        case measure => simp [intOf]; omega
    · have hr : r = true := HF.out.2 (fun i hi => by have := hf.out i (by omega); rw [decide_eq_false this]; rfl)
      subst hr
      go_wp2
      go_ret
      exact Ret.mk v rfl

set_option maxRecDepth 100000 in
set_option maxHeartbeats 4000000 in
theorem c_unbroken {B : Nat} {W : World} (u : Later B W) (m : Nat) (hm : m ≤ 8) (L : List Nat) (h256 : ∀ b, b ∈ L → b < 256) (hlen : L.length ≤ 4611686018427387904) (a : Option Addr) (cap : Nat) (h : IntsAt B W a (ints L)) (hC0 : ∀ i, i < (those m (circB m L)).length → (those m (circB m L)).getD i 0 ≠ 0) :
    Calls Try.prog 74 #[.agg #[.int .i64 m, .slice a (ints L).length cap]] u.val (RetInts B W (ints (those m (brokP (those m (circB m L)))))) := by
  have hb := bit_le m hm
  have T0 : Hid (Two (u.val.alloc (.cells #[.int .i64 m, .slice a (ints L).length cap] 24)) u.val.heap.size 24 (.int .i64 m) (.slice a (ints L).length cap)) := Lib.hid (Two.new _ _ _ _)
  have hr : u.val.heap.size < (u.val.alloc (.cells #[.int .i64 m, .slice a (ints L).length cap] 24)).heap.size := by simp
  have HV : Hid (∀ v : Later (u.val.alloc (.cells #[.int .i64 m, .slice a (ints L).length cap] 24)).heap.size (u.val.alloc (.cells #[.int .i64 m, .slice a (ints L).length cap] 24)), ∃ w : Later B W, w.val = v.val) := Lib.hid (fun v => ⟨(u.alloc _).up v, rfl⟩)
  have K0 : Hid (Calls Try.prog 15 #[.agg #[.int .i64 m, .slice a (ints L).length cap]] (u.val.alloc (.cells #[.int .i64 m, .slice a (ints L).length cap] 24)) (RetInts (u.val.alloc (.cells #[.int .i64 m, .slice a (ints L).length cap] 24)).heap.size (u.val.alloc (.cells #[.int .i64 m, .slice a (ints L).length cap] 24)) (ints (those m (circB m L))))) := Lib.hid (c_circuits (Later.self _) m hm L h256 hlen a cap (h.to (u.alloc _)))
  have q0 := T0.out.c0
  have q1 := T0.out.c1
  have HC8 : Hid (∀ i, i < (those m (circB m L)).length → (those m (circB m L)).getD i 0 < 256 ∧ (those m (circB m L)).getD i 0 ≠ 0) := Lib.hid (fun i hi => ⟨by
    have h2 : (those m (circB m L)).getD i 0 ∈ those m (circB m L) := by simp [hi]
    have := (mem_those.1 h2).1
    omega, hC0 i hi⟩)
  have HCl : Hid ((those m (circB m L)).length ≤ 256) := Lib.hid (by have := thoseTo_len (circB m L) (bit m); have e : those m (circB m L) = thoseTo (circB m L) (bit m) := rfl; rw [e]; omega)
  clear h h256 hC0
  generalize those m (circB m L) = C at *
  go_enter Try.func74, Try.ntmps74
  go_upto_region 2 with (first | (go_at_call 15; ((with_reducible refine (K0.out).mono ?_); rintro e _ ⟨_, rfl, ⟨ad1, cp1, rfl, hI1, hcp1⟩, v1, rfl⟩)))
  clear q0 q1 K0
  have X0 : Hid (RowAt1 (v1.val.alloc (.cells #[.slice ad1 (ints C).length cp1] 22)) v1.val.heap.size 22 (.slice ad1 (ints C).length cp1)) := Lib.hid (heap_alloc_new _ _)
  have hx : v1.val.heap.size < (v1.val.alloc (.cells #[.slice ad1 (ints C).length cp1] 22)).heap.size := by simp
  have hIX : IntsAt (v1.val.alloc (.cells #[.slice ad1 (ints C).length cp1] 22)).heap.size (v1.val.alloc (.cells #[.slice ad1 (ints C).length cp1] 22)) ad1 (ints C) := hI1.to ((Later.self v1.val).alloc _)
  have T1 := Lib.hid (T0.out.keep_at (v1.alloc (.cells #[.slice ad1 (ints C).length cp1] 22)).below hr)
  have K1 : Hid (Calls Try.prog 58 #[.int .i64 m, .func (.func 183) #[] #[.pointer (some ⟨v1.val.heap.size, 0, none⟩)]] (v1.val.alloc (.cells #[.slice ad1 (ints C).length cp1] 22)) (RetInts (v1.val.alloc (.cells #[.slice ad1 (ints C).length cp1] 22)).heap.size (v1.val.alloc (.cells #[.slice ad1 (ints C).length cp1] 22)) (ints (those m (brokP C))))) := Lib.hid (by
    refine c_those (Later.self _) m hm 183 _ (brokP C) (fun args w => by kernel_rfl) (fun x v s hs => ?_)
    exact c_unbTell v C HC8.out HCl.out cp1 v1.val.heap.size ad1 s (by omega) (hIX.to x) (Nat.lt_of_lt_of_le hx x.size) ((X0.out.keep x.below).c0))
  have HVX : Hid (∀ y : Later (v1.val.alloc (.cells #[.slice ad1 (ints C).length cp1] 22)).heap.size (v1.val.alloc (.cells #[.slice ad1 (ints C).length cp1] 22)), ∃ w : Later B W, w.val = y.val) := Lib.hid (fun y => HV.out ((v1.alloc _).up y))
  have t0 : (v1.val.alloc (.cells #[.slice ad1 (ints C).length cp1] 22)).cell? ⟨u.val.heap.size, 0, none⟩ = some (.int .i64 m) := T1.out.c0
  clear hI1 hcp1 hIX
  go_wp2_with (first | (go_at_call 58; ((with_reducible refine (K1.out).mono ?_); rintro e _ ⟨_, rfl, ⟨ad2, cp2, rfl, hI2, hcp2⟩, y1, rfl⟩)))
  go_ret
  exact RetP.of (HVX.out y1) ⟨_, _, rfl, hI2, hcp2⟩

theorem RowAt1.set {w : World} {g : Nat} {t : TypeId} {v : Value} (h : RowAt1 w g t v) (x : Value) : RowAt1 (w.setCell ⟨g, 0, none⟩ x) g t x := by
  have h' : w.heap[g]? = _ := h
  simp only [RowAt1, World.setCell, Array.getElem?_modify, h']
  simp
theorem RowAt1.fz {w : World} {g : Nat} {t : TypeId} {v : Value} (h : RowAt1 w g t v) : w.frozen? ⟨g, 0, none⟩ = false := by
  have h' : w.heap[g]? = _ := h
  unfold World.frozen?
  rw [h']; simp

set_option maxRecDepth 100000 in
set_option maxHeartbeats 4000000 in
theorem c_aboTell {B : Nat} {W : World} (u : Later B W) (A : List Nat) (hlen : A.length ≤ 4611686018427387904) (cap g : Nat) (a : Option Addr) (s : Nat) (h : IntsAt B W a (ints A)) (hg : g < B) (hbox : W.cell? ⟨g, 0, none⟩ = some (.slice a (ints A).length cap)) :
    Calls Try.prog 184 #[.int .i64 s, .pointer (some ⟨g, 0, none⟩)] u.val (Ret B W (.bool (decide (s ∈ A)))) := by
  have q1 : u.val.cell? ⟨g, 0, none⟩ = some (.slice a (ints A).length cap) := by rw [u.cell hg, hbox]
  have KH : Hid (Calls Try.prog 52 #[.slice a (ints A).length cap, .int .i64 s] u.val (Ret B W (.bool (decide (s ∈ A))))) := Lib.hid (by
    have := c_has u (ints A) (s : Int) a cap h (by rw [ints_len]; omega)
    rwa [show decide ((s : Int) ∈ ints A) = decide (s ∈ A) by simp only [mem_ints]] at this)
  clear h hbox
  generalize decide (s ∈ A) = d at *
  go_enter Try.func184, Try.ntmps184
  go_wp2_with (first | (go_at_call 52; refine (KH.out).mono ?_; rintro e _ ⟨rfl, v2, rfl⟩))
  go_ret
  exact Ret.mk v2 rfl

set_option maxRecDepth 100000 in
set_option maxHeartbeats 8000000 in
theorem c_above {B : Nat} {W : World} (u : Later B W) (m r : Nat) (hm : m ≤ 8) (f : Nat) (L : List Nat) (hne : L ≠ []) (hF : Fam8 L r) (hE : Exch L) (hlen : L.length ≤ 4611686018427387904) (a : Option Addr) (cap : Nat) (h : IntsAt B W a (ints L)) (hf : f < bit m) :
    Calls Try.prog 76 #[.agg #[.int .i64 m, .slice a (ints L).length cap], .int .i64 f] u.val (RetOwn B W (ints (those m (fun s => decide (s ∈ aboTo m L f m))))) := by
  have hb := bit_le m hm
  have T0 : Hid (Two (u.val.alloc (.cells #[.int .i64 m, .slice a (ints L).length cap] 24)) u.val.heap.size 24 (.int .i64 m) (.slice a (ints L).length cap)) := Lib.hid (Two.new _ _ _ _)
  have hrr : u.val.heap.size < (u.val.alloc (.cells #[.int .i64 m, .slice a (ints L).length cap] 24)).heap.size := by simp
  have hI : IntsAt (u.val.alloc (.cells #[.int .i64 m, .slice a (ints L).length cap] 24)).heap.size (u.val.alloc (.cells #[.int .i64 m, .slice a (ints L).length cap] 24)) a (ints L) := h.to (u.alloc _)
  have HV : Hid (∀ v : Later (u.val.alloc (.cells #[.int .i64 m, .slice a (ints L).length cap] 24)).heap.size (u.val.alloc (.cells #[.int .i64 m, .slice a (ints L).length cap] 24)), ∃ w : Later B W, w.val = v.val) := Lib.hid (fun v => ⟨(u.alloc _).up v, rfl⟩)
  have q0 : ∀ w : Later (u.val.alloc (.cells #[.int .i64 m, .slice a (ints L).length cap] 24)).heap.size (u.val.alloc (.cells #[.int .i64 m, .slice a (ints L).length cap] 24)), w.val.cell? ⟨u.val.heap.size, 0, none⟩ = some (.int .i64 m) := fun w => (T0.out.keep w.below).c0
  have q1 : ∀ w : Later (u.val.alloc (.cells #[.int .i64 m, .slice a (ints L).length cap] 24)).heap.size (u.val.alloc (.cells #[.int .i64 m, .slice a (ints L).length cap] 24)), w.val.cell? ⟨u.val.heap.size, 1, none⟩ = some (.slice a (ints L).length cap) := fun w => (T0.out.keep w.below).c1
  have p0 : (u.val.alloc (.cells #[.int .i64 m, .slice a (ints L).length cap] 24)).cell? ⟨u.val.heap.size, 0, none⟩ = some (.int .i64 m) := T0.out.c0
  have p1 : (u.val.alloc (.cells #[.int .i64 m, .slice a (ints L).length cap] 24)).cell? ⟨u.val.heap.size, 1, none⟩ = some (.slice a (ints L).length cap) := T0.out.c1
  have KC : Hid (∀ (B : Nat) (W : World) (v : Later B W) (s : Nat), IntsAt B W a (ints L) → s < bit m → Calls Try.prog 21 #[.agg #[.int .i64 m, .slice a (ints L).length cap], .int .i64 s] v.val (Ret B W (.int .i64 (clo m L s)))) := Lib.hid (fun B W v s hI hs => c_refClo v m r hm s L hne hF hE hlen a cap hI hs)
  have HB : Hid (B ≤ (u.val.alloc (.cells #[.int .i64 m, .slice a (ints L).length cap] 24)).heap.size) := Lib.hid (by have := u.size; simp; omega)
  clear h hne hF hE p0 p1 T0
  have hf8 : f < 256 := by omega
  go_enter Try.func76, Try.ntmps76
  go_upto_region 1 with fail
  generalize u.val.heap.size = gu at *
  generalize (u.val.alloc (.cells #[.int .i64 m, .slice a (ints L).length cap] 24)) = V at *
  go_upto_region 2 with fail
  have HR0 : Hid (RowAt1 (V.alloc (.cells #[.slice none 0 0] 22)) V.heap.size 22 (.slice none (ints (aboTo m L f 0)).length 0)) := Lib.hid (heap_alloc_new _ _)
  have HZ : Hid (∃ w : Later V.heap.size V, w.val = (V.alloc (.cells #[.slice none 0 0] 22))) := Lib.hid ⟨(Later.self V).alloc _, rfl⟩
  obtain ⟨gb, hgb⟩ : ∃ gb, V.heap.size = gb := ⟨_, rfl⟩
  rw [hgb] at HR0 ⊢
  have HGB := Lib.hid hgb
  clear hgb
  generalize (V.alloc (.cells #[.slice none 0 0] 22)) = Y at *
  obtain ⟨y, hy⟩ := HZ.out
  subst hy
  clear HZ
  go_wp2
  go_loopw [6] (fun i wr => ∃ (k : Nat) (ad : Option Addr) (cp : Nat) (v : Later V.heap.size V), k ≤ m ∧ i = .int .i64 k ∧ wr = v.val ∧ Hid (RowAt1 v.val gb 22 (.slice ad (ints (aboTo m L f k)).length cp)) ∧ Hid (Own (gb + 1) v.val ad cp (ints (aboTo m L f k)))) (fun i _ => m - (intOf i).toNat)
  case atStart => exact ⟨0, none, 0, y, by omega, rfl, rfl, HR0, Lib.hid (Own.nil _ _)⟩
  case round =>
    clear y HR0
    obtain ⟨k, ad, cp, v, hk, rfl, rfl, HR, HO⟩ := hrel
    by_cases hlt : k < m
    · have KI := Lib.hid (fun w : Later v.val.heap.size v.val => c_in w f k (by omega) (by omega))
      have HRw : Hid (∀ w : Later v.val.heap.size v.val, RowAt1 w.val gb 22 (.slice ad (ints (aboTo m L f k)).length cp)) := Lib.hid (fun w => HR.out.keep w.below)
      have HOw : Hid (∀ w : Later v.val.heap.size v.val, Own (gb + 1) w.val ad cp (ints (aboTo m L f k))) := Lib.hid (fun w => HO.out.keep w.below)
      have t0 : ∀ w : Later v.val.heap.size v.val, w.val.cell? ⟨gu, 0, none⟩ = some (.int .i64 m) := fun w => q0 (v.up w)
      have t1 : ∀ w : Later v.val.heap.size v.val, w.val.cell? ⟨gu, 1, none⟩ = some (.slice a (ints L).length cap) := fun w => q1 (v.up w)
      have hgv : gb < v.val.heap.size := HR.out.lt
      obtain ⟨y, hy⟩ : ∃ y : Later v.val.heap.size v.val, y.val = v.val := ⟨Later.self _, rfl⟩
      have HS : Hid (aboTo m L f (k + 1) = if f.testBit k = true then aboTo m L f k else aboTo m L f k ++ [clo m L (f ||| bit k)]) := Lib.hid rfl
      have HL : Hid ((ints (aboTo m L f k)).length ≤ 8) := Lib.hid (by rw [ints_len]; have := aboTo_len m L f k; omega)
      clear HR HO
      rw [← hy]
      clear hy
      generalize aboTo m L f k = T at *
      rcases btf (f.testBit k) with g1 | g1
      · rw [g1] at KI
        have HN : Hid (aboTo m L f (k + 1) = T) := Lib.hid (by rw [HS.out, if_pos g1])
        clear g1 HS
        go_wp2_with (first | (go_at_call 128; ((with_reducible refine (KI.out _).mono ?_); rintro e _ ⟨rfl, y, rfl⟩)))
        go_roundw
        case rel => exact ⟨k+1, ad, cp, v.up y, by omega, by go_num, rfl, Lib.hid (by rw [HN.out]; exact HRw.out y), Lib.hid (by rw [HN.out]; exact HOw.out y)⟩
        case measure => simp [intOf]; omega
      · rw [g1] at KI
        have HN : Hid (aboTo m L f (k + 1) = T ++ [clo m L (f ||| bit k)]) := Lib.hid (by rw [HS.out, if_neg (by rw [g1]; decide)])
        clear g1 HS
        have hbk := bit_lt k (by omega)
        have bc := bit_cast k
        have w1 := IntWalk.i64_in (bit k : Int) (by omega)
        have o1 := i64_or f (bit k) (by omega) (by omega)
        have hor : f ||| bit k < bit m := or_lt_bit hf (bit_lt_bit hlt)
        go_upto_region 6 with (first | (go_at_call 128; ((with_reducible refine (KI.out _).mono ?_); rintro e _ ⟨rfl, y, rfl⟩)))
        have KC1 := Lib.hid (fun w : Later y.val.heap.size y.val => KC.out _ _ w (f ||| bit k) ((hI.to v).to y) hor)
        have b0 : ∀ w : Later y.val.heap.size y.val, w.val.cell? ⟨gb, 0, none⟩ = some (.slice ad (ints T).length cp) := fun w => (HRw.out (y.up w)).c0
        have t0' : ∀ w : Later y.val.heap.size y.val, w.val.cell? ⟨gu, 0, none⟩ = some (.int .i64 m) := fun w => t0 (y.up w)
        have t1' : ∀ w : Later y.val.heap.size y.val, w.val.cell? ⟨gu, 1, none⟩ = some (.slice a (ints L).length cap) := fun w => t1 (y.up w)
        obtain ⟨cl, hcl⟩ : ∃ cl, clo m L (f ||| bit k) = cl := ⟨_, rfl⟩
        rw [hcl] at HN KC1
        clear hcl
        generalize f ||| bit k = z at *
        have sa : ∀ w : Later y.val.heap.size y.val, w.val.cell? ⟨gu, 0, none⟩ = some (.int .i64 m) ∧ w.val.cell? ⟨gu, 1, none⟩ = some (.slice a (ints L).length cap) ∧ w.val.cell? ⟨gb, 0, none⟩ = some (.slice ad (ints T).length cp) := fun w => ⟨t0' w, t1' w, b0 w⟩
        have s0 : y.val.drew.cell? ⟨gu, 0, none⟩ = some (.int .i64 m) ∧ y.val.drew.cell? ⟨gu, 1, none⟩ = some (.slice a (ints L).length cap) ∧ y.val.drew.cell? ⟨gb, 0, none⟩ = some (.slice ad (ints T).length cp) := sa (Later.self y.val).drew
        have hgug : gu < gb + 1 := by have := HGB.out; omega
        have HOy : Hid (∀ y2 : Later y.val.heap.size y.val, Own (gb + 1) y2.val ad cp (ints T)) := Lib.hid (fun y2 => HOw.out (y.up y2))
        have HRy : Hid (∀ y2 : Later y.val.heap.size y.val, RowAt1 y2.val gb 22 (.slice ad (ints T).length cp)) := Lib.hid (fun y2 => HRw.out (y.up y2))
        have HRu : Hid (∀ (y2 : Later y.val.heap.size y.val) (w : Later (gb + 1) y2.val), RowAt1 w.val gb 22 (.slice ad (ints T).length cp)) := Lib.hid (fun y2 w => by
          show w.val.heap[gb]? = _
          rw [w.below.block gb (by omega)]; exact HRy.out y2)
        have sb : ∀ (y2 : Later y.val.heap.size y.val) (w : Later (gb + 1) y2.val), w.val.cell? ⟨gu, 0, none⟩ = some (.int .i64 m) ∧ w.val.cell? ⟨gu, 1, none⟩ = some (.slice a (ints L).length cap) ∧ w.val.cell? ⟨gb, 0, none⟩ = some (.slice ad (ints T).length cp) := fun y2 w => ⟨by rw [w.cell (a := ⟨gu, 0, none⟩) hgug]; exact t0' y2, by rw [w.cell (a := ⟨gu, 1, none⟩) hgug]; exact t1' y2, (HRu.out y2 w).c0⟩
        have b2 : ∀ (y2 : Later y.val.heap.size y.val) (w : Later (gb + 1) y2.val), w.val.frozen? ⟨gb, 0, none⟩ = false := fun y2 w => (HRu.out y2 w).fz
        have b1 : ∀ (y2 : Later y.val.heap.size y.val) (w : Later (gb + 1) y2.val), w.val.cell? ⟨gb, 0, none⟩ = some (.slice ad (ints T).length cp) := fun y2 w => (HRu.out y2 w).c0
        have hTl : (ints T).length + 1 ≤ 1099511627776 := by have := HL.out; omega
        have KCd : Hid (Calls Try.prog 21 #[.agg #[.int .i64 m, .slice a (ints L).length cap], .int .i64 z] y.val.drew (Ret y.val.heap.size y.val (.int .i64 cl))) := Lib.hid (KC1.out (Later.self y.val).drew)
        have sg : y.val.drew.cell? ⟨gb, 0, none⟩ = some (.slice ad (ints T).length cp) := b0 (Later.self y.val).drew
        have sg2 : ∀ (w : Later y.val.heap.size y.val) (o : Obj), (w.val.alloc o).cell? ⟨gb, 0, none⟩ = some (.slice ad (ints T).length cp) := fun w o => b0 (w.alloc o)
        have sd : ∀ w : Later y.val.heap.size y.val, w.val.cell? ⟨gu, 0, none⟩ = some (.int .i64 m) ∧ w.val.cell? ⟨gu, 1, none⟩ = some (.slice a (ints L).length cap) := fun w => ⟨t0' w, t1' w⟩
        have se : ∀ (y2 : Later y.val.heap.size y.val) (w : Later (gb + 1) y2.val) (x : Value), (w.val.setCell ⟨gb, 0, none⟩ x).cell? ⟨gu, 0, none⟩ = some (.int .i64 m) ∧ (w.val.setCell ⟨gb, 0, none⟩ x).cell? ⟨gu, 1, none⟩ = some (.slice a (ints L).length cap) := fun y2 w x => by
          obtain ⟨e1, e2, _⟩ := sb y2 w
          have hgg : gb ≠ gu := by have := HGB.out; omega
          exact ⟨by rw [World.cell?_setCell_far _ _ _ _ hgg]; exact e1, by rw [World.cell?_setCell_far _ _ _ _ hgg]; exact e2⟩
        have s1 : y.val.drew.cell? ⟨gu, 0, none⟩ = some (.int .i64 m) := s0.1
        have s2 : y.val.drew.cell? ⟨gu, 1, none⟩ = some (.slice a (ints L).length cap) := s0.2.1
        clear s0 sa sb sd se
        go_region_law (first | ((refine step_push (B := gb + 1) (W := y2.val) (w := y2.val) (Below.refl _ _) (HRy.out y2).lt (by rfl) _ _ (by rfl) (ints T) ad cp (cl : Int) (by rfl) (HOy.out y2) (by rfl) hTl ?_; intro u2 ad3 cp3 hown)) | (go_simp; go_at_call 21; (with_reducible refine (KCd.out).mono ?_); rintro e _ ⟨rfl, y2, rfl⟩))
        all_goals
          have HR3 : Hid (RowAt1 u2.val gb 22 (.slice ad (ints T).length cp)) := Lib.hid (HRu.out y2 u2)
          have HVu : Hid (∃ w : Later V.heap.size V, w.val = u2.val) := Lib.hid ⟨(v.up (y.up y2)).to u2.val (u2.below.mono (by have := HGB.out; show V.heap.size ≤ gb + 1; omega)), rfl⟩
          go_wp2
          go_roundw
          case rel =>
            obtain ⟨w, hw⟩ := later_set HVu.out (g := gb) (i := 0) (by have := HGB.out; omega) (.slice ad3 (ints T ++ [(cl : Int)]).length cp3)
            refine ⟨k+1, ad3, cp3, w, by omega, by go_num, ?_, ?_, ?_⟩
            · rw [hw]; simp
            · rw [HN.out, ints_snoc, hw]; exact Lib.hid (HR3.out.set _)
            · rw [HN.out, ints_snoc, hw]; exact Lib.hid (hown.set (by omega) _)
          case measure => simp [intOf]; omega
    · have hke : k = m := by omega
      subst hke
      have KT : Hid (Calls Try.prog 58 #[.int .i64 k, .func (.func 184) #[] #[.pointer (some ⟨gb, 0, none⟩)]] v.val (RetOwn v.val.heap.size v.val (ints (those k (fun s => decide (s ∈ aboTo k L f k)))))) := Lib.hid (by
        refine c_those_own (Later.self v.val) k hm 184 _ (fun s => decide (s ∈ aboTo k L f k)) (fun args w => by kernel_rfl) (fun x v' s hs => ?_)
        exact c_aboTell v' (aboTo k L f k) (by have := aboTo_len k L f k; omega) cp gb ad s ((HO.out.reads.to x)) (Nat.lt_of_lt_of_le HR.out.lt x.size) ((HR.out.keep x.below).c0))
      have HVB : Hid (∀ y : Later v.val.heap.size v.val, ∃ w : Later B W, w.val = y.val) := Lib.hid (fun y => HV.out (v.up y))
      have HBv : Hid (B ≤ v.val.heap.size) := Lib.hid (by have := HB.out; have := v.size; omega)
      have t0 := q0 v
      go_wp2_with (first | (go_at_call 58; ((with_reducible refine (KT.out).mono ?_); rintro e _ ⟨_, rfl, ⟨ad2, cp2, rfl, hO2⟩, y1, rfl⟩)))
      go_ret
      exact RetP.of (HVB.out y1) ⟨_, _, rfl, hO2.mono HBv.out⟩

end Go.Proofs.Ytjpcelldbhdneaa
