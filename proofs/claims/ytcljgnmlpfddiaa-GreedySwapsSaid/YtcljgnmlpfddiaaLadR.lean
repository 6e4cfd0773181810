/-
  rotaref.Ladder.
-/
import Derived.Test.YtcljgnmlpfddiaaLadW
namespace Go.Proofs.Ytcljgnmlpfddiaa
open Go.RowKit
set_option linter.unusedVariables false

theorem elems_first {s o : Nat} (ho : o < 8) (h : s.testBit o = true) (hmin : ∀ i, i < 8 → s.testBit i = true → o ≤ i) : (elems s)[0]? = some o := by
  rw [← List.head?_eq_getElem?]
  unfold elems
  rw [List.head?_filter, List.find?_range_eq_some]
  refine ⟨h, by simpa using ho, fun j hj => ?_⟩
  cases c : s.testBit j
  · rfl
  · have := hmin j (by omega) c; omega
theorem mem_elems {s x : Nat} : x ∈ elems s ↔ x < 8 ∧ s.testBit x = true := by simp [elems]
theorem elems_rise (s : Nat) {i j : Nat} (hij : i < j) (hj : j < (elems s).length) : (elems s).getD i 0 < (elems s).getD j 0 := by
  have hp : List.Pairwise (· < ·) (elems s) := (List.pairwise_lt_range).filter _
  have := List.pairwise_iff_getElem.1 hp i j (by omega) hj hij
  have a : (elems s).getD i 0 = (elems s)[i] := by simp [show i < (elems s).length by omega]
  have b : (elems s).getD j 0 = (elems s)[j] := by simp [hj]
  rw [a, b]; exact this
theorem elems_mem (s : Nat) {i : Nat} (h : i < (elems s).length) : (elems s).getD i 0 < 8 ∧ s.testBit ((elems s).getD i 0) = true := by
  have : (elems s).getD i 0 = (elems s)[i] := by simp [h]
  rw [this]
  exact mem_elems.1 (List.getElem_mem h)
theorem elems_at {s d : Nat} (hd : d < 8) (h : s.testBit d = true) : ∃ j, j < (elems s).length ∧ (elems s).getD j 0 = d ∧ ∀ i, i < j → (elems s).getD i 0 < d := by
  obtain ⟨j, hj, e⟩ := List.getElem_of_mem (mem_elems.2 ⟨hd, h⟩)
  have e2 : (elems s).getD j 0 = d := by simp [hj, e]
  exact ⟨j, hj, e2, fun i hi => by rw [← e2]; exact elems_rise s hi hj⟩

/-- a row whose first number is this -/
def FirstIs (W : World) (o : Nat) (v : Value) (w : World) : Prop := ∃ b off n cap, v = .slice (some ⟨b, off, none⟩) n cap ∧ 1 ≤ n ∧ n ≤ 8 ∧ (∀ x : Later W.heap.size w, x.val.cell? ⟨b, off + 0, none⟩ = some (.int .i64 (o : Int)) ∧ x.val.cell? ⟨b, off, none⟩ = some (.int .i64 (o : Int)))

set_option maxRecDepth 100000 in
set_option maxHeartbeats 8000000 in
theorem c_refLadder (m Bb : Nat) (L : List Nat) (a : Option Addr) (cap : Nat) (hlen : L.length ≤ 4611686018427387904) (hm : m ≤ 8) (hB8 : Bb < 256) : ∀ k, ∀ (B : Nat) (W : World) (u : Later B W) (A : Nat) (l : List Nat), IntsAt B W a (ints L) → A < 256 → LadIs L Bb A l → nand A Bb = k →
    Calls Try.prog 76 #[.agg #[.int .i64 m, .slice a (ints L).length cap], .int .i64 A, .int .i64 Bb] u.val (RetInts B W (ints l)) := by
  intro k
  induction k using Nat.strongRecOn with
  | ind k ih =>
  intro B W u A l h hA8 hl hk
  have huB := u.size
  by_cases hab : A = Bb
  · have hle := hl.stop hab
    subst hle
    subst hab
    have d0 : ((A : Int) == (A : Int)) = true := by simp
    have O1 : Hid (Own B ((u.alloc (.cells #[.int .i64 m, .slice a (ints L).length cap] 60)).alloc (.cells #[.int .i64 (A : Int)] 3)).val (some ⟨u.val.heap.size + 1, 0, none⟩) 1 [(A : Int)]) := Lib.hid (by
      have := Own.lit (u.alloc (.cells #[.int .i64 m, .slice a (ints L).length cap] 60)).size (A : Int)
      rwa [show (u.alloc (.cells #[.int .i64 m, .slice a (ints L).length cap] 60)).val.heap.size = u.val.heap.size + 1 by show (u.val.alloc _).heap.size = _; simp] at this)
    clear ih h hl hk
    go_enter Try.func76, Try.ntmps76
    go_wp2
    go_ret
    exact RetP.mk ((u.alloc _).alloc _) (Reads.of_own O1.out)
  obtain ⟨o, d, l2, rfl, hst, hlad⟩ := hl.next hab
  have hlen8 := LadIs.len _ _ hA8 hl
  have hnA : nand A Bb < 256 := nand_lt _ _ 8 hA8
  have hnB : nand Bb A < 256 := nand_lt _ _ 8 hB8
  have HLn : Hid (l2.length ≤ 256) := Lib.hid (by simp at hlen8; omega)
  have hlt := hst.lt hA8
  have ho8 := hst.o8
  have hd8 := hst.d8
  have hnew : nand A (bit o) ||| bit d < 256 := or_lt _ _ (nand_lt _ _ 8 hA8) (bit_lt256 d hd8)
  have HIH : Hid (∀ X : World, IntsAt X.heap.size X a (ints L) → Calls Try.prog 76 #[.agg #[.int .i64 m, .slice a (ints L).length cap], .int .i64 ((nand A (bit o) ||| bit d : Nat) : Int), .int .i64 Bb] X (RetInts X.heap.size X (ints l2))) := Lib.hid (fun X hX => ih _ (by omega) X.heap.size X (Later.self X) _ l2 hX hnew hlad rfl)
  have d0 : ((A : Int) == (Bb : Int)) = false := by rw [beq_eq_false_iff_ne]; omega
  have T0 : Hid (Two (u.val.alloc (.cells #[.int .i64 m, .slice a (ints L).length cap] 60)) u.val.heap.size 60 (.int .i64 m) (.slice a (ints L).length cap)) := Lib.hid (Two.new _ _ _ _)
  have hI : IntsAt (u.val.alloc (.cells #[.int .i64 m, .slice a (ints L).length cap] 60)).heap.size (u.val.alloc (.cells #[.int .i64 m, .slice a (ints L).length cap] 60)) a (ints L) := h.to (u.alloc _)
  have HV : Hid (∀ v : Later (u.val.alloc (.cells #[.int .i64 m, .slice a (ints L).length cap] 60)).heap.size (u.val.alloc (.cells #[.int .i64 m, .slice a (ints L).length cap] 60)), ∃ w : Later B W, w.val = v.val) := Lib.hid (fun v => ⟨(u.alloc _).up v, rfl⟩)
  have q0 : ∀ w : Later (u.val.alloc (.cells #[.int .i64 m, .slice a (ints L).length cap] 60)).heap.size (u.val.alloc (.cells #[.int .i64 m, .slice a (ints L).length cap] 60)), w.val.cell? ⟨u.val.heap.size, 0, none⟩ = some (.int .i64 m) := fun w => (T0.out.keep w.below).c0
  have q1 : ∀ w : Later (u.val.alloc (.cells #[.int .i64 m, .slice a (ints L).length cap] 60)).heap.size (u.val.alloc (.cells #[.int .i64 m, .slice a (ints L).length cap] 60)), w.val.cell? ⟨u.val.heap.size, 1, none⟩ = some (.slice a (ints L).length cap) := fun w => (T0.out.keep w.below).c1
  have o1 := i64_andNot A Bb (by omega) (by omega)
  have o3 := i64_andNot Bb A (by omega) (by omega)
  have HSt := Lib.hid hst
  have KE1 : Hid (Calls Try.prog 120 #[.int .i64 (nand A Bb : Nat)] (u.val.alloc (.cells #[.int .i64 m, .slice a (ints L).length cap] 60)) (RetP (u.val.alloc (.cells #[.int .i64 m, .slice a (ints L).length cap] 60)).heap.size (u.val.alloc (.cells #[.int .i64 m, .slice a (ints L).length cap] 60)) (fun v w => ∃ b off n cap, v = .slice (some ⟨b, off, none⟩) n cap ∧ (1 ≤ n ∧ n ≤ 8) ∧ w.cell? ⟨b, off + 0, none⟩ = some (.int .i64 (o : Int)) ∧ w.cell? ⟨b, off, none⟩ = some (.int .i64 (o : Int))))) := Lib.hid (by
    refine (c_elements (Later.self _) (nand A Bb) hnA).mono ?_
    rintro e _ ⟨_, rfl, ⟨ad1, cp1, rfl, hI1, hcp1⟩, v1, rfl⟩
    have h0 : nand A Bb ≠ 0 := fun e => by
      have := congrArg (fun x => x.testBit o) e
      simp only [nand_testBit, Nat.zero_testBit, hst.Ao, hst.Bo] at this
      cases this
    obtain ⟨e, he, h1, h2, h3, h4, h5⟩ := low_facts _ hnA h0
    have heo : e = o := by
      have h6 := congrArg (fun x => x.testBit o) (show bit e = bit o by rw [← h1, hst.lowo])
      simp only [testBit_bit] at h6
      simpa using h6
    subst heo
    have hf := elems_first he h2 h4
    obtain ⟨hl0, hv0⟩ := List.getElem?_eq_some_iff.1 hf
    obtain ⟨b, off, rfl, hbB, hc⟩ := hI1 (fun e => by have := congrArg List.length e; rw [ints_len] at this; have h9 : (elems (nand A Bb)).length = 0 := this; omega)
    have hc0 := hc 0 (by rw [ints_len]; exact hl0)
    rw [show (ints (elems (nand A Bb))).getD 0 0 = (e : Int) by rw [ints_getD]; simp [hf]] at hc0
    refine ⟨_, rfl, ⟨b, off, (ints (elems (nand A Bb))).length, cp1, rfl, ⟨by rw [ints_len]; omega, by rw [ints_len]; exact sz_le _⟩, hc0, hc0⟩, v1, rfl⟩)
  have KE2 := Lib.hid (fun v : Later (u.val.alloc (.cells #[.int .i64 m, .slice a (ints L).length cap] 60)).heap.size (u.val.alloc (.cells #[.int .i64 m, .slice a (ints L).length cap] 60)) => c_elements v (nand Bb A) hnB)
  have hbo := bit_lt o ho8
  have hbc := bit_cast o
  clear ih h hl hst hlad hlt T0 hk
  go_enter Try.func76, Try.ntmps76
  go_upto_region 5 with (first | (go_at_call 120; ((with_reducible refine (KE1.out).mono ?_); rintro e _ ⟨_, rfl, ⟨b1, off1, n1, cp1, rfl, hn1, c1, c2⟩, v1, rfl⟩)) | (go_at_call 120; ((with_reducible refine (KE2.out _).mono ?_); rintro e _ ⟨_, rfl, ⟨ad2, cp2, rfl, hI2, hcp2⟩, v2, rfl⟩)))
  have HI2 := Lib.hid hI2
  have HVB : Hid (∀ w : World, Below v2.val.heap.size v2.val w → ∃ w' : Later B W, w'.val = w) := Lib.hid (fun w hw => by
    obtain ⟨w', hw'⟩ := HV.out v2
    exact ⟨w'.to w (by rw [hw']; exact hw.mono (by rw [← hw']; exact w'.size)), rfl⟩)
  have hIV : IntsAt v2.val.heap.size v2.val a (ints L) := hI.to v2
  have p0 : ∀ w : Later v2.val.heap.size v2.val, w.val.cell? ⟨u.val.heap.size, 0, none⟩ = some (.int .i64 m) := fun w => q0 (v2.up w)
  have p1 : ∀ w : Later v2.val.heap.size v2.val, w.val.cell? ⟨u.val.heap.size, 1, none⟩ = some (.slice a (ints L).length cap) := fun w => q1 (v2.up w)
  have hgv : u.val.heap.size < v2.val.heap.size := by have := v2.size; simp at this; omega
  clear hI2 hcp2 c1 c2 KE1 KE2 q0 q1 HV hI
  obtain ⟨j0, hj0, hj1, hj2⟩ := elems_at hd8 (show (nand Bb A).testBit d = true by rw [nand_testBit, HSt.out.Bd, HSt.out.Ad]; rfl)
  have HJ : Hid ((elems (nand Bb A)).getD j0 0 = d) := Lib.hid hj1
  have HJ2 : Hid (∀ i, i < j0 → (elems (nand Bb A)).getD i 0 < 8 ∧ ¬ (nand A (bit o) ||| bit ((elems (nand Bb A)).getD i 0)) ∈ L) := Lib.hid (fun i hi => by
    have h1 := elems_mem (nand Bb A) (show i < (elems (nand Bb A)).length by omega)
    have h2 := h1.2
    rw [nand_testBit] at h2
    simp only [Bool.and_eq_true, Bool.not_eq_true'] at h2
    exact ⟨h1.1, HSt.out.first _ (hj2 i hi) h2.1 h2.2⟩)
  have HJ3 : Hid (∀ i, i ≤ j0 → A.testBit ((elems (nand Bb A)).getD i 0) = false) := Lib.hid (fun i hi => by
    have h1 := elems_mem (nand Bb A) (show i < (elems (nand Bb A)).length by omega)
    have h2 := h1.2
    rw [nand_testBit] at h2
    simp only [Bool.and_eq_true, Bool.not_eq_true'] at h2
    exact h2.2)
  have hE8 : (elems (nand Bb A)).length ≤ 8 := sz_le _
  clear hj1 hj2
  rw [show (ints (elems (nand Bb A))).length = (elems (nand Bb A)).length from ints_len _]
  generalize elems (nand Bb A) = E at *
  have KH : Hid (∀ (v : Later v2.val.heap.size v2.val) (z : Nat) (d : Bool), decide (z ∈ L) = d → Calls Try.prog 75 #[.slice a (ints L).length cap, .int .i64 (z : Int)] v.val (Ret v2.val.heap.size v2.val (.bool d))) := Lib.hid (fun v z d hd => by
    have := c_has v (ints L) (z : Int) a cap hIV (by rw [ints_len]; omega)
    rwa [show decide ((z : Int) ∈ ints L) = d by rw [← hd]; simp only [mem_ints]] at this)
  have HIH2 : Hid (∀ w : Later v2.val.heap.size v2.val, Calls Try.prog 76 #[.agg #[.int .i64 m, .slice a (ints L).length cap], .int .i64 ((nand A (bit o) ||| bit d : Nat) : Int), .int .i64 Bb] w.val (RetInts w.val.heap.size w.val (ints l2))) := Lib.hid (fun w => HIH.out w.val (hIV.to w))
  have HAo : Hid (A.testBit o = true) := Lib.hid HSt.out.Ao
  have HHit : Hid ((nand A (bit o) ||| bit d) ∈ L) := Lib.hid HSt.out.hit
  have hLL := hlen
  clear hIV HIH HSt hlen hlen8 hnA hnB
  generalize u.val.heap.size = gu at *
  generalize hV : v2.val = V at *
  clear hV
  go_wp2
  go_loopw [9] (fun i wr => ∃ (k : Nat) (v : Later V.heap.size V), k ≤ j0 ∧ i = .int .i64 k ∧ wr = v.val) (fun i _ => j0 + 1 - (intOf i).toNat)
  case atStart => exact ⟨0, Later.self _, by omega, rfl, rfl⟩
  case round =>
    obtain ⟨k, v, hk, rfl, rfl⟩ := hrel
    have hkE : k < E.length := by omega
    obtain ⟨bb, off, rfl, hbB, hcell⟩ := HI2.out.at (k := k) (by rw [ints_len]; exact hkE)
    have c0 : ∀ v : Later V.heap.size V, v.val.cell? ⟨bb, off + k, none⟩ = some (.int .i64 ((E.getD k 0 : Nat) : Int)) := fun v => by rw [← ints_getD]; exact hcell v k (by rw [ints_len]; exact hkE)
    have hxA := HJ3.out k hk
    have h0 := bit_le_of_mem A o hA8 ho8 HAo.out
    have h1 := nand_bit A o hA8 ho8 HAo.out
    have hna : nand A (bit o) < 256 := nand_lt _ _ 8 hA8
    have w1 := IntWalk.i64_in ((A : Int) - (bit o : Int)) (by omega)
    have w3 := IntWalk.i64_in (bit o : Int) (by omega)
    by_cases hkj : k = j0
    · subst hkj
      rw [HJ.out] at c0 hxA
      have hbd := bit_lt d hd8
      have hbdc := bit_cast d
      have h2 := or_bit (nand A (bit o)) d hna hd8 (by rw [nand_testBit, hxA]; rfl)
      have HSum : Hid ((A : Int) - (bit o : Int) + (bit d : Int) = ((nand A (bit o) ||| bit d : Nat) : Int)) := Lib.hid (by rw [h2, h1]; omega)
      have w2 := IntWalk.i64_in ((A : Int) - (bit o : Int) + (bit d : Int)) (by rw [h1] at hna; omega)
      have w4 := IntWalk.i64_in (bit d : Int) (by omega)
      have K1 : Hid (∀ v : Later V.heap.size V, Calls Try.prog 75 #[.slice a (ints L).length cap, .int .i64 ((A : Int) - (bit o : Int) + (bit d : Int))] v.val (Ret V.heap.size V (.bool true))) := Lib.hid (fun v => by
        rw [HSum.out]
        exact KH.out v _ true (by simp [HHit.out]))
      have K2 : Hid (∀ w : Later V.heap.size V, Calls Try.prog 76 #[.agg #[.int .i64 m, .slice a (ints L).length cap], .int .i64 ((A : Int) - (bit o : Int) + (bit d : Int)), .int .i64 Bb] w.val (RetInts w.val.heap.size w.val (ints l2))) := Lib.hid (fun w => by
        rw [HSum.out]
        exact HIH2.out w)
      clear hcell h0 h1 h2 HIH2 KH HJ HJ2 HJ3 HAo HHit HSum hxA
      have p0a : ∀ w : Later V.heap.size V, (w.val.alloc (.cells #[.int .i64 (A : Int)] 3)).cell? ⟨gu, 0, none⟩ = some (.int .i64 m) := fun w => p0 (w.alloc _)
      have p1a : ∀ w : Later V.heap.size V, (w.val.alloc (.cells #[.int .i64 (A : Int)] 3)).cell? ⟨gu, 1, none⟩ = some (.slice a (ints L).length cap) := fun w => p1 (w.alloc _)
      go_wp2
      refine wp_region_later v (by kernel_rfl) (by kernel_rfl) (fun _ => ?_)
      repeat (first | go_big_quiet_step ((fail)) | (refine wpQuiet_step (fun K hK => ?_); go_simp; refine ⟨_, fun _ => rfl, ?_⟩; refine hK _ ?_; clear hK K))
      refine wpQuiet_nil ?_
      intro v
      go_wp2_with (first | (go_at_call 75; ((with_reducible refine (K1.out _).mono ?_); rintro e _ ⟨rfl, v3, rfl⟩)) | (go_at_call 76; ((refine (K2.out (v3.alloc _)).mono ?_); rintro e _ ⟨_, rfl, ⟨ad3, cp3, rfl, hI3, hcp3⟩, v4, rfl⟩; have HI3 := Lib.hid hI3; have HC3 := Lib.hid hcp3; clear hI3 hcp3)) | (at_builtin; refine wpList_appends_g (B := V.heap.size) (w := v4.val) ((v3.alloc (.cells #[.int .i64 (A : Int)] 3)).up v4).size rfl _ _ rfl [(A : Int)] (some ⟨v3.val.heap.size, 0, none⟩) 1 rfl ((Own.lit v3.size (A : Int)).keep v4.below) (ints l2) ad3 cp3 rfl HI3.out HC3.out (by have := HLn.out; rw [ints_len]; simp; omega) ?_; intro w' ad' cap' hown hg))
      go_ret
      have hbel : Below V.heap.size V w' := own_below ((v3.alloc (.cells #[.int .i64 (A : Int)] 3)).up v4).below ((v3.alloc (.cells #[.int .i64 (A : Int)] 3)).up v4).size ((Own.lit v3.size (A : Int)).keep v4.below) hg
      exact RetP.of (HVB.out w' hbel) (Reads.of_own hown)
    · have hlt : k < j0 := by omega
      obtain ⟨hx8, hxL⟩ := HJ2.out k hlt
      generalize E.getD k 0 = x at *
      have hbd := bit_lt x hx8
      have hbdc := bit_cast x
      have h2 := or_bit (nand A (bit o)) x hna hx8 (by rw [nand_testBit, hxA]; rfl)
      have HSum : Hid ((A : Int) - (bit o : Int) + (bit x : Int) = ((nand A (bit o) ||| bit x : Nat) : Int)) := Lib.hid (by rw [h2, h1]; omega)
      have w2 := IntWalk.i64_in ((A : Int) - (bit o : Int) + (bit x : Int)) (by rw [h1] at hna; omega)
      have w4 := IntWalk.i64_in (bit x : Int) (by omega)
      have K1 : Hid (∀ v : Later V.heap.size V, Calls Try.prog 75 #[.slice a (ints L).length cap, .int .i64 ((A : Int) - (bit o : Int) + (bit x : Int))] v.val (Ret V.heap.size V (.bool false))) := Lib.hid (fun v => by
        rw [HSum.out]
        exact KH.out v _ false (by simp [hxL]))
      clear hcell h0 h1 h2 HIH2 KH HJ HAo HHit HSum hxA hxL
      go_wp2
      refine wp_region_later v (by kernel_rfl) (by kernel_rfl) (fun _ => ?_)
      repeat (first | go_big_quiet_step ((fail)) | (refine wpQuiet_step (fun K hK => ?_); go_simp; refine ⟨_, fun _ => rfl, ?_⟩; refine hK _ ?_; clear hK K))
      refine wpQuiet_nil ?_
      intro v
      go_wp2_with (first | (go_at_call 75; ((with_reducible refine (K1.out _).mono ?_); rintro e _ ⟨rfl, v3, rfl⟩)))
      go_roundw
      case rel => exact ⟨k+1, v3, by omega, by go_num, rfl⟩
      case measure => simp [intOf]; omega

end Go.Proofs.Ytcljgnmlpfddiaa
