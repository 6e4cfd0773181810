/-
  greedy.Ladder.
-/
import Derived.Test.YtcljgnmlpfddiaaSwRef
namespace Go.Proofs.Ytcljgnmlpfddiaa
open Go.RowKit
set_option linter.unusedVariables false

theorem LadIs.stop {L : List Nat} {Bb A : Nat} {l : List Nat} (h : LadIs L Bb A l) (e : A = Bb) : l = [A] := by
  cases l with
  | nil => exact absurd h (fun h => h)
  | cons x l =>
    obtain ⟨h1, h2 | h2⟩ := h
    · rw [h1, h2.2]
    · exact absurd e h2.1
theorem LadIs.next {L : List Nat} {Bb A : Nat} {l : List Nat} (h : LadIs L Bb A l) (e : A ≠ Bb) : ∃ o d l', l = A :: l' ∧ LadStep L Bb A o d ∧ LadIs L Bb (nand A (bit o) ||| bit d) l' := by
  cases l with
  | nil => exact absurd h (fun h => h)
  | cons x l =>
    obtain ⟨h1, h2 | h2⟩ := h
    · exact absurd h2.1 e
    · obtain ⟨_, o, d, h3, h4⟩ := h2
      exact ⟨o, d, l, by rw [h1], h3, h4⟩
theorem LadIs.head {L : List Nat} {Bb A : Nat} {l : List Nat} (h : LadIs L Bb A l) : ∃ l', l = A :: l' := by
  cases l with
  | nil => exact absurd h (fun h => h)
  | cons x l => exact ⟨l, by rw [h.1]⟩
theorem ints_append (a b : List Nat) : ints (a ++ b) = ints a ++ ints b := by simp [ints]
theorem LadIs.len {L : List Nat} {Bb : Nat} : ∀ (l : List Nat) (A : Nat), A < 256 → LadIs L Bb A l → l.length ≤ nand A Bb + 1 := by
  intro l
  induction l with
  | nil => intro A _ h; exact absurd h (fun h => h)
  | cons x l ih =>
    intro A hA h
    obtain ⟨h1, h2 | h2⟩ := h
    · rw [h2.2]; simp
    · obtain ⟨_, o, d, h3, h4⟩ := h2
      have := ih _ (or_lt _ _ (nand_lt _ _ 8 hA) (bit_lt256 d h3.d8)) h4
      have := h3.lt hA
      simp; omega

set_option maxRecDepth 100000 in
set_option maxHeartbeats 8000000 in
theorem c_ladder {B : Nat} {W : World} (u : Later B W) (m A Bb : Nat) (L l : List Nat) (a : Option Addr) (cap : Nat) (h : IntsAt B W a (ints L)) (hlen : (ints L).length ≤ 4611686018427387904) (he : MatIs (m : Int) (ints L) 0) (hm : m ≤ 8) (hA : A ∈ L) (hB : Bb ∈ L) (hA8 : A < 256) (hB8 : Bb < 256) (hl : LadIs L Bb A l) :
    Calls Try.prog 80 #[.agg #[.int .i64 m, .slice a (ints L).length cap], .int .i64 A, .int .i64 Bb] u.val (RetP B W (ListE (ints l) 0)) := by
  have T0 : Hid (Two (u.val.alloc (.cells #[.int .i64 m, .slice a (ints L).length cap] 60)) u.val.heap.size 60 (.int .i64 m) (.slice a (ints L).length cap)) := Lib.hid (Two.new _ _ _ _)
  have hI : IntsAt (u.val.alloc (.cells #[.int .i64 m, .slice a (ints L).length cap] 60)).heap.size (u.val.alloc (.cells #[.int .i64 m, .slice a (ints L).length cap] 60)) a (ints L) := h.to (u.alloc _)
  have HV : Hid (∀ v : Later (u.val.alloc (.cells #[.int .i64 m, .slice a (ints L).length cap] 60)).heap.size (u.val.alloc (.cells #[.int .i64 m, .slice a (ints L).length cap] 60)), ∃ w : Later B W, w.val = v.val) := Lib.hid (fun v => ⟨(u.alloc _).up v, rfl⟩)
  have K0 : Hid (Calls Try.prog 133 #[.agg #[.int .i64 m, .slice a (ints L).length cap], .int .i64 A, .int .i64 Bb] (u.val.alloc (.cells #[.int .i64 m, .slice a (ints L).length cap] 60)) (Ret (u.val.alloc (.cells #[.int .i64 m, .slice a (ints L).length cap] 60)).heap.size (u.val.alloc (.cells #[.int .i64 m, .slice a (ints L).length cap] 60)) (.int .i64 0))) := Lib.hid (by
    have := c_greedyTwo (Later.self (u.val.alloc (.cells #[.int .i64 m, .slice a (ints L).length cap] 60))) (m : Int) (ints L) a cap 0 (A : Int) (Bb : Int) hI hlen he
    rwa [show twoE (ints L) 0 (A : Int) (Bb : Int) = 0 by unfold twoE; rw [if_pos rfl, if_pos ⟨mem_ints.2 hA, mem_ints.2 hB⟩]] at this)
  have hr : rising (ints L) := he.zero.1.1.2.2.rising
  have KB := Lib.hid (fun (v : Later (u.val.alloc (.cells #[.int .i64 m, .slice a (ints L).length cap] 60)).heap.size (u.val.alloc (.cells #[.int .i64 m, .slice a (ints L).length cap] 60))) (w : Later v.val.heap.size v.val) (s : Nat) (d : Bool) (hd : decide (s ∈ L) = d) => show Calls _ _ #[.agg #[.int .i64 m, .slice a (ints L).length cap], .int .i64 (s : Int)] w.val (Ret v.val.heap.size v.val (.bool d)) from by
    have := c_greedyBasis w (m : Int) (s : Int) (ints L) a cap (hI.to v) hlen hr
    rwa [show decide ((s : Int) ∈ ints L) = d by rw [← hd]; simp only [mem_ints]] at this)
  have q0 : ∀ w : Later (u.val.alloc (.cells #[.int .i64 m, .slice a (ints L).length cap] 60)).heap.size (u.val.alloc (.cells #[.int .i64 m, .slice a (ints L).length cap] 60)), w.val.cell? ⟨u.val.heap.size, 0, none⟩ = some (.int .i64 m) := fun w => (T0.out.keep w.below).c0
  have q1 : ∀ w : Later (u.val.alloc (.cells #[.int .i64 m, .slice a (ints L).length cap] 60)).heap.size (u.val.alloc (.cells #[.int .i64 m, .slice a (ints L).length cap] 60)), w.val.cell? ⟨u.val.heap.size, 1, none⟩ = some (.slice a (ints L).length cap) := fun w => (T0.out.keep w.below).c1
  have HLad := Lib.hid hl
  have HLn : Hid (l.length ≤ 256) := Lib.hid (by have := LadIs.len l A hA8 hl; have : nand A Bb < 256 := nand_lt _ _ 8 hA8; omega)
  clear h hI T0 he hr hA hB hl
  go_enter Try.func80, Try.ntmps80
  go_wp2_with (first | (go_at_call 133; refine (K0.out).mono ?_; rintro e _ ⟨rfl, v1, rfl⟩))
  have O1 : Hid (Own (u.val.alloc (.cells #[.int .i64 m, .slice a (ints L).length cap] 60)).heap.size (v1.alloc (.cells #[.int .i64 (A : Int)] 3)).val (some ⟨v1.val.heap.size, 0, none⟩) 1 [(A : Int)]) := Lib.hid (Own.lit v1.size (A : Int))
  clear K0
  generalize hW1 : u.val.alloc (.cells #[.int .i64 m, .slice a (ints L).length cap] 60) = W1 at *
  generalize hgu : u.val.heap.size = gu at *
  clear hW1 hgu u
  go_loopw [1, 9] (fun j o wr => ∃ (A : Nat) (pre l' : List Nat) (ad : Option Addr) (cp : Nat) (v : Later W1.heap.size W1), A < 256 ∧ j = .int .i64 A ∧ o = .slice ad (ints (pre ++ [A])).length cp ∧ wr = v.val ∧ Hid (Own W1.heap.size v.val ad cp (ints (pre ++ [A]))) ∧ Hid (LadIs L Bb A l') ∧ Hid (pre ++ l' = l)) (fun j _ _ => nand (intOf j).toNat Bb)
  case atStart => exact ⟨A, [], l, some ⟨v1.val.heap.size, 0, none⟩, 1, v1.alloc _, hA8, rfl, rfl, rfl, O1, HLad, Lib.hid rfl⟩
  case round =>
    clear O1 HLad hA8
    obtain ⟨A, pre, l', ad, cp, v, hA8, rfl, rfl, rfl, HO, HLad, HPre⟩ := hrel
    by_cases hab : A = Bb
    · have HE : Hid (pre ++ [A] = l) := Lib.hid (by rw [← HPre.out, HLad.out.stop hab])
      subst hab
      have d0 : ((A : Int) != (A : Int)) = false := by simp
      go_wp2
      go_ret2
      have HR : Hid (Reads v.val.heap.size v.val (.slice ad (ints (pre ++ [A])).length cp) (ints (pre ++ [A]))) := Lib.hid (Reads.of_own HO.out)
      rw [HE.out] at HR ⊢
      exact RetP.of (HV.out v) (ListE.mk HR.out)
    · obtain ⟨o, d, l2, hl2, hst, hlad⟩ := HLad.out.next hab
      have d0 : ((A : Int) != (Bb : Int)) = true := by rw [bne_iff_ne]; omega
      have HLad2 := Lib.hid hlad
      have HPre2 : Hid ((pre ++ [A]) ++ l2 = l) := Lib.hid (by rw [← HPre.out, hl2]; simp)
      have HSt := Lib.hid hst
      have HLt : Hid (nand (nand A (bit o) ||| bit d) Bb < nand A Bb) := Lib.hid (hst.lt hA8)
      have o1 := i64_andNot A Bb (by omega) (by omega)
      have hn1 : nand A Bb < 256 := nand_lt _ _ 8 hA8
      have o2 := i64_low (nand A Bb) hn1
      rw [hst.lowo] at o2
      have o3 := i64_andNot Bb A (by omega) (by omega)
      have hn3 : nand Bb A < 256 := nand_lt _ _ 8 hB8
      have HStart : Hid ((nand Bb A).testBit d = true ∧ sub (nand Bb A) (nand Bb A)) := Lib.hid ⟨by rw [nand_testBit, hst.Bd, hst.Ad]; rfl, fun _ h => h⟩
      have ho8 := hst.o8
      have hd8 := hst.d8
      have KBv := Lib.hid (fun w s d hd => KB.out v w s d hd)
      have q0v : ∀ w : Later v.val.heap.size v.val, w.val.cell? ⟨gu, 0, none⟩ = some (.int .i64 m) := fun w => q0 (v.up w)
      have q1v : ∀ w : Later v.val.heap.size v.val, w.val.cell? ⟨gu, 1, none⟩ = some (.slice a (ints L).length cap) := fun w => q1 (v.up w)
      clear hl2 hlad hst HLad HPre hab
      go_wp2
      clear o1 o2 o3 d0
      go_loopw [1, 11] (fun j i wr => ∃ (t : Nat) (w : Later v.val.heap.size v.val), t < 256 ∧ j = .int .i64 A ∧ i = .int .i64 t ∧ wr = w.val ∧ Hid (t.testBit d = true ∧ sub t (nand Bb A))) (fun _ i _ => (intOf i).toNat)
      case atStart => exact ⟨nand Bb A, Later.self _, hn3, rfl, rfl, rfl, HStart⟩
      case round =>
        obtain ⟨t, w, ht, rfl, rfl, rfl, HT⟩ := hrel
        clear HStart
        have h0 : t ≠ 0 := fun e => by have := HT.out.1; rw [e] at this; simp at this
        obtain ⟨e, he8, hlow, hte, hdb, hmin, hdl⟩ := low_facts t ht h0
        have d0 : ((t : Int) != 0) = true := by rw [bne_iff_ne]; omega
        have l1 := i64_low t ht
        rw [hlow] at l1
        have l2' := i64_drop1 t ht (by omega)
        have HD := Lib.hid (drop1_lt t ht)
        have HDl := Lib.hid hdl
        have hbo := bit_lt o ho8
        have hbe := bit_lt e he8
        have o1 := i64_andNot A (bit o) (by omega) (by omega)
        have hna : nand A (bit o) < 256 := nand_lt _ _ 8 hA8
        have o2 := i64_or (nand A (bit o)) (bit e) (by omega) (by omega)
        by_cases hed : e = d
        · subst hed
          have K1 := Lib.hid (fun v => KBv.out v (nand A (bit o) ||| bit e) true (by simp [HSt.out.hit]))
          have hnew := or_lt (nand A (bit o)) (bit e) hna (by omega)
          have HLL : Hid ((ints (pre ++ [A])).length ≤ 256) := Lib.hid (by
            have h1 := congrArg List.length HPre2.out
            have h2 := HLn.out
            rw [ints_len]
            rw [List.length_append] at h1
            omega)
          clear hlow hte hdb hmin hdl HT HDl HD h0 l2' HSt
          generalize nand A (bit o) ||| bit e = A' at *
          go_wp2_with (first | (go_at_call 135; ((with_reducible refine (K1.out _).mono ?_); rintro e _ ⟨rfl, v2, rfl⟩)) | (at_builtin; refine wpList_push (B := W1.heap.size) (W := W1) (w := v2.val) (v.up v2).below (v.up v2).size rfl _ _ rfl (ints (pre ++ [A])) ad cp (A' : Int) rfl (HO.out.keep v2.below) rfl (by have := HLL.out; omega) ?_; intro u2 ad2 cp2 hown))
          go_roundw
          case rel =>
            refine ⟨A', pre ++ [A], l2, ad2, cp2, u2, hnew, rfl, ?_, rfl, ?_, HLad2, HPre2⟩
            · rw [ints_snoc (pre ++ [A])]; simp
            · rw [ints_snoc (pre ++ [A])]; exact Lib.hid hown
          case measure => have := HLt.out; simp [intOf]; omega
        · have hled := hmin d hd8 HT.out.1
          have hne : ¬ (nand A (bit o) ||| bit e) ∈ L := by
            have h1 := HT.out.2 e hte
            rw [nand_testBit] at h1
            simp only [Bool.and_eq_true, Bool.not_eq_true'] at h1
            exact HSt.out.first e (by omega) h1.1 h1.2
          have K1 := Lib.hid (fun v => KBv.out v (nand A (bit o) ||| bit e) false (by simp [hne]))
          have HT2 : Hid ((drop1 t).testBit d = true ∧ sub (drop1 t) (nand Bb A)) := Lib.hid ⟨by
            rw [hdb d hd8, HT.out.1]
            have : d ≠ e := fun h => hed h.symm
            simp [this], fun i hi => by
            have h8 := lt_of_testBit HD.out hi
            rw [hdb i h8] at hi
            simp only [Bool.and_eq_true] at hi
            exact HT.out.2 i hi.1⟩
          clear hlow hte hdb hmin hdl HT h0 HSt hne hed hled
          go_wp2_with (first | (go_at_call 135; ((with_reducible refine (K1.out _).mono ?_); rintro e _ ⟨rfl, v2, rfl⟩)))
          go_roundw
          case rel => exact ⟨drop1 t, v2, HD.out, rfl, rfl, rfl, HT2⟩
          case measure => have := HDl.out; simp [intOf]; omega

set_option maxRecDepth 100000 in
set_option maxHeartbeats 4000000 in
theorem c_ladder_no {B : Nat} {W : World} (u : Later B W) (n x y : Int) (l : List Int) (a : Option Addr) (cap : Nat) (e : Int) (h : IntsAt B W a l) (hlen : l.length ≤ 4611686018427387904) (he : MatIs n l e) (ht : twoE l e x y ≠ 0) :
    Calls Try.prog 80 #[.agg #[.int .i64 n, .slice a l.length cap], .int .i64 x, .int .i64 y] u.val (RetP B W (ListE [] (twoE l e x y))) := by
  have K0 : Hid (Calls Try.prog 133 #[.agg #[.int .i64 n, .slice a l.length cap], .int .i64 x, .int .i64 y] (u.val.alloc (.cells #[.int .i64 n, .slice a l.length cap] 60)) (Ret B W (.int .i64 (twoE l e x y)))) := Lib.hid (c_greedyTwo (u.alloc (.cells #[.int .i64 n, .slice a l.length cap] 60)) n l a cap e x y h hlen he)
  have T0 : Hid (Two (u.val.alloc (.cells #[.int .i64 n, .slice a l.length cap] 60)) u.val.heap.size 60 (.int .i64 n) (.slice a l.length cap)) := Lib.hid (Two.new _ _ _ _)
  have q0 := T0.out.c0
  have q1 := T0.out.c1
  clear h he
  generalize twoE l e x y = t at *
  have d1 : (t != 0) = true := by rw [bne_iff_ne]; exact ht
  clear ht
  go_enter Try.func80, Try.ntmps80
  go_wp2_with (first | (go_at_call 133; refine (K0.out).mono ?_; rintro e _ ⟨rfl, v1, rfl⟩))
  go_ret2
  exact RetP.mk v1 ListE.no

end Go.Proofs.Ytcljgnmlpfddiaa
