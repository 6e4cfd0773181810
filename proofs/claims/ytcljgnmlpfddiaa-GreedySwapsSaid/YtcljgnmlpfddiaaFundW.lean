/-
  greedy.Fundamental.
-/
import Derived.Test.YtcljgnmlpfddiaaFund
namespace Go.Proofs.Ytcljgnmlpfddiaa
open Go.RowKit
set_option linter.unusedVariables false

set_option maxRecDepth 100000 in
set_option maxHeartbeats 4000000 in
theorem c_fund_no {B : Nat} {W : World} (u : Later B W) (n b i : Int) (l : List Int) (a : Option Addr) (cap : Nat) (e : Int) (h : IntsAt B W a l) (hlen : l.length ≤ 4611686018427387904) (he : MatIs n l e) (ht : twoE l e b b ≠ 0) :
    Calls Try.prog 81 #[.agg #[.int .i64 n, .slice a l.length cap], .int .i64 b, .int .i64 i] u.val (Ret B W (.tuple #[.int .i64 0, .int .i64 (twoE l e b b)])) := by
  have K0 : Hid (Calls Try.prog 133 #[.agg #[.int .i64 n, .slice a l.length cap], .int .i64 b, .int .i64 b] (u.val.alloc (.cells #[.int .i64 n, .slice a l.length cap] 60)) (Ret B W (.int .i64 (twoE l e b b)))) := Lib.hid (c_greedyTwo (u.alloc (.cells #[.int .i64 n, .slice a l.length cap] 60)) n l a cap e b b h hlen he)
  have T0 : Hid (Two (u.val.alloc (.cells #[.int .i64 n, .slice a l.length cap] 60)) u.val.heap.size 60 (.int .i64 n) (.slice a l.length cap)) := Lib.hid (Two.new _ _ _ _)
  have q0 := T0.out.c0
  have q1 := T0.out.c1
  clear h he
  generalize twoE l e b b = t at *
  have d1 : (t != 0) = true := by rw [bne_iff_ne]; exact ht
  clear ht
  go_enter Try.func81, Try.ntmps81
  go_wp2_with (first | (go_at_call 133; refine (K0.out).mono ?_; rintro e _ ⟨rfl, v1, rfl⟩))
  go_ret2
  exact Ret.mk v1 rfl

/-- behind some elements of b -/
def FunInv (F t c : Nat) : Prop := ∀ x, x < 8 → (c.testBit x = true ↔ F.testBit x = true ∧ t.testBit x = false)

set_option maxRecDepth 100000 in
set_option maxHeartbeats 8000000 in
theorem c_fund {B : Nat} {W : World} (u : Later B W) (m b i F : Nat) (L : List Nat) (a : Option Addr) (cap : Nat) (h : IntsAt B W a (ints L)) (hlen : (ints L).length ≤ 4611686018427387904) (he : MatIs (m : Int) (ints L) 0) (hm : m ≤ 8) (hbL : b ∈ L) (hb8 : b < 256) (hi : i < m) (hbi : b.testBit i = false) (hF : FundIs L b i F) :
    Calls Try.prog 81 #[.agg #[.int .i64 m, .slice a (ints L).length cap], .int .i64 b, .int .i64 i] u.val (Ret B W (.tuple #[.int .i64 F, .int .i64 0])) := by
  have T0 : Hid (Two (u.val.alloc (.cells #[.int .i64 m, .slice a (ints L).length cap] 60)) u.val.heap.size 60 (.int .i64 m) (.slice a (ints L).length cap)) := Lib.hid (Two.new _ _ _ _)
  have hI : IntsAt (u.val.alloc (.cells #[.int .i64 m, .slice a (ints L).length cap] 60)).heap.size (u.val.alloc (.cells #[.int .i64 m, .slice a (ints L).length cap] 60)) a (ints L) := h.to (u.alloc _)
  have HV : Hid (∀ v : Later (u.val.alloc (.cells #[.int .i64 m, .slice a (ints L).length cap] 60)).heap.size (u.val.alloc (.cells #[.int .i64 m, .slice a (ints L).length cap] 60)), ∃ w : Later B W, w.val = v.val) := Lib.hid (fun v => ⟨(u.alloc _).up v, rfl⟩)
  have K0 : Hid (Calls Try.prog 133 #[.agg #[.int .i64 m, .slice a (ints L).length cap], .int .i64 b, .int .i64 b] (u.val.alloc (.cells #[.int .i64 m, .slice a (ints L).length cap] 60)) (Ret (u.val.alloc (.cells #[.int .i64 m, .slice a (ints L).length cap] 60)).heap.size (u.val.alloc (.cells #[.int .i64 m, .slice a (ints L).length cap] 60)) (.int .i64 0))) := Lib.hid (by
    have := c_greedyTwo (Later.self (u.val.alloc (.cells #[.int .i64 m, .slice a (ints L).length cap] 60))) (m : Int) (ints L) a cap 0 (b : Int) (b : Int) hI hlen he
    rwa [show twoE (ints L) 0 (b : Int) (b : Int) = 0 by unfold twoE; rw [if_pos rfl, if_pos ⟨mem_ints.2 hbL, mem_ints.2 hbL⟩]] at this)
  have hr : rising (ints L) := he.zero.1.1.2.2.rising
  have KB := Lib.hid (fun (v : Later (u.val.alloc (.cells #[.int .i64 m, .slice a (ints L).length cap] 60)).heap.size (u.val.alloc (.cells #[.int .i64 m, .slice a (ints L).length cap] 60))) (s : Nat) (d : Bool) (hd : decide (s ∈ L) = d) => show Calls _ _ #[.agg #[.int .i64 m, .slice a (ints L).length cap], .int .i64 (s : Int)] v.val (Ret (u.val.alloc (.cells #[.int .i64 m, .slice a (ints L).length cap] 60)).heap.size (u.val.alloc (.cells #[.int .i64 m, .slice a (ints L).length cap] 60)) (.bool d)) from by
    have := c_greedyBasis v (m : Int) (s : Int) (ints L) a cap hI hlen hr
    rwa [show decide ((s : Int) ∈ ints L) = d by rw [← hd]; simp only [mem_ints]] at this)
  have q0 : ∀ w : Later (u.val.alloc (.cells #[.int .i64 m, .slice a (ints L).length cap] 60)).heap.size (u.val.alloc (.cells #[.int .i64 m, .slice a (ints L).length cap] 60)), w.val.cell? ⟨u.val.heap.size, 0, none⟩ = some (.int .i64 m) := fun w => (T0.out.keep w.below).c0
  have q1 : ∀ w : Later (u.val.alloc (.cells #[.int .i64 m, .slice a (ints L).length cap] 60)).heap.size (u.val.alloc (.cells #[.int .i64 m, .slice a (ints L).length cap] 60)), w.val.cell? ⟨u.val.heap.size, 1, none⟩ = some (.slice a (ints L).length cap) := fun w => (T0.out.keep w.below).c1
  have HF := Lib.hid hF
  have ib := i64_bit b i hb8 (by omega)
  rw [hbi] at ib
  have HBi := Lib.hid hbi
  clear h hI T0 he hr hF hbL hbi
  have bi := bit_lt i (by omega)
  have bc := bit_cast i
  have w1 := IntWalk.i64_in (bit i : Int) (by omega)
  have hF8 := HF.out.1
  have e1 : decide ((i : Int) < 0) = false := decide_eq_false (by omega)
  have e2 : decide (m ≤ i) = false := decide_eq_false (by omega)
  have e3 : decide ((m : Int) ≤ (i : Int)) = false := decide_eq_false (by omega)
  go_enter Try.func81, Try.ntmps81
  go_wp2_with (first | (go_at_call 133; refine (K0.out).mono ?_; rintro e _ ⟨rfl, v1, rfl⟩))
  clear ib K0 e1 e2 e3
  go_loopw [9, 10] (fun o r wr => ∃ (c t : Nat) (v : Later (u.val.alloc (.cells #[.int .i64 m, .slice a (ints L).length cap] 60)).heap.size (u.val.alloc (.cells #[.int .i64 m, .slice a (ints L).length cap] 60))), c < 256 ∧ t < 256 ∧ o = .int .i64 c ∧ r = .int .i64 t ∧ wr = v.val ∧ Hid (sub t b) ∧ Hid (FunInv F t c)) (fun _ r _ => (intOf r).toNat)
  case atStart => exact ⟨bit i, b, v1, by omega, hb8, rfl, rfl, rfl, Lib.hid (fun _ h => h), Lib.hid (fun x hx => by
    rw [testBit_bit, decide_eq_true_eq]
    constructor
    · rintro rfl; exact ⟨(HF.out.2 _ hx).2 (.inl rfl), HBi.out⟩
    · rintro ⟨h1, h2⟩
      rcases (HF.out.2 x hx).1 h1 with h3 | h3
      · exact h3.symm
      · rw [h3.1] at h2; cases h2)⟩
  case round =>
    clear v1
    obtain ⟨c, t, v, hc, ht, rfl, rfl, rfl, HS, HN⟩ := hrel
    by_cases h0 : t = 0
    · subst h0
      have d0 : ((((0 : Nat) : Int)) != 0) = false := rfl
      have HE : Hid (c = F) := Lib.hid (eq_of_bits hc hF8 (fun x hx => by rw [Bool.eq_iff_iff, HN.out x hx]; simp))
      go_wp2
      go_ret2
      exact Ret.of (HV.out v) (by rw [HE.out]; rfl)
    · obtain ⟨d, hd8, hlow, htd, hdb, _, hdl⟩ := low_facts t ht h0
      have d0 : ((t : Int) != 0) = true := by rw [bne_iff_ne]; omega
      have l1 := i64_low t ht
      rw [hlow] at l1
      have l2 := i64_drop1 t ht (by omega)
      have HD := Lib.hid (drop1_lt t ht)
      have HDl := Lib.hid hdl
      have hbd := bit_lt d hd8
      have hbdb := HS.out d htd
      have o1 := i64_andNot b (bit d) (by omega) (by omega)
      have hnb : nand b (bit d) < 256 := nand_lt _ _ 8 hb8
      have o2 := i64_or (nand b (bit d)) (bit i) (by omega) (by omega)
      have o3 := i64_or c (bit d) (by omega) (by omega)
      have hcd := or_lt c (bit d) hc (by omega)
      have HSn : Hid (sub (drop1 t) b) := Lib.hid (fun x hx => by
        have h8 := lt_of_testBit HD.out hx
        have := hdb x h8
        rw [this] at hx
        simp at hx
        exact HS.out x hx.1)
      have HFd : Hid (F.testBit d = true ↔ (nand b (bit d) ||| bit i) ∈ L) := Lib.hid (by
        rw [HF.out.2 d hd8]
        constructor
        · rintro (h | h)
          · rw [h, HBi.out] at hbdb; cases hbdb
          · exact h.2
        · intro h; exact .inr ⟨hbdb, h⟩)
      have HNy : Hid ((nand b (bit d) ||| bit i) ∈ L → FunInv F (drop1 t) (c ||| bit d)) := Lib.hid (fun hm x hx => by
        rw [or_bit_testBit, hdb x hx]
        have h1 := HN.out x hx
        by_cases e : d = x
        · subst e; simp [HFd.out.2 hm]
        · simp [e, Ne.symm e]; simpa using h1)
      have HNn : Hid (¬ (nand b (bit d) ||| bit i) ∈ L → FunInv F (drop1 t) c) := Lib.hid (fun hm x hx => by
        rw [hdb x hx]
        have h1 := HN.out x hx
        by_cases e : x = d
        · subst e
          have h2 : F.testBit x = false := by
            cases h : F.testBit x
            · rfl
            · exact absurd (HFd.out.1 h) hm
          rw [h1, h2]; simp
        · simp [e]; simpa using h1)
      clear h0 hlow htd hdb hdl hbdb HS HN HFd
      by_cases hmem : (nand b (bit d) ||| bit i) ∈ L
      · have K1 := Lib.hid (fun v => KB.out v (nand b (bit d) ||| bit i) true (by simp [hmem]))
        have HN2 := Lib.hid (HNy.out hmem)
        clear hmem HNy HNn
        go_wp2
        refine wp_region_later v (by kernel_rfl) (by kernel_rfl) (fun _ => ?_)
        repeat (first | go_big_quiet_step (((go_at_call 135; exact K1.out _))) | (refine wpQuiet_step (fun K hK => ?_); go_simp; refine ⟨_, fun _ => rfl, ?_⟩; refine hK _ ?_; clear hK K))
        refine wpQuiet_nil ?_
        intro v
        go_wp2
        go_roundw
        case rel => exact ⟨c ||| bit d, drop1 t, v, hcd, HD.out, rfl, rfl, rfl, HSn, HN2⟩
        case measure => have := HDl.out; simp [intOf]; omega
      · have K1 := Lib.hid (fun v => KB.out v (nand b (bit d) ||| bit i) false (by simp [hmem]))
        have HN2 := Lib.hid (HNn.out hmem)
        clear hmem HNy HNn
        go_wp2
        refine wp_region_later v (by kernel_rfl) (by kernel_rfl) (fun _ => ?_)
        repeat (first | go_big_quiet_step (((go_at_call 135; exact K1.out _))) | (refine wpQuiet_step (fun K hK => ?_); go_simp; refine ⟨_, fun _ => rfl, ?_⟩; refine hK _ ?_; clear hK K))
        refine wpQuiet_nil ?_
        intro v
        go_wp2
        go_roundw
        case rel => exact ⟨c, drop1 t, v, hc, HD.out, rfl, rfl, rfl, HSn, HN2⟩
        case measure => have := HDl.out; simp [intOf]; omega

set_option maxRecDepth 100000 in
set_option maxHeartbeats 4000000 in
theorem c_fund_bad {B : Nat} {W : World} (u : Later B W) (m b : Nat) (i : Int) (L : List Nat) (a : Option Addr) (cap : Nat) (h : IntsAt B W a (ints L)) (hlen : (ints L).length ≤ 4611686018427387904) (he : MatIs (m : Int) (ints L) 0) (hm : m ≤ 8) (hbL : b ∈ L) (hb8 : b < 256) (hi : i < 0 ∨ (m : Int) ≤ i ∨ b.testBit i.toNat = true) :
    Calls Try.prog 81 #[.agg #[.int .i64 m, .slice a (ints L).length cap], .int .i64 b, .int .i64 i] u.val (Ret B W (.tuple #[.int .i64 0, .int .i64 3])) := by
  have T0 : Hid (Two (u.val.alloc (.cells #[.int .i64 m, .slice a (ints L).length cap] 60)) u.val.heap.size 60 (.int .i64 m) (.slice a (ints L).length cap)) := Lib.hid (Two.new _ _ _ _)
  have hI : IntsAt (u.val.alloc (.cells #[.int .i64 m, .slice a (ints L).length cap] 60)).heap.size (u.val.alloc (.cells #[.int .i64 m, .slice a (ints L).length cap] 60)) a (ints L) := h.to (u.alloc _)
  have HV : Hid (∀ v : Later (u.val.alloc (.cells #[.int .i64 m, .slice a (ints L).length cap] 60)).heap.size (u.val.alloc (.cells #[.int .i64 m, .slice a (ints L).length cap] 60)), ∃ w : Later B W, w.val = v.val) := Lib.hid (fun v => ⟨(u.alloc _).up v, rfl⟩)
  have K0 : Hid (Calls Try.prog 133 #[.agg #[.int .i64 m, .slice a (ints L).length cap], .int .i64 b, .int .i64 b] (u.val.alloc (.cells #[.int .i64 m, .slice a (ints L).length cap] 60)) (Ret (u.val.alloc (.cells #[.int .i64 m, .slice a (ints L).length cap] 60)).heap.size (u.val.alloc (.cells #[.int .i64 m, .slice a (ints L).length cap] 60)) (.int .i64 0))) := Lib.hid (by
    have := c_greedyTwo (Later.self (u.val.alloc (.cells #[.int .i64 m, .slice a (ints L).length cap] 60))) (m : Int) (ints L) a cap 0 (b : Int) (b : Int) hI hlen he
    rwa [show twoE (ints L) 0 (b : Int) (b : Int) = 0 by unfold twoE; rw [if_pos rfl, if_pos ⟨mem_ints.2 hbL, mem_ints.2 hbL⟩]] at this)
  have q0 : ∀ w : Later (u.val.alloc (.cells #[.int .i64 m, .slice a (ints L).length cap] 60)).heap.size (u.val.alloc (.cells #[.int .i64 m, .slice a (ints L).length cap] 60)), w.val.cell? ⟨u.val.heap.size, 0, none⟩ = some (.int .i64 m) := fun w => (T0.out.keep w.below).c0
  have q1 : ∀ w : Later (u.val.alloc (.cells #[.int .i64 m, .slice a (ints L).length cap] 60)).heap.size (u.val.alloc (.cells #[.int .i64 m, .slice a (ints L).length cap] 60)), w.val.cell? ⟨u.val.heap.size, 1, none⟩ = some (.slice a (ints L).length cap) := fun w => (T0.out.keep w.below).c1
  clear h hI T0 he hbL
  go_enter Try.func81, Try.ntmps81
  rcases ilt i 0 with ⟨g1, d1⟩ | ⟨g1, d1⟩
  · clear hi
    go_wp2_with (first | (go_at_call 133; refine (K0.out).mono ?_; rintro e _ ⟨rfl, v1, rfl⟩))
    go_ret2
    exact Ret.of (HV.out v1) rfl
  rcases ile (m : Int) i with ⟨g2, d2⟩ | ⟨g2, d2⟩
  · clear hi
    go_wp2_with (first | (go_at_call 133; refine (K0.out).mono ?_; rintro e _ ⟨rfl, v1, rfl⟩))
    go_ret2
    exact Ret.of (HV.out v1) rfl
  obtain ⟨i, rfl⟩ := Int.eq_ofNat_of_zero_le g1
  have hbi : b.testBit i = true := by
    rcases hi with h | h | h
    · omega
    · omega
    · simpa using h
  have ib := i64_bit b i hb8 (by omega)
  rw [hbi] at ib
  have bc := bit_cast i
  have d2' : decide (m ≤ i) = false := decide_eq_false (by omega)
  clear hi hbi
  go_wp2_with (first | (go_at_call 133; refine (K0.out).mono ?_; rintro e _ ⟨rfl, v1, rfl⟩))
  go_ret2
  exact Ret.of (HV.out v1) rfl

end Go.Proofs.Ytcljgnmlpfddiaa
