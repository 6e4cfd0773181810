/-
  greedy.Swap.
-/
import Derived.Test.YtcljgnmlpfddiaaFundW
namespace Go.Proofs.Ytcljgnmlpfddiaa
open Go.RowKit
set_option linter.unusedVariables false

def SwOk (L : List Nat) (A Bb x y : Nat) : Prop := nand y (nand Bb A) = 0 ∧ sz y = sz x ∧ (nand A x ||| y) ∈ L ∧ (nand Bb y ||| x) ∈ L
def SwIs (m : Nat) (L : List Nat) (A Bb x : Nat) (r e : Int) : Prop := (∃ y : Nat, y < bit m ∧ SwOk L A Bb x y ∧ (∀ z, z < y → ¬ SwOk L A Bb x z) ∧ r = y ∧ e = 0) ∨ ((∀ z, z < bit m → ¬ SwOk L A Bb x z) ∧ r = 0 ∧ e = 5)
theorem SwIs.hit {m : Nat} {L : List Nat} {A Bb x y : Nat} {r e : Int} (h : SwIs m L A Bb x r e) (hy : y < bit m) (hok : SwOk L A Bb x y) (hno : ∀ z, z < y → ¬ SwOk L A Bb x z) : r = y ∧ e = 0 := by
  rcases h with ⟨k, h1, h2, h3, h4, h5⟩ | ⟨h1, _⟩
  · have : k = y := by
      rcases Nat.lt_trichotomy k y with c | c | c
      · exact absurd h2 (hno k c)
      · exact c
      · exact absurd hok (h3 y c)
    rw [← this]; exact ⟨h4, h5⟩
  · exact absurd hok (h1 y hy)

set_option maxRecDepth 100000 in
set_option maxHeartbeats 8000000 in
theorem c_swap {B : Nat} {W : World} (u : Later B W) (m A Bb x : Nat) (r e : Int) (L : List Nat) (a : Option Addr) (cap : Nat) (h : IntsAt B W a (ints L)) (hlen : (ints L).length ≤ 4611686018427387904) (he : MatIs (m : Int) (ints L) 0) (hm : m ≤ 8) (hA : A ∈ L) (hB : Bb ∈ L) (hA8 : A < 256) (hB8 : Bb < 256) (hx8 : x < 256) (hx : nand x (nand A Bb) = 0) (hs : SwIs m L A Bb x r e) :
    Calls Try.prog 79 #[.agg #[.int .i64 m, .slice a (ints L).length cap], .int .i64 A, .int .i64 Bb, .int .i64 x] u.val (Ret B W (.tuple #[.int .i64 r, .int .i64 e])) := by
  have hbm := bit_le m hm
  have hbc := bit_cast m
  have T0 : Hid (Two (u.val.alloc (.cells #[.int .i64 m, .slice a (ints L).length cap] 60)) u.val.heap.size 60 (.int .i64 m) (.slice a (ints L).length cap)) := Lib.hid (Two.new _ _ _ _)
  have hI : IntsAt (u.val.alloc (.cells #[.int .i64 m, .slice a (ints L).length cap] 60)).heap.size (u.val.alloc (.cells #[.int .i64 m, .slice a (ints L).length cap] 60)) a (ints L) := h.to (u.alloc _)
  have HV : Hid (∀ v : Later (u.val.alloc (.cells #[.int .i64 m, .slice a (ints L).length cap] 60)).heap.size (u.val.alloc (.cells #[.int .i64 m, .slice a (ints L).length cap] 60)), ∃ w : Later B W, w.val = v.val) := Lib.hid (fun v => ⟨(u.alloc _).up v, rfl⟩)
  have K0 : Hid (Calls Try.prog 133 #[.agg #[.int .i64 m, .slice a (ints L).length cap], .int .i64 A, .int .i64 Bb] (u.val.alloc (.cells #[.int .i64 m, .slice a (ints L).length cap] 60)) (Ret (u.val.alloc (.cells #[.int .i64 m, .slice a (ints L).length cap] 60)).heap.size (u.val.alloc (.cells #[.int .i64 m, .slice a (ints L).length cap] 60)) (.int .i64 0))) := Lib.hid (by
    have := c_greedyTwo (Later.self (u.val.alloc (.cells #[.int .i64 m, .slice a (ints L).length cap] 60))) (m : Int) (ints L) a cap 0 (A : Int) (Bb : Int) hI hlen he
    rwa [show twoE (ints L) 0 (A : Int) (Bb : Int) = 0 by unfold twoE; rw [if_pos rfl, if_pos ⟨mem_ints.2 hA, mem_ints.2 hB⟩]] at this)
  have hr : rising (ints L) := he.zero.1.1.2.2.rising
  have KB := Lib.hid (fun (v : Later (u.val.alloc (.cells #[.int .i64 m, .slice a (ints L).length cap] 60)).heap.size (u.val.alloc (.cells #[.int .i64 m, .slice a (ints L).length cap] 60))) (s : Nat) (d : Bool) (hd : decide (s ∈ L) = d) => show Calls _ _ #[.agg #[.int .i64 m, .slice a (ints L).length cap], .int .i64 (s : Int)] v.val (Ret (u.val.alloc (.cells #[.int .i64 m, .slice a (ints L).length cap] 60)).heap.size (u.val.alloc (.cells #[.int .i64 m, .slice a (ints L).length cap] 60)) (.bool d)) from by
    have := c_greedyBasis v (m : Int) (s : Int) (ints L) a cap hI hlen hr
    rwa [show decide ((s : Int) ∈ ints L) = d by rw [← hd]; simp only [mem_ints]] at this)
  have q0 : ∀ w : Later (u.val.alloc (.cells #[.int .i64 m, .slice a (ints L).length cap] 60)).heap.size (u.val.alloc (.cells #[.int .i64 m, .slice a (ints L).length cap] 60)), w.val.cell? ⟨u.val.heap.size, 0, none⟩ = some (.int .i64 m) := fun w => (T0.out.keep w.below).c0
  have q1 : ∀ w : Later (u.val.alloc (.cells #[.int .i64 m, .slice a (ints L).length cap] 60)).heap.size (u.val.alloc (.cells #[.int .i64 m, .slice a (ints L).length cap] 60)), w.val.cell? ⟨u.val.heap.size, 1, none⟩ = some (.slice a (ints L).length cap) := fun w => (T0.out.keep w.below).c1
  have HSw := Lib.hid hs
  have o1 := i64_andNot A Bb (by omega) (by omega)
  have hAB : nand A Bb < 256 := nand_lt _ _ 8 hA8
  have o2 := i64_andNot x (nand A Bb) (by omega) (by omega)
  rw [hx] at o2
  have e1 : decide ((x : Int) < 0) = false := decide_eq_false (by omega)
  have HS2 := Lib.hid (fun v : Later (u.val.alloc (.cells #[.int .i64 m, .slice a (ints L).length cap] 60)).heap.size (u.val.alloc (.cells #[.int .i64 m, .slice a (ints L).length cap] 60)) => c_size_greedy v x hx8)
  clear h hI T0 he hr hA hB hs hx
  go_enter Try.func79, Try.ntmps79
  go_wp2_with (first | (go_at_call 133; refine (K0.out).mono ?_; rintro e _ ⟨rfl, v1, rfl⟩))
  clear K0 o1 o2 e1
  go_loopw [32] (fun j wr => ∃ (y : Nat) (v : Later (u.val.alloc (.cells #[.int .i64 m, .slice a (ints L).length cap] 60)).heap.size (u.val.alloc (.cells #[.int .i64 m, .slice a (ints L).length cap] 60))), y ≤ bit m ∧ j = .int .i64 y ∧ wr = v.val ∧ Hid (∀ z, z < y → ¬ SwOk L A Bb x z)) (fun j _ => bit m - (intOf j).toNat)
  case atStart => exact ⟨0, v1, by omega, rfl, rfl, Lib.hid (fun z hz => by omega)⟩
  case round =>
    clear v1
    obtain ⟨y, v, hy, rfl, rfl, HNo⟩ := hrel
    by_cases hlt : y < bit m
    · have hy8 : y < 256 := by omega
      have o1 := i64_andNot Bb A (by omega) (by omega)
      have hBA : nand Bb A < 256 := nand_lt _ _ 8 hB8
      have o2 := i64_andNot y (nand Bb A) (by omega) (by omega)
      have o3 := i64_andNot A x (by omega) (by omega)
      have hAx : nand A x < 256 := nand_lt _ _ 8 hA8
      have o4 := i64_or (nand A x) y (by omega) (by omega)
      have o5 := i64_andNot Bb y (by omega) (by omega)
      have hBy : nand Bb y < 256 := nand_lt _ _ 8 hB8
      have o6 := i64_or (nand Bb y) x (by omega) (by omega)
      have HS1 := Lib.hid (fun v : Later (u.val.alloc (.cells #[.int .i64 m, .slice a (ints L).length cap] 60)).heap.size (u.val.alloc (.cells #[.int .i64 m, .slice a (ints L).length cap] 60)) => c_size_greedy v y hy8)
      have HNx : Hid (¬ SwOk L A Bb x y → ∀ z, z < y + 1 → ¬ SwOk L A Bb x z) := Lib.hid (fun hn z hz => by
        by_cases c : z = y
        · subst c; exact hn
        · exact HNo.out z (by omega))
      have HYs : Hid (SwOk L A Bb x y → r = y ∧ e = 0) := Lib.hid (fun h => HSw.out.hit hlt h HNo.out)
      have KB1 := Lib.hid (fun v d hd => KB.out v (nand A x ||| y) d hd)
      have KB2 := Lib.hid (fun v d hd => KB.out v (nand Bb y ||| x) d hd)
      have HOk : Hid (SwOk L A Bb x y ↔ nand y (nand Bb A) = 0 ∧ sz y = sz x ∧ (nand A x ||| y) ∈ L ∧ (nand Bb y ||| x) ∈ L) := Lib.hid Iff.rfl
      clear HNo
      by_cases h1 : nand y (nand Bb A) = 0
      case neg =>
        have HN := Lib.hid (HNx.out (fun h => h1 (HOk.out.1 h).1))
        have d1 : ((nand y (nand Bb A) : Nat) : Int) ≠ 0 := by omega
        have d2 : (((nand y (nand Bb A) : Nat) : Int) == 0) = false := by rw [beq_eq_false_iff_ne]; exact d1
        clear d1 h1 HNx HYs HOk KB1 KB2
        generalize nand y (nand Bb A) = w at *
        go_wp2
        go_roundw
        case rel => exact ⟨y+1, v, by omega, by go_num, rfl, HN⟩
        case measure => simp [intOf]; omega
      rw [h1] at o2
      by_cases h2 : sz y = sz x
      case neg =>
        have HN := Lib.hid (HNx.out (fun h => h2 (HOk.out.1 h).2.1))
        have d2 : (((sz y : Nat) : Int) == ((sz x : Nat) : Int)) = false := by rw [beq_eq_false_iff_ne]; omega
        clear h1 h2 HNx HYs HOk KB1 KB2
        go_wp2_with (first | (go_at_call 134; ((with_reducible refine (HS1.out _).mono ?_); rintro e _ ⟨rfl, v, rfl⟩)) | (go_at_call 134; ((with_reducible refine (HS2.out _).mono ?_); rintro e _ ⟨rfl, v, rfl⟩)))
        go_roundw
        case rel => exact ⟨y+1, v, by omega, by go_num, rfl, HN⟩
        case measure => simp [intOf]; omega
      rw [h2] at HS1
      by_cases h3 : (nand A x ||| y) ∈ L
      case neg =>
        have HN := Lib.hid (HNx.out (fun h => h3 (HOk.out.1 h).2.2.1))
        have K1 := Lib.hid (fun v => KB1.out v false (by simp [h3]))
        clear h1 h2 h3 HNx HYs HOk KB1 KB2
        go_wp2_with (first | (go_at_call 134; ((with_reducible refine (HS1.out _).mono ?_); rintro e _ ⟨rfl, v, rfl⟩)) | (go_at_call 134; ((with_reducible refine (HS2.out _).mono ?_); rintro e _ ⟨rfl, v, rfl⟩)) | (go_at_call 135; ((with_reducible refine (K1.out _).mono ?_); rintro e _ ⟨rfl, v, rfl⟩)))
        go_roundw
        case rel => exact ⟨y+1, v, by omega, by go_num, rfl, HN⟩
        case measure => simp [intOf]; omega
      have K1 := Lib.hid (fun v => KB1.out v true (by simp [h3]))
      by_cases h4 : (nand Bb y ||| x) ∈ L
      case neg =>
        have HN := Lib.hid (HNx.out (fun h => h4 (HOk.out.1 h).2.2.2))
        have K2 := Lib.hid (fun v => KB2.out v false (by simp [h4]))
        clear h1 h2 h3 h4 HNx HYs HOk KB1 KB2
        go_wp2_with (first | (go_at_call 134; ((with_reducible refine (HS1.out _).mono ?_); rintro e _ ⟨rfl, v, rfl⟩)) | (go_at_call 134; ((with_reducible refine (HS2.out _).mono ?_); rintro e _ ⟨rfl, v, rfl⟩)) | (go_at_call 135; ((with_reducible refine (K1.out _).mono ?_); rintro e _ ⟨rfl, v, rfl⟩)) | (go_at_call 135; ((with_reducible refine (K2.out _).mono ?_); rintro e _ ⟨rfl, v, rfl⟩)))
        go_roundw
        case rel => exact ⟨y+1, v, by omega, by go_num, rfl, HN⟩
        case measure => simp [intOf]; omega
      have K2 := Lib.hid (fun v => KB2.out v true (by simp [h4]))
      obtain ⟨hr, he⟩ := HYs.out (HOk.out.2 ⟨h1, h2, h3, h4⟩)
      subst hr he
      clear h1 h2 h3 h4 HNx HYs HOk KB1 KB2
      go_wp2_with (first | (go_at_call 134; ((with_reducible refine (HS1.out _).mono ?_); rintro e _ ⟨rfl, v, rfl⟩)) | (go_at_call 134; ((with_reducible refine (HS2.out _).mono ?_); rintro e _ ⟨rfl, v, rfl⟩)) | (go_at_call 135; ((with_reducible refine (K1.out _).mono ?_); rintro e _ ⟨rfl, v, rfl⟩)) | (go_at_call 135; ((with_reducible refine (K2.out _).mono ?_); rintro e _ ⟨rfl, v, rfl⟩)))
      go_ret2
      exact Ret.of (HV.out v) rfl
    · have hr0 : r = 0 ∧ e = 5 := by
        rcases HSw.out with ⟨k, h1, h2, _⟩ | ⟨_, h⟩
        · exact absurd h2 (HNo.out k (by omega))
        · exact h
      obtain ⟨hr, he⟩ := hr0
      subst hr he
      go_wp2
      go_ret2
      exact Ret.of (HV.out v) rfl

set_option maxRecDepth 100000 in
set_option maxHeartbeats 4000000 in
theorem c_swap_no {B : Nat} {W : World} (u : Later B W) (n x y z : Int) (l : List Int) (a : Option Addr) (cap : Nat) (e : Int) (h : IntsAt B W a l) (hlen : l.length ≤ 4611686018427387904) (he : MatIs n l e) (ht : twoE l e x y ≠ 0) :
    Calls Try.prog 79 #[.agg #[.int .i64 n, .slice a l.length cap], .int .i64 x, .int .i64 y, .int .i64 z] u.val (Ret B W (.tuple #[.int .i64 0, .int .i64 (twoE l e x y)])) := by
  have K0 : Hid (Calls Try.prog 133 #[.agg #[.int .i64 n, .slice a l.length cap], .int .i64 x, .int .i64 y] (u.val.alloc (.cells #[.int .i64 n, .slice a l.length cap] 60)) (Ret B W (.int .i64 (twoE l e x y)))) := Lib.hid (c_greedyTwo (u.alloc (.cells #[.int .i64 n, .slice a l.length cap] 60)) n l a cap e x y h hlen he)
  have T0 : Hid (Two (u.val.alloc (.cells #[.int .i64 n, .slice a l.length cap] 60)) u.val.heap.size 60 (.int .i64 n) (.slice a l.length cap)) := Lib.hid (Two.new _ _ _ _)
  have q0 := T0.out.c0
  have q1 := T0.out.c1
  clear h he
  generalize twoE l e x y = t at *
  have d1 : (t != 0) = true := by rw [bne_iff_ne]; exact ht
  clear ht
  go_enter Try.func79, Try.ntmps79
  go_wp2_with (first | (go_at_call 133; refine (K0.out).mono ?_; rintro e _ ⟨rfl, v1, rfl⟩))
  go_ret2
  exact Ret.mk v1 rfl

set_option maxRecDepth 100000 in
set_option maxHeartbeats 4000000 in
theorem c_swap_bad {B : Nat} {W : World} (u : Later B W) (m A Bb : Nat) (x : Int) (L : List Nat) (a : Option Addr) (cap : Nat) (h : IntsAt B W a (ints L)) (hlen : (ints L).length ≤ 4611686018427387904) (he : MatIs (m : Int) (ints L) 0) (hA : A ∈ L) (hB : Bb ∈ L) (hA8 : A < 256) (hB8 : Bb < 256) (hx : x < 9223372036854775808) (hbad : x < 0 ∨ nand x.toNat (nand A Bb) ≠ 0) :
    Calls Try.prog 79 #[.agg #[.int .i64 m, .slice a (ints L).length cap], .int .i64 A, .int .i64 Bb, .int .i64 x] u.val (Ret B W (.tuple #[.int .i64 0, .int .i64 3])) := by
  have T0 : Hid (Two (u.val.alloc (.cells #[.int .i64 m, .slice a (ints L).length cap] 60)) u.val.heap.size 60 (.int .i64 m) (.slice a (ints L).length cap)) := Lib.hid (Two.new _ _ _ _)
  have hI : IntsAt (u.val.alloc (.cells #[.int .i64 m, .slice a (ints L).length cap] 60)).heap.size (u.val.alloc (.cells #[.int .i64 m, .slice a (ints L).length cap] 60)) a (ints L) := h.to (u.alloc _)
  have HV : Hid (∀ v : Later (u.val.alloc (.cells #[.int .i64 m, .slice a (ints L).length cap] 60)).heap.size (u.val.alloc (.cells #[.int .i64 m, .slice a (ints L).length cap] 60)), ∃ w : Later B W, w.val = v.val) := Lib.hid (fun v => ⟨(u.alloc _).up v, rfl⟩)
  have K0 : Hid (Calls Try.prog 133 #[.agg #[.int .i64 m, .slice a (ints L).length cap], .int .i64 A, .int .i64 Bb] (u.val.alloc (.cells #[.int .i64 m, .slice a (ints L).length cap] 60)) (Ret (u.val.alloc (.cells #[.int .i64 m, .slice a (ints L).length cap] 60)).heap.size (u.val.alloc (.cells #[.int .i64 m, .slice a (ints L).length cap] 60)) (.int .i64 0))) := Lib.hid (by
    have := c_greedyTwo (Later.self (u.val.alloc (.cells #[.int .i64 m, .slice a (ints L).length cap] 60))) (m : Int) (ints L) a cap 0 (A : Int) (Bb : Int) hI hlen he
    rwa [show twoE (ints L) 0 (A : Int) (Bb : Int) = 0 by unfold twoE; rw [if_pos rfl, if_pos ⟨mem_ints.2 hA, mem_ints.2 hB⟩]] at this)
  have q0 : (u.val.alloc (.cells #[.int .i64 m, .slice a (ints L).length cap] 60)).cell? ⟨u.val.heap.size, 0, none⟩ = some (.int .i64 m) := T0.out.c0
  have q1 : (u.val.alloc (.cells #[.int .i64 m, .slice a (ints L).length cap] 60)).cell? ⟨u.val.heap.size, 1, none⟩ = some (.slice a (ints L).length cap) := T0.out.c1
  clear h hI T0 he hA hB
  go_enter Try.func79, Try.ntmps79
  rcases ilt x 0 with ⟨g1, d1⟩ | ⟨g1, d1⟩
  · clear hbad
    go_wp2_with (first | (go_at_call 133; refine (K0.out).mono ?_; rintro e _ ⟨rfl, v1, rfl⟩))
    go_ret2
    exact Ret.of (HV.out v1) rfl
  obtain ⟨x, rfl⟩ := Int.eq_ofNat_of_zero_le g1
  have hne : nand x (nand A Bb) ≠ 0 := by
    rcases hbad with h | h
    · omega
    · simpa using h
  have o1 := i64_andNot A Bb (by omega) (by omega)
  have hAB : nand A Bb < 256 := nand_lt _ _ 8 hA8
  have o2 := i64_andNot x (nand A Bb) (by omega) (by omega)
  have d2 : ((nand x (nand A Bb) : Nat) : Int) ≠ 0 := by omega
  have d3 : (((nand x (nand A Bb) : Nat) : Int) != 0) = true := by rw [bne_iff_ne]; exact d2
  clear d2 hne hbad
  generalize nand x (nand A Bb) = w at *
  go_wp2_with (first | (go_at_call 133; refine (K0.out).mono ?_; rintro e _ ⟨rfl, v1, rfl⟩))
  go_ret2
  exact Ret.of (HV.out v1) rfl

end Go.Proofs.Ytcljgnmlpfddiaa
