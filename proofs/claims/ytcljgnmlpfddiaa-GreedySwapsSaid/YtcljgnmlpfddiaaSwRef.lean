/-
  rotaref.Swapped.
-/
import Derived.Test.YtcljgnmlpfddiaaLad
namespace Go.Proofs.Ytcljgnmlpfddiaa
open Go.RowKit
set_option linter.unusedVariables false

/-- the world that rotaref.Swapped has made ahead of its function value -/
def made4 (w : World) (m A Bb x : Nat) (a : Option Addr) (cap len : Nat) : World :=
  (((w.alloc (.cells #[.int .i64 m, .slice a len cap] 60)).alloc (.cells #[.int .i64 A] 3)).alloc (.cells #[.int .i64 Bb] 3)).alloc (.cells #[.int .i64 x] 3)
theorem made4_size (w : World) (m A Bb x : Nat) (a : Option Addr) (cap len : Nat) : (made4 w m A Bb x a cap len).heap.size = w.heap.size + 4 := by simp [made4]
theorem row1_under {w : World} {g : Nat} {t : TypeId} {v : Value} (h : RowAt1 w g t v) (o : Obj) : RowAt1 (w.alloc o) g t v := h.keep ((Below.refl _ _).alloc (Nat.le_refl _) _)
theorem two_under {w : World} {g : Nat} {t : TypeId} {x y : Value} (h : Two w g t x y) (o : Obj) : Two (w.alloc o) g t x y := h.keep ((Below.refl _ _).alloc (Nat.le_refl _) _)
theorem made4_cells (w : World) (m A Bb x : Nat) (a : Option Addr) (cap len : Nat) :
    (made4 w m A Bb x a cap len).cell? ⟨w.heap.size, 0, none⟩ = some (.int .i64 m) ∧ (made4 w m A Bb x a cap len).cell? ⟨w.heap.size, 1, none⟩ = some (.slice a len cap) ∧ (made4 w m A Bb x a cap len).cell? ⟨w.heap.size + 1, 0, none⟩ = some (.int .i64 A) ∧ (made4 w m A Bb x a cap len).cell? ⟨w.heap.size + 2, 0, none⟩ = some (.int .i64 Bb) ∧ (made4 w m A Bb x a cap len).cell? ⟨w.heap.size + 3, 0, none⟩ = some (.int .i64 x) := by
  have t0 := two_under (two_under (two_under (Two.new w 60 (.int .i64 m) (.slice a len cap)) (.cells #[.int .i64 A] 3)) (.cells #[.int .i64 Bb] 3)) (.cells #[.int .i64 x] 3)
  have t1 := row1_under (row1_under (show RowAt1 ((w.alloc (.cells #[.int .i64 m, .slice a len cap] 60)).alloc (.cells #[.int .i64 A] 3)) (w.alloc (.cells #[.int .i64 m, .slice a len cap] 60)).heap.size 3 (.int .i64 A) from heap_alloc_new _ _) (.cells #[.int .i64 Bb] 3)) (.cells #[.int .i64 x] 3)
  have t2 := row1_under (show RowAt1 (((w.alloc (.cells #[.int .i64 m, .slice a len cap] 60)).alloc (.cells #[.int .i64 A] 3)).alloc (.cells #[.int .i64 Bb] 3)) ((w.alloc (.cells #[.int .i64 m, .slice a len cap] 60)).alloc (.cells #[.int .i64 A] 3)).heap.size 3 (.int .i64 Bb) from heap_alloc_new _ _) (.cells #[.int .i64 x] 3)
  have t3 : RowAt1 (made4 w m A Bb x a cap len) (((w.alloc (.cells #[.int .i64 m, .slice a len cap] 60)).alloc (.cells #[.int .i64 A] 3)).alloc (.cells #[.int .i64 Bb] 3)).heap.size 3 (.int .i64 x) := heap_alloc_new _ _
  refine ⟨t0.c0, t0.c1, ?_, ?_, ?_⟩
  · exact (show RowAt1 _ (w.heap.size + 1) _ _ by simpa [made4] using t1).c0
  · exact (show RowAt1 _ (w.heap.size + 2) _ _ by simpa [made4] using t2).c0
  · exact (show RowAt1 _ (w.heap.size + 3) _ _ by simpa [made4] using t3).c0
theorem made4_below (w : World) (m A Bb x : Nat) (a : Option Addr) (cap len : Nat) : Below w.heap.size w (made4 w m A Bb x a cap len) := by
  unfold made4
  refine Below.alloc (Below.alloc (Below.alloc (Below.alloc (Below.refl _ _) ?_ _) ?_ _) ?_ _) ?_ _ <;> simp <;> omega

def swB (L : List Nat) (A Bb x y : Nat) : Bool := decide (nand y (nand Bb A) = 0) && (decide (sz y = sz x) && (decide ((nand A x ||| y) ∈ L) && decide ((nand Bb y ||| x) ∈ L)))
theorem swB_iff {L : List Nat} {A Bb x y : Nat} : swB L A Bb x y = true ↔ SwOk L A Bb x y := by
  unfold swB SwOk
  simp only [Bool.and_eq_true, decide_eq_true_eq]

set_option maxRecDepth 100000 in
set_option maxHeartbeats 4000000 in
theorem c_refSwapped {B : Nat} {W : World} (u : Later B W) (m A Bb x : Nat) (r e : Int) (L : List Nat) (a : Option Addr) (cap : Nat) (h : IntsAt B W a (ints L)) (hlen : L.length ≤ 4611686018427387904) (hm : m ≤ 8) (hA8 : A < 256) (hB8 : Bb < 256) (hx8 : x < 256) (hx : nand x (nand A Bb) = 0) (hs : SwIs m L A Bb x r e) :
    Calls Try.prog 77 #[.agg #[.int .i64 m, .slice a (ints L).length cap], .int .i64 A, .int .i64 Bb, .int .i64 x] u.val (Ret B W (.tuple #[.int .i64 r, .bool (decide (e = 0))])) := by
  have hb := bit_le m hm
  have huB := u.size
  have HI : Hid (IntsAt u.val.heap.size u.val a (ints L)) := Lib.hid (h.to u)
  have HU : Hid (∀ w : World, Below u.val.heap.size u.val w → ∃ u' : Later B W, u'.val = w) := Lib.hid (fun w hb => ⟨u.to w (hb.mono huB), rfl⟩)
  have HS : Hid ((∃ y : Nat, (those m (swB L A Bb x))[0]? = some y ∧ r = y ∧ e = 0) ∨ (those m (swB L A Bb x) = [] ∧ r = 0 ∧ e = 5)) := Lib.hid (by
    have hf : ∀ z, ¬ SwOk L A Bb x z → swB L A Bb x z = false := fun z hz => by
      cases c : swB L A Bb x z
      · rfl
      · exact absurd (swB_iff.1 c) hz
    rcases hs with ⟨y, h1, h2, h3, h4, h5⟩ | ⟨h1, h2, h3⟩
    · exact .inl ⟨y, those_first h1 (swB_iff.2 h2) (fun z hz => hf z (h3 z hz)), h4, h5⟩
    · exact .inr ⟨those_none (fun z hz => hf z (h1 z hz)), h2, h3⟩)
  have HL : Hid ((those m (swB L A Bb x)).length ≤ 256) := Lib.hid (by have := thoseTo_len (swB L A Bb x) (bit m); have e : those m (swB L A Bb x) = thoseTo (swB L A Bb x) (bit m) := rfl; rw [e]; omega)
  go_enter Try.func77, Try.ntmps77
  go_upto_region 1 with fail
  rw [show (((u.val.alloc (.cells #[.int .i64 m, .slice a (ints L).length cap] 60)).alloc (.cells #[.int .i64 A] 3)).alloc (.cells #[.int .i64 Bb] 3)).alloc (.cells #[.int .i64 x] 3) = made4 u.val m A Bb x a cap (ints L).length from rfl]
  have C4 := made4_cells u.val m A Bb x a cap (ints L).length
  have S4 := made4_size u.val m A Bb x a cap (ints L).length
  have B4 := Lib.hid (made4_below u.val m A Bb x a cap (ints L).length)
  generalize made4 u.val m A Bb x a cap (ints L).length = w4 at *
  generalize u.val = V at *
  clear u h hs huB
  obtain ⟨q0, q1, q2, q3, q4⟩ := C4
  have hI4 : IntsAt w4.heap.size w4 a (ints L) := (HI.out.later B4.out).mono (by omega)
  have K : Hid (Calls Try.prog 102 #[.int .i64 m, .func (.func 131) #[] #[.pointer (some ⟨V.heap.size + 2, 0, none⟩), .pointer (some ⟨V.heap.size + 1, 0, none⟩), .pointer (some ⟨V.heap.size + 3, 0, none⟩), .pointer (some ⟨V.heap.size, 0, none⟩)]] w4 (RetInts w4.heap.size w4 (ints (those m (swB L A Bb x))))) := Lib.hid (by
    refine c_those (Later.self w4) m hm 131 _ (swB L A Bb x) (fun args w => by kernel_rfl) (fun z v s hs => ?_)
    have hz := z.size
    refine c_swTell v A Bb x s _ L a cap (V.heap.size + 1) (V.heap.size + 2) (V.heap.size + 3) V.heap.size (hI4.to z) hlen hA8 hB8 hx8 (by omega) hx ⟨by omega, by omega, by omega, by omega⟩ ?_ ?_ ?_ ?_ swB_iff
    · rw [z.cell (a := ⟨V.heap.size + 1, 0, none⟩) (by show V.heap.size + 1 < _; omega)]; exact q2
    · rw [z.cell (a := ⟨V.heap.size + 2, 0, none⟩) (by show V.heap.size + 2 < _; omega)]; exact q3
    · rw [z.cell (a := ⟨V.heap.size + 3, 0, none⟩) (by show V.heap.size + 3 < _; omega)]; exact q4
    · rw [z.cell (a := ⟨V.heap.size, 1, none⟩) (by show V.heap.size < _; omega)]; exact q1)
  have HV : Hid (∀ v : Later w4.heap.size w4, ∃ u' : Later B W, u'.val = v.val) := Lib.hid (fun v => HU.out v.val (B4.out.trans (v.below.mono (by omega))))
  clear q1 q2 q3 q4 hI4 HI HU B4 hx hlen
  go_upto_region 2 with (first | (go_at_call 102; refine (K.out).mono ?_; rintro e _ ⟨_, rfl, ⟨ad1, cp1, rfl, hI1, hcp1⟩, v1, rfl⟩))
  have HI1 := Lib.hid hI1
  clear hI1 hcp1 K q0
  rw [show (ints (those m (swB L A Bb x))).length = (those m (swB L A Bb x)).length from ints_len _]
  generalize those m (swB L A Bb x) = C at *
  rcases HS.out with ⟨y, h1, h2, h3⟩ | ⟨h1, h2, h3⟩
  · subst h2 h3
    obtain ⟨h4, h5⟩ := List.getElem?_eq_some_iff.1 h1
    have h6 : (ints C).getD 0 0 = (y : Int) := by rw [ints_getD]; simp [h1]
    obtain ⟨bb, off, rfl, hbB, hcell⟩ := HI1.out.at (k := 0) (by rw [ints_len]; exact h4)
    have c0 : v1.val.cell? ⟨bb, off + 0, none⟩ = some (.int .i64 (y : Int)) := by rw [← h6]; exact hcell (Later.self _) 0 (by rw [ints_len]; exact h4)
    have c1 : v1.val.cell? ⟨bb, off, none⟩ = some (.int .i64 (y : Int)) := c0
    have d1 : ((C.length : Int) == 0) = false := by rw [beq_eq_false_iff_ne]; omega
    have hl := HL.out
    clear h1 h5 h6 hcell HI1 HS HL
    go_wp2
    go_ret2
    exact Ret.of (HV.out v1) rfl
  · subst h1 h2 h3
    clear HS HL HI1
    go_wp2
    go_ret2
    exact Ret.of (HV.out v1) rfl

end Go.Proofs.Ytcljgnmlpfddiaa
