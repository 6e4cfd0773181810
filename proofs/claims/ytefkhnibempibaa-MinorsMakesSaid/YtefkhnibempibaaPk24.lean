
/-
  rotaref.Closure.
  rotaref.Most.
-/
import Derived.Test.YtefkhnibempibaaPk13
import Derived.Test.YtefkhnibempibaaPk06
import Derived.Test.YtefkhnibempibaaPk12
import Derived.Test.YtefkhnibempibaaPk14
namespace Go.Proofs.Ytefkhnibempibaa
open Go.RowKit
set_option linter.unusedVariables false

/-- does one of the first k of some sets add x to a set? -/
def adds (C : List Nat) (s x k : Nat) : Prop := ∃ j, j < k ∧ (C.getD j 0).testBit x = true ∧ C.getD j 0 ||| (s ||| bit x) = s ||| bit x
theorem adds_step {C : List Nat} {s x k : Nat} : adds C s x (k+1) ↔ adds C s x k ∨ ((C.getD k 0).testBit x = true ∧ C.getD k 0 ||| (s ||| bit x) = s ||| bit x) := by
  constructor
  · rintro ⟨j, h1, h2⟩
    by_cases e : j = k
    · subst e; exact .inr h2
    · exact .inl ⟨j, by omega, h2⟩
  · rintro (⟨j, h1, h2⟩ | h)
    · exact ⟨j, by omega, h2⟩
    · exact ⟨k, by omega, h⟩
/-- behind k elements, and c circuits of the next one -/
def RcTo (C : List Nat) (s k c X : Nat) : Prop := ∀ i, i < 8 → (X.testBit i = true ↔ s.testBit i = true ∨ (i < k ∧ adds C s i C.length) ∨ (i = k ∧ adds C s i c))
theorem RcTo.next {C : List Nat} {s k X : Nat} (h : RcTo C s k C.length X) : RcTo C s (k+1) 0 X := fun i hi => by
  rw [h i hi]
  constructor
  · rintro (g | g | g)
    · exact .inl g
    · exact .inr (.inl ⟨by omega, g.2⟩)
    · exact .inr (.inl ⟨by omega, g.2⟩)
  · rintro (g | g | ⟨_, j, hj, _⟩)
    · exact .inl g
    · by_cases e : i = k
      · exact .inr (.inr ⟨e, g.2⟩)
      · exact .inr (.inl ⟨by omega, g.2⟩)
    · omega
theorem RcTo.yes {C : List Nat} {s k c X : Nat} (h : RcTo C s k c X) (h1 : (C.getD c 0).testBit k = true) (h2 : C.getD c 0 ||| (s ||| bit k) = s ||| bit k) : RcTo C s k (c+1) (X ||| bit k) := fun i hi => by
  rw [or_bit_testBit, Bool.or_eq_true, h i hi, decide_eq_true_eq, adds_step]
  constructor
  · rintro ((g | g | g) | rfl)
    · exact .inl g
    · exact .inr (.inl g)
    · exact .inr (.inr ⟨g.1, .inl g.2⟩)
    · exact .inr (.inr ⟨rfl, .inr ⟨h1, h2⟩⟩)
  · rintro (g | g | ⟨rfl, g⟩)
    · exact .inl (.inl g)
    · exact .inl (.inr (.inl g))
    · exact .inr rfl
theorem RcTo.no {C : List Nat} {s k c X : Nat} (h : RcTo C s k c X) (h1 : ¬ ((C.getD c 0).testBit k = true ∧ C.getD c 0 ||| (s ||| bit k) = s ||| bit k)) : RcTo C s k (c+1) X := fun i hi => by
  rw [h i hi, adds_step]
  constructor
  · rintro (g | g | g)
    · exact .inl g
    · exact .inr (.inl g)
    · exact .inr (.inr ⟨g.1, .inl g.2⟩)
  · rintro (g | g | ⟨rfl, g | g⟩)
    · exact .inl g
    · exact .inr (.inl g)
    · exact .inr (.inr ⟨rfl, g⟩)
    · exact absurd g h1

end Go.Proofs.Ytefkhnibempibaa

namespace Go.Proofs.Ytefkhnibempibaa
open Go.RowKit
set_option linter.unusedVariables false

set_option maxRecDepth 100000 in
set_option maxHeartbeats 4000000 in
theorem c_mostTell {B : Nat} {W : World} (u : Later B W) (L : List Nat) (h256 : ∀ b, b ∈ L → b < 256) (hlen : L.length ≤ 4611686018427387904) (cap g : Nat) (a : Option Addr) (s : Nat) (hs : s < 256) (h : IntsAt B W a (ints L)) (hg : g < B) (hbox : W.cell? ⟨g, 0, none⟩ = some (.slice a (ints L).length cap)) :
    Calls Try.prog 59 #[.int .i64 s, .pointer (some ⟨g, 0, none⟩)] u.val (Ret B W (.bool (mostB L s))) := by
  have q1 : ∀ u : Later B W, u.val.cell? ⟨g, 0, none⟩ = some (.slice a L.length cap) := fun u => by rw [u.cell hg, hbox, ints_len]
  have HI := Lib.hid h
  have KH : Hid (∀ v : Later B W, Calls Try.prog 7 #[.slice a L.length cap, .int .i64 s] v.val (Ret B W (.bool (decide (s ∈ L))))) := Lib.hid (fun v => by
    have := c_has v (ints L) (s : Int) a cap h (by rw [ints_len]; omega)
    rw [ints_len] at this
    rwa [show decide ((s : Int) ∈ ints L) = decide (s ∈ L) by simp only [mem_ints]] at this)
  have H8 : Hid (∀ i, i < L.length → L.getD i 0 < 256) := Lib.hid (fun i hi => h256 _ (by simp [hi]))
  by_cases hm : s ∈ L
  case neg =>
    have K1 := Lib.hid (fun v => dcall_f (KH.out v) hm)
    have hr : mostB L s = false := by unfold mostB; simp [hm]
    rw [hr]
    clear h hbox h256 hm hr KH
    go_enter Try.func59, Try.ntmps59
    go_wp2_with (first | (go_at_call 7; refine (K1.out _).mono ?_; rintro e _ ⟨rfl, v2, rfl⟩))
    go_ret
    exact Ret.mk v2 rfl
  have K1 := Lib.hid (fun v => dcall_t (KH.out v) hm)
  have HF : Hid (mostB L s = true ↔ ∀ i, i < L.length → L.getD i 0 = s ∨ ¬ s ||| L.getD i 0 = L.getD i 0) := Lib.hid (by
    unfold mostB
    rw [show decide (s ∈ L) = true by simp [hm], Bool.true_and, all_getD]
    constructor <;> intro h i hi <;> have := h i hi <;> simpa using this)
  clear h hbox h256 hm KH
  generalize mostB L s = r at *
  go_enter Try.func59, Try.ntmps59
  go_wp2_with (first | (go_at_call 7; refine (K1.out _).mono ?_; rintro e _ ⟨rfl, v1, rfl⟩))
  clear K1
  go_loopw [4] (fun i wr => ∃ (k : Nat) (v : Later B W), k ≤ L.length ∧ i = .int .i64 k ∧ wr = v.val ∧ Hid (∀ i, i < k → L.getD i 0 = s ∨ ¬ s ||| L.getD i 0 = L.getD i 0)) (fun i _ => L.length - (intOf i).toNat)
  case atStart => exact ⟨0, v1, by omega, rfl, rfl, Lib.hid (fun i hi => by omega)⟩
  case round =>
    clear v1
    obtain ⟨k, v, hk, rfl, rfl, hf⟩ := hrel
    by_cases hlt : k < L.length
    · obtain ⟨b, off, rfl, hbB, hcell⟩ := HI.out.at (k := k) (by rw [ints_len]; exact hlt)
      have c0 : ∀ v : Later B W, v.val.cell? ⟨b, off + k, none⟩ = some (.int .i64 ((L.getD k 0 : Nat) : Int)) := fun v => by rw [← ints_getD]; exact hcell v k (by rw [ints_len]; exact hlt)
      have h8 := H8.out k hlt
      have KW := Lib.hid (fun v : Later B W => c_within v s (L.getD k 0) (by omega) (by omega))
      have HX : Hid (L.getD k 0 ≠ s → s ||| L.getD k 0 = L.getD k 0 → r = false) := Lib.hid (fun h1 h2 => by
        cases h : r with
        | false => rfl
        | true => rcases HF.out.1 h k hlt with h3 | h3
                  · exact absurd h3 h1
                  · exact absurd h2 h3)
      have HY : Hid ((L.getD k 0 = s ∨ ¬ s ||| L.getD k 0 = L.getD k 0) → ∀ i, i < k + 1 → L.getD i 0 = s ∨ ¬ s ||| L.getD i 0 = L.getD i 0) := Lib.hid (fun h i hi => by
        by_cases c : i = k
        · subst c; exact h
        · exact hf.out i (by omega))
      clear hcell hf
      generalize L.getD k 0 = x at *
      by_cases he : x = s
      · have HN := Lib.hid (HY.out (.inl he))
        have d1 : ((x : Int) != (s : Int)) = false := by rw [he]; simp
        have d2 : (x != s) = false := by rw [he]; simp
        clear he HX HY KW
        go_wp2
        go_roundw
        case rel => exact ⟨k+1, v, by omega, by go_num, rfl, HN⟩
        case measure => simp [intOf]; omega
      · have d1 : ((x : Int) != (s : Int)) = true := by rw [bne_iff_ne]; omega
        have d2 : (x != s) = true := by rw [bne_iff_ne]; exact he
        by_cases hw : s ||| x = x
        · have K1 := Lib.hid (fun v => dcall_t (KW.out v) hw)
          have hr := HX.out he hw
          subst hr
          clear hw KW HX HY he
          go_wp2_with (first | (go_at_call 35; refine (K1.out _).mono ?_; rintro e _ ⟨rfl, v2, rfl⟩))
          go_ret
          exact Ret.mk v2 rfl
        · have K1 := Lib.hid (fun v => dcall_f (KW.out v) hw)
          have HN := Lib.hid (HY.out (.inr hw))
          clear hw KW HX HY he
          go_wp2_with (first | (go_at_call 35; refine (K1.out _).mono ?_; rintro e _ ⟨rfl, v2, rfl⟩))
          go_roundw
          case rel => exact ⟨k+1, v2, by omega, by go_num, rfl, HN⟩
          case measure => simp [intOf]; omega
    · have hr : r = true := HF.out.2 (fun i hi => hf.out i (by omega))
      subst hr
      go_wp2
      go_ret
      exact Ret.mk v rfl

set_option maxRecDepth 100000 in
set_option maxHeartbeats 4000000 in
theorem c_mostR {B : Nat} {W : World} (u : Later B W) (m : Nat) (hm : m ≤ 8) (L : List Nat) (h256 : ∀ b, b ∈ L → b < 256) (hlen : L.length ≤ 4611686018427387904) (a : Option Addr) (cap : Nat) (h : IntsAt B W a (ints L)) :
    Calls Try.prog 33 #[.int .i64 m, .slice a (ints L).length cap] u.val (RetInts B W (ints (those m (mostB L)))) := by
  have hb := bit_le m hm
  have T0 : Hid (RowAt1 (u.val.alloc (.cells #[.slice a (ints L).length cap] 22)) u.val.heap.size 22 (.slice a (ints L).length cap)) := Lib.hid (heap_alloc_new _ _)
  have hI : IntsAt (u.val.alloc (.cells #[.slice a (ints L).length cap] 22)).heap.size (u.val.alloc (.cells #[.slice a (ints L).length cap] 22)) a (ints L) := h.to (u.alloc _)
  have hr : u.val.heap.size < (u.val.alloc (.cells #[.slice a (ints L).length cap] 22)).heap.size := by simp
  have K : Hid (Calls Try.prog 15 #[.int .i64 m, .func (.func 59) #[] #[.pointer (some ⟨u.val.heap.size, 0, none⟩)]] (u.val.alloc (.cells #[.slice a (ints L).length cap] 22)) (RetInts (u.val.alloc (.cells #[.slice a (ints L).length cap] 22)).heap.size (u.val.alloc (.cells #[.slice a (ints L).length cap] 22)) (ints (those m (mostB L))))) := Lib.hid (by
    refine c_those (Later.self _) m hm 59 _ (mostB L) (fun args w => by kernel_rfl) (fun x v s hs => ?_)
    exact c_mostTell v L h256 hlen cap u.val.heap.size a s (by omega) (hI.to x) (Nat.lt_of_lt_of_le hr x.size) ((T0.out.keep x.below).c0))
  clear h hI T0 hr h256
  go_enter Try.func33, Try.ntmps33
  go_wp2_with (first | (go_at_call 15; refine (K.out).mono ?_; rintro e _ ⟨_, rfl, ⟨ad1, cp1, rfl, hI1, hcp1⟩, v1, rfl⟩))
  go_ret
  exact RetP.mk ((u.alloc _).up v1) ⟨_, _, rfl, hI1, hcp1⟩

end Go.Proofs.Ytefkhnibempibaa
