
/-
  greedy.basis, greedy.two.
  rotaref.Free, rotaref.Least: their function values.
  Boxes of one cell.
-/
import Derived.Test.YtmcffbmhkbijlaaPk07
import Derived.Test.YtmcffbmhkbijlaaPk02
import Derived.Test.YtmcffbmhkbijlaaPk04
namespace Go.Proofs.Ytmcffbmhkbijlaa
open Go.RowKit
set_option linter.unusedVariables false

theorem MatIs.zero {n : Int} {l : List Int} (h : MatIs n l 0) : okM n l ∧ Exch (toN l) := by
  by_cases hk : okM n l
  · by_cases hx : Exch (toN l)
    · exact ⟨hk, hx⟩
    · have := h.2.1 hk hx; omega
  · have := h.1 hk; omega

/-- what greedy.two answers -/
def twoE (l : List Int) (e A B : Int) : Int := if e = 0 then (if A ∈ l ∧ B ∈ l then 0 else 1) else e

end Go.Proofs.Ytmcffbmhkbijlaa

namespace Go.Proofs.Ytmcffbmhkbijlaa
open Go.RowKit
set_option linter.unusedVariables false

/-- within a basis -/
def freeB (L : List Nat) (s : Nat) : Bool := L.any (fun b => decide (s ||| b = b))
theorem freeB_iff {L : List Nat} {s : Nat} : freeB L s = true ↔ Ind L s := by
  unfold freeB Ind
  rw [List.any_eq_true]
  constructor
  · rintro ⟨b, hb, h⟩
    exact ⟨b, hb, or_eq_iff.1 (by simpa using h)⟩
  · rintro ⟨b, hb, h⟩
    exact ⟨b, hb, by simpa using or_eq_iff.2 h⟩
theorem any_getD {L : List Nat} {p : Nat → Bool} : L.any p = true ↔ ∃ i, i < L.length ∧ p (L.getD i 0) = true := by
  rw [List.any_eq_true]
  constructor
  · rintro ⟨x, hx, h⟩
    obtain ⟨i, hi, e⟩ := List.getElem_of_mem hx
    exact ⟨i, hi, by rw [show L.getD i 0 = x by simp [hi, e]]; exact h⟩
  · rintro ⟨i, hi, h⟩
    exact ⟨L.getD i 0, by simp [hi], h⟩

/-- of a family's sets: one within which no other one lies -/
def leastB (M : List Nat) (s : Nat) : Bool := decide (s ∈ M) && M.all (fun x => decide (x = s) || !decide (x ||| s = s))
theorem all_getD {L : List Nat} {p : Nat → Bool} : L.all p = true ↔ ∀ i, i < L.length → p (L.getD i 0) = true := by
  rw [List.all_eq_true]
  constructor
  · intro h i hi; exact h _ (by simp [hi])
  · intro h x hx
    obtain ⟨i, hi, e⟩ := List.getElem_of_mem hx
    have := h i hi
    rwa [show L.getD i 0 = x by simp [hi, e]] at this

set_option maxRecDepth 100000 in
set_option maxHeartbeats 4000000 in
theorem c_leastTell {B : Nat} {W : World} (u : Later B W) (L : List Nat) (h256 : ∀ b, b ∈ L → b < 256) (hlen : L.length ≤ 4611686018427387904) (cap g : Nat) (a : Option Addr) (s : Nat) (hs : s < 256) (h : IntsAt B W a (ints L)) (hg : g < B) (hbox : W.cell? ⟨g, 0, none⟩ = some (.slice a (ints L).length cap)) :
    Calls Try.prog 62 #[.int .i64 s, .pointer (some ⟨g, 0, none⟩)] u.val (Ret B W (.bool (leastB L s))) := by
  have q1 : ∀ u : Later B W, u.val.cell? ⟨g, 0, none⟩ = some (.slice a L.length cap) := fun u => by rw [u.cell hg, hbox, ints_len]
  have HI := Lib.hid h
  have KH : Hid (∀ v : Later B W, Calls Try.prog 35 #[.slice a L.length cap, .int .i64 s] v.val (Ret B W (.bool (decide (s ∈ L))))) := Lib.hid (fun v => by
    have := c_has v (ints L) (s : Int) a cap h (by rw [ints_len]; omega)
    rw [ints_len] at this
    rwa [show decide ((s : Int) ∈ ints L) = decide (s ∈ L) by simp only [mem_ints]] at this)
  have H8 : Hid (∀ i, i < L.length → L.getD i 0 < 256) := Lib.hid (fun i hi => h256 _ (by simp [hi]))
  by_cases hm : s ∈ L
  case neg =>
    have K1 := Lib.hid (fun v => dcall_f (KH.out v) hm)
    have hr : leastB L s = false := by unfold leastB; simp [hm]
    rw [hr]
    clear h hbox h256 hm hr KH
    go_enter Try.func62, Try.ntmps62
    go_wp2_with (first | (go_at_call 35; refine (K1.out _).mono ?_; rintro e _ ⟨rfl, v2, rfl⟩))
    go_ret
    exact Ret.mk v2 rfl
  have K1 := Lib.hid (fun v => dcall_t (KH.out v) hm)
  have HF : Hid (leastB L s = true ↔ ∀ i, i < L.length → L.getD i 0 = s ∨ ¬ L.getD i 0 ||| s = s) := Lib.hid (by
    unfold leastB
    rw [show decide (s ∈ L) = true by simp [hm], Bool.true_and, all_getD]
    constructor <;> intro h i hi <;> have := h i hi <;> simpa using this)
  clear h hbox h256 hm KH
  generalize leastB L s = r at *
  go_enter Try.func62, Try.ntmps62
  go_wp2_with (first | (go_at_call 35; refine (K1.out _).mono ?_; rintro e _ ⟨rfl, v1, rfl⟩))
  clear K1
  go_loopw [4] (fun i wr => ∃ (k : Nat) (v : Later B W), k ≤ L.length ∧ i = .int .i64 k ∧ wr = v.val ∧ Hid (∀ i, i < k → L.getD i 0 = s ∨ ¬ L.getD i 0 ||| s = s)) (fun i _ => L.length - (intOf i).toNat)
  case atStart => exact ⟨0, v1, by omega, rfl, rfl, Lib.hid (fun i hi => by omega)⟩
  case round =>
    clear v1
    obtain ⟨k, v, hk, rfl, rfl, hf⟩ := hrel
    by_cases hlt : k < L.length
    · obtain ⟨b, off, rfl, hbB, hcell⟩ := HI.out.at (k := k) (by rw [ints_len]; exact hlt)
      have c0 : ∀ v : Later B W, v.val.cell? ⟨b, off + k, none⟩ = some (.int .i64 ((L.getD k 0 : Nat) : Int)) := fun v => by rw [← ints_getD]; exact hcell v k (by rw [ints_len]; exact hlt)
      have h8 := H8.out k hlt
      have KW := Lib.hid (fun v : Later B W => c_within v (L.getD k 0) s (by omega) (by omega))
      have HX : Hid (L.getD k 0 ≠ s → L.getD k 0 ||| s = s → r = false) := Lib.hid (fun h1 h2 => by
        cases h : r with
        | false => rfl
        | true => rcases HF.out.1 h k hlt with h3 | h3
                  · exact absurd h3 h1
                  · exact absurd h2 h3)
      have HY : Hid ((L.getD k 0 = s ∨ ¬ L.getD k 0 ||| s = s) → ∀ i, i < k + 1 → L.getD i 0 = s ∨ ¬ L.getD i 0 ||| s = s) := Lib.hid (fun h i hi => by
        by_cases c : i = k
        · subst c; exact h
        · exact hf.out i (by omega))
      clear hcell hf
      generalize L.getD k 0 = x at *
      by_cases he : x = s
      · have HN := Lib.hid (HY.out (.inl he))
        have d1 : ((x : Int) != (s : Int)) = false := by rw [he]; simp
        have d2 : (x != s) = false := by rw [he]; simp
        clear he HX HY KW
        go_wp2
        go_roundw
        case rel => exact ⟨k+1, v, by omega, by go_num, rfl, HN⟩
        case measure => simp [intOf]; omega
      · have d1 : ((x : Int) != (s : Int)) = true := by rw [bne_iff_ne]; omega
        have d2 : (x != s) = true := by rw [bne_iff_ne]; exact he
        by_cases hw : x ||| s = s
        · have K1 := Lib.hid (fun v => dcall_t (KW.out v) hw)
          have hr := HX.out he hw
          subst hr
          clear hw KW HX HY he
          go_wp2_with (first | (go_at_call 39; refine (K1.out _).mono ?_; rintro e _ ⟨rfl, v2, rfl⟩))
          go_ret
          exact Ret.mk v2 rfl
        · have K1 := Lib.hid (fun v => dcall_f (KW.out v) hw)
          have HN := Lib.hid (HY.out (.inr hw))
          clear hw KW HX HY he
          go_wp2_with (first | (go_at_call 39; refine (K1.out _).mono ?_; rintro e _ ⟨rfl, v2, rfl⟩))
          go_roundw
          case rel => exact ⟨k+1, v2, by omega, by go_num, rfl, HN⟩
          case measure => simp [intOf]; omega
    · have hr : r = true := HF.out.2 (fun i hi => hf.out i (by omega))
      subst hr
      go_wp2
      go_ret
      exact Ret.mk v rfl

end Go.Proofs.Ytmcffbmhkbijlaa

namespace Go.Proofs.Ytmcffbmhkbijlaa
open Go.RowKit
set_option linter.unusedVariables false

/-- a box of one cell -/
def RowAt1 (w : World) (g : Nat) (t : TypeId) (v : Value) : Prop := w.heap[g]? = some (.cells #[v] t (0, 0))
theorem RowAt1.c0 {w : World} {g : Nat} {t : TypeId} {v : Value} (h : RowAt1 w g t v) : w.cell? ⟨g, 0, none⟩ = some v := by rw [cell_of_row w g 0 _ _ _ h]; rfl
theorem RowAt1.lt {w : World} {g : Nat} {t : TypeId} {v : Value} (h : RowAt1 w g t v) : g < w.heap.size := by
  have h' : w.heap[g]? = _ := h
  exact (Array.getElem?_eq_some_iff.1 h').1
theorem RowAt1.keep {w w' : World} {g : Nat} {t : TypeId} {v : Value} (h : RowAt1 w g t v) (hb : Below w.heap.size w w') : RowAt1 w' g t v := by
  show w'.heap[g]? = _
  rw [hb.block g h.lt]; exact h

theorem row1_under {w : World} {g : Nat} {t : TypeId} {v : Value} (h : RowAt1 w g t v) (o : Obj) : RowAt1 (w.alloc o) g t v := h.keep ((Below.refl _ _).alloc (Nat.le_refl _) _)
theorem two_under {w : World} {g : Nat} {t : TypeId} {x y : Value} (h : Two w g t x y) (o : Obj) : Two (w.alloc o) g t x y := h.keep ((Below.refl _ _).alloc (Nat.le_refl _) _)

theorem own_some {B : Nat} {w : World} {ad : Option Addr} {cap : Nat} {xs : List Int} (h : Own B w ad cap xs) (hne : xs ≠ []) : ∃ g, ad = some ⟨g, 0, none⟩ := by
  rcases h.2 with ⟨e, hn0⟩ | ⟨g, c, cur, e, _⟩
  · exact absurd (List.length_eq_zero_iff.1 hn0) hne
  · exact ⟨g, by simp only [Value.slice.injEq] at e; exact e.1⟩


end Go.Proofs.Ytmcffbmhkbijlaa
