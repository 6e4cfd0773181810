/-
  game.table.wins: the recursion over a book.
-/
import Derived.Test.YtcljgnmlpfddiaaGameMemo
import Derived.Deep.CutRange
import Derived.Deep.CutBlock
namespace Go.Proofs.Ytcljgnmlpfddiaa
open Go.RowKit Go.Maps
set_option linter.unusedVariables false

theorem Beside.below {b B : Nat} {W : World} (x : Beside b W) (hB : B ≤ b) (hs : B ≤ W.heap.size) : Below B W x.val :=
  ⟨x.grown.os, x.grown.tape, x.grown.output, x.grown.size, fun k hk => x.grown.block k (by omega) (fun e => by simp at e; omega)⟩
/-- what a call of the recursion leaves -/
def WinsPost (H : Nat → Bool) (m : Nat) (w : World) (b cnt : Nat) (v : Value) : Ending → World → Prop := fun e w' => e = .returned v ∧ w.grownBy w' (some b) ∧ Memo H m w' b cnt
/-- where the ways meet -/
def WinMid (H : Nat → Bool) (m : Nat) (w0 : World) (b cnt : Nat) (r : Bool) (ok : Value) (w : World) : Prop := ok = .bool r ∧ ∃ x : Beside b w0, w = x.val ∧ Memo H m x.val b cnt
/-- loop over moves: some set x is left, and nothing found so far -/
def AnyInv (H : Nat → Bool) (m j c x : Nat) (ok : Bool) : Prop := (ok = true → win H m j c true = true) ∧ (ok = false → ∀ i, i < m → (j ||| c).testBit i = false → x.testBit i = false → win H m (j ||| bit i) c false = false)
def AllInv (H : Nat → Bool) (m j c x : Nat) (ok : Bool) : Prop := (ok = false → win H m j c false = false) ∧ (ok = true → ∀ i, i < m → (j ||| c).testBit i = false → x.testBit i = false → win H m j (c ||| bit i) true = true)
def Sub (x y : Nat) : Prop := ∀ i, x.testBit i = true → y.testBit i = true
theorem AnyInv.start (H : Nat → Bool) (m j c : Nat) : AnyInv H m j c (left m j c) false := ⟨(fun h => by cases h), fun _ i hi hf hx => by rw [left_testBit, hf] at hx; simp [hi] at hx⟩
theorem AllInv.start (H : Nat → Bool) (m j c : Nat) : AllInv H m j c (left m j c) true := ⟨(fun h => by cases h), fun _ i hi hf hx => by rw [left_testBit, hf] at hx; simp [hi] at hx⟩
theorem AnyInv.end {H : Nat → Bool} {m : Nat} (hm : m ≤ 8) {j c x : Nat} {ok : Bool} (hM : Mid H m j c) (h : AnyInv H m j c x ok) (hx : x = 0 ∨ ok = true) : ok = win H m j c true := by
  cases ok with
  | true => exact (h.1 rfl).symm
  | false =>
    have hx0 : x = 0 := by simpa using hx
    cases hw : win H m j c true with
    | false => rfl
    | true =>
      obtain ⟨i, hi, hf, hwi⟩ := (win_any hm hM).1 hw
      have := h.2 rfl i hi hf (by rw [hx0]; simp)
      rw [this] at hwi; cases hwi
theorem AllInv.end {H : Nat → Bool} {m : Nat} (hm : m ≤ 8) {j c x : Nat} {ok : Bool} (hM : Mid H m j c) (h : AllInv H m j c x ok) (hx : x = 0 ∨ ok = false) : ok = win H m j c false := by
  cases ok with
  | false => exact (h.1 rfl).symm
  | true =>
    have hx0 : x = 0 := by simpa using hx
    exact ((win_all hm hM).2 (fun i hi hf => h.2 rfl i hi hf (by rw [hx0]; simp))).symm
/-- one move more -/
theorem move_facts {m j c x : Nat} (hm : m ≤ 8) (hx : x < 256) (h0 : x ≠ 0) (hs : Sub x (left m j c)) : ∃ e, e < m ∧ low x = bit e ∧ (j ||| c).testBit e = false ∧ Sub (drop1 x) (left m j c) ∧ sz (drop1 x) + 1 = sz x ∧ drop1 x < x ∧ (∀ i, i ≠ e → (drop1 x).testBit i = x.testBit i) := by
  obtain ⟨e, he, h1, h2, h3, h4, h5⟩ := low_facts x hx h0
  have hse := hs e h2
  rw [left_testBit, Bool.and_eq_true, decide_eq_true_eq, Bool.not_eq_true'] at hse
  have hd : ∀ i, i ≠ e → (drop1 x).testBit i = x.testBit i := fun i hi => by
    by_cases h8 : i < 8
    · rw [h3 i h8]; simp [hi]
    · rw [testBit_hi _ i hx (by omega), testBit_hi _ i (drop1_lt x hx) (by omega)]
  refine ⟨e, hse.1, h1, hse.2, fun i hi => ?_, ?_, h5, hd⟩
  · have := h3 i (lt_of_testBit (drop1_lt x hx) hi)
    rw [this] at hi
    simp at hi
    exact hs i hi.1
  · have h6 : drop1 x = nand x (bit e) := by
      refine eq_of_bits (drop1_lt x hx) (nand_lt _ _ 8 hx) (fun i hi => ?_)
      rw [h3 i hi, nand_testBit_bit]
      by_cases c : i = e
      · subst c; simp
      · simp [c, Ne.symm c]
    rw [h6]; exact sz_without x e hx he h2
theorem AnyInv.step {H : Nat → Bool} {m : Nat} (hm : m ≤ 8) {j c x e : Nat} (hM : Mid H m j c) (he : e < m) (hf : (j ||| c).testBit e = false) (hd : ∀ i, i ≠ e → (drop1 x).testBit i = x.testBit i) (h : AnyInv H m j c x false) : AnyInv H m j c (drop1 x) (win H m (j ||| bit e) c false) := by
  refine ⟨fun hw => (win_any hm hM).2 ⟨e, he, hf, hw⟩, fun hw i hi hfi hx => ?_⟩
  by_cases c : i = e
  · subst c; exact hw
  · exact h.2 rfl i hi hfi (by rw [← hd i c]; exact hx)
theorem AllInv.step {H : Nat → Bool} {m : Nat} (hm : m ≤ 8) {j c x e : Nat} (hM : Mid H m j c) (he : e < m) (hf : (j ||| c).testBit e = false) (hd : ∀ i, i ≠ e → (drop1 x).testBit i = x.testBit i) (h : AllInv H m j c x true) : AllInv H m j c (drop1 x) (win H m j (c ||| bit e) true) := by
  refine ⟨fun hw => ?_, fun hw i hi hfi hx => ?_⟩
  · cases hwn : win H m j c false with
    | false => rfl
    | true => have := (win_all hm hM).1 hwn e he hf; rw [hw] at this; cases this
  · by_cases c : i = e
    · subst c; exact hw
    · exact h.2 rfl i hi hfi (by rw [← hd i c]; exact hx)
theorem cost_step (k : Nat) (h : 1 ≤ k) : cost k = 1 + k * cost (k - 1) := by
  obtain ⟨k', rfl⟩ : ∃ k', k = k' + 1 := ⟨k - 1, by omega⟩
  rfl
theorem cost_pos (k : Nat) : 1 ≤ cost k := by cases k <;> simp [cost]
/-- a row of cells -/
def RowAt (w : World) (g : Nat) (t : TypeId) (vs : Array Value) : Prop := w.heap[g]? = some (.cells vs t (0, 0))
theorem RowAt.new (w : World) (t : TypeId) (vs : Array Value) : RowAt (w.alloc (.cells vs t)) w.heap.size t vs := heap_alloc_new w _
theorem RowAt.cell {w : World} {g : Nat} {t : TypeId} {vs : Array Value} (h : RowAt w g t vs) (i : Nat) : w.cell? ⟨g, i, none⟩ = vs[i]? := by rw [cell_of_row w g i _ _ _ h]
theorem RowAt.lt {w : World} {g : Nat} {t : TypeId} {vs : Array Value} (h : RowAt w g t vs) : g < w.heap.size := by
  have h' : w.heap[g]? = _ := h
  exact (Array.getElem?_eq_some_iff.1 h').1
theorem RowAt.keep {w w' : World} {g : Nat} {t : TypeId} {vs : Array Value} (h : RowAt w g t vs) (hb : Below w.heap.size w w') : RowAt w' g t vs := by
  show w'.heap[g]? = _
  rw [hb.block g h.lt]; exact h
theorem RowAt.beside {w : World} {g b : Nat} {t : TypeId} {vs : Array Value} (h : RowAt w g t vs) (x : Beside b w) (hne : g ≠ b) : RowAt x.val g t vs := by
  show x.val.heap[g]? = _
  rw [x.grown.block g h.lt (fun e => hne (by simpa using e))]; exact h

end Go.Proofs.Ytcljgnmlpfddiaa
