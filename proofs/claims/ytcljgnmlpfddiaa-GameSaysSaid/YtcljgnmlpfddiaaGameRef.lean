/-
  rotaref.Wins: the recursion over a book, told by a function value.
-/
import Derived.Test.YtcljgnmlpfddiaaGameRec
namespace Go.Proofs.Ytcljgnmlpfddiaa
open Go.RowKit Go.Maps
set_option linter.unusedVariables false

theorem Memo.look {H : Nat → Bool} {m : Nat} {w : World} {b n : Nat} (h : Memo H m w b n) {j c q : Nat} (hj : j < 256) (hc : c < 256) (hq : q < 3) :
    ∃ z : Int, (Instr.lookup 114 (.map (some b)) (.agg #[.int .i64 (j : Int), .int .i64 (c : Int), .int .i64 (q : Int)]) false).run Try.prog w = .ok (.int .i64 z) w ∧ (z = 0 ∨ z = winN H m j c (decide (q = 1))) := by
  obtain ⟨D, h1, h2, h3⟩ := h
  obtain ⟨z, hrun, hat, _⟩ := h1.lookup_int key3 Try.underlying114 Try.underlying3 (zeroInt w) (keyOf_bk (a := j) (b := c) (c := q) (by omega) (by omega) (by omega))
  exact ⟨z, hrun, h3 j c q z hj hc hq hat⟩

/-- what the function value has captured -/
structure Boxes (w : World) (b n s t m : Nat) (a : Option Addr) (cap len : Nat) (bg bs bt bw bn bf : Nat) : Prop where
  g0 : w.cell? ⟨bg, 0, none⟩ = some (.int .i64 n)
  g1 : w.cell? ⟨bg, 1, none⟩ = some (.slice a len cap)
  s0 : w.cell? ⟨bs, 0, none⟩ = some (.int .i64 s)
  t0 : w.cell? ⟨bt, 0, none⟩ = some (.int .i64 t)
  w0 : w.cell? ⟨bw, 0, none⟩ = some (.map (some b))
  n0 : w.cell? ⟨bn, 0, none⟩ = some (.int .i64 m)
  f0 : w.cell? ⟨bf, 0, none⟩ = some (.func (.func 91) #[] #[.pointer (some ⟨bg, 0, none⟩), .pointer (some ⟨bs, 0, none⟩), .pointer (some ⟨bt, 0, none⟩), .pointer (some ⟨bw, 0, none⟩), .pointer (some ⟨bn, 0, none⟩), .pointer (some ⟨bf, 0, none⟩)])
  lt : bg < w.heap.size ∧ bs < w.heap.size ∧ bt < w.heap.size ∧ bw < w.heap.size ∧ bn < w.heap.size ∧ bf < w.heap.size
  ne : bg ≠ b ∧ bs ≠ b ∧ bt ≠ b ∧ bw ≠ b ∧ bn ≠ b ∧ bf ≠ b
theorem Boxes.beside {w : World} {b n s t m : Nat} {a : Option Addr} {cap len bg bs bt bw bn bf : Nat} (h : Boxes w b n s t m a cap len bg bs bt bw bn bf) (x : Beside b w) : Boxes x.val b n s t m a cap len bg bs bt bw bn bf where
  g0 := by rw [x.cell h.lt.1 h.ne.1]; exact h.g0
  g1 := by rw [x.cell h.lt.1 h.ne.1]; exact h.g1
  s0 := by rw [x.cell h.lt.2.1 h.ne.2.1]; exact h.s0
  t0 := by rw [x.cell h.lt.2.2.1 h.ne.2.2.1]; exact h.t0
  w0 := by rw [x.cell h.lt.2.2.2.1 h.ne.2.2.2.1]; exact h.w0
  n0 := by rw [x.cell h.lt.2.2.2.2.1 h.ne.2.2.2.2.1]; exact h.n0
  f0 := by rw [x.cell h.lt.2.2.2.2.2 h.ne.2.2.2.2.2]; exact h.f0
  lt := by have := x.size; have := h.lt; omega
  ne := h.ne
def Beside.al {b : Nat} {W : World} (x : Beside b W) (o : Obj) : Beside b W := x.later ((Later.self x.val).alloc o)

def FndA (H : Nat → Bool) (m j c k : Nat) : Prop := ∃ i, i < k ∧ (j ||| c).testBit i = false ∧ win H m (j ||| bit i) c false = true
def FndB (H : Nat → Bool) (m j c k : Nat) : Prop := ∃ i, i < k ∧ (j ||| c).testBit i = false ∧ win H m j (c ||| bit i) true = false
def FIs (P : Prop) (q z z' : Int) : Prop := (z = q ∧ P) ∨ (z = z' ∧ ¬ P)
theorem FndA.zero (H : Nat → Bool) (m j c : Nat) : ¬ FndA H m j c 0 := by rintro ⟨i, hi, _⟩; omega
theorem FndB.zero (H : Nat → Bool) (m j c : Nat) : ¬ FndB H m j c 0 := by rintro ⟨i, hi, _⟩; omega
theorem FndA.skip {H : Nat → Bool} {m j c k : Nat} (h : (j ||| c).testBit k = true ∨ win H m (j ||| bit k) c false = false) : FndA H m j c (k+1) ↔ FndA H m j c k := by
  constructor
  · rintro ⟨i, hi, h1, h2⟩
    by_cases e : i = k
    · subst e; rcases h with h | h
      · rw [h] at h1; cases h1
      · rw [h] at h2; cases h2
    · exact ⟨i, by omega, h1, h2⟩
  · rintro ⟨i, hi, h⟩; exact ⟨i, by omega, h⟩
theorem FndB.skip {H : Nat → Bool} {m j c k : Nat} (h : (j ||| c).testBit k = true ∨ win H m j (c ||| bit k) true = true) : FndB H m j c (k+1) ↔ FndB H m j c k := by
  constructor
  · rintro ⟨i, hi, h1, h2⟩
    by_cases e : i = k
    · subst e; rcases h with h | h
      · rw [h] at h1; cases h1
      · rw [h] at h2; cases h2
    · exact ⟨i, by omega, h1, h2⟩
  · rintro ⟨i, hi, h⟩; exact ⟨i, by omega, h⟩
theorem FIs.iff {P Q : Prop} {q z z' : Int} (h : FIs P q z z') (e : Q ↔ P) : FIs Q q z z' := by
  rcases h with ⟨h1, h2⟩ | ⟨h1, h2⟩
  · exact .inl ⟨h1, e.2 h2⟩
  · exact .inr ⟨h1, fun h => h2 (e.1 h)⟩
theorem FndA.end {H : Nat → Bool} {m : Nat} (hm : m ≤ 8) {j c : Nat} (hM : Mid H m j c) {z : Int} (h : FIs (FndA H m j c m) 1 z 2) : z = winN H m j c true := by
  unfold winN
  rcases h with ⟨h1, i, hi, h2, h3⟩ | ⟨h1, h2⟩
  · rw [if_pos ((win_any hm hM).2 ⟨i, hi, h2, h3⟩)]; exact h1
  · rw [if_neg (fun hw => h2 (by obtain ⟨i, hi, h3, h4⟩ := (win_any hm hM).1 hw; exact ⟨i, hi, h3, h4⟩))]; exact h1
theorem FndB.end {H : Nat → Bool} {m : Nat} (hm : m ≤ 8) {j c : Nat} (hM : Mid H m j c) {z : Int} (h : FIs (FndB H m j c m) 2 z 1) : z = winN H m j c false := by
  unfold winN
  rcases h with ⟨h1, i, hi, h2, h3⟩ | ⟨h1, h2⟩
  · rw [if_neg (fun hw => by have := (win_all hm hM).1 hw i hi h2; rw [h3] at this; cases this)]; exact h1
  · rw [if_pos ((win_all hm hM).2 (fun i hi hf => by
      cases hw : win H m j (c ||| bit i) true with
      | true => rfl
      | false => exact absurd ⟨i, hi, hf, hw⟩ h2))]; exact h1
theorem rest_free (x i : Nat) (hx : x < 256) (hi : i < 8) : sz (nand x (bit (i+1) - 1)) + (x.testBit i).toNat = sz (nand x (bit i - 1)) := by
  have : ∀ x : Fin 256, ∀ i : Fin 8, sz (nand x.val (bit (i.val+1) - 1)) + (x.val.testBit i.val).toNat = sz (nand x.val (bit i.val - 1)) := by decide +kernel
  exact this ⟨x, hx⟩ ⟨i, hi⟩
theorem overV_zero {H : Nat → Bool} {m j c : Nat} (h : overV H m j c = 0) : Mid H m j c := by
  unfold overV at h
  split at h
  · omega
  · split at h
    · rename_i h1 h2; exact ⟨by simpa using h1, h2⟩
    · omega
theorem overV_pos {H : Nat → Bool} {m j c : Nat} (hm : m ≤ 8) (h : overV H m j c ≠ 0) (who : Bool) : overV H m j c = winN H m j c who := by
  unfold overV at h ⊢
  unfold winN
  split
  · rename_i h1; rw [win_joined hm h1]; rfl
  · rename_i h1
    split
    · rename_i h2; rw [if_neg h1, if_pos h2] at h; exact absurd rfl h
    · rename_i h2; rw [win_cut hm (by simpa using h1) (by simpa using h2)]; rfl
theorem overV_ge (H : Nat → Bool) (m j c : Nat) : overV H m j c = 0 ∨ overV H m j c = 1 ∨ overV H m j c = 2 := by
  unfold overV; split
  · simp
  · split <;> simp

end Go.Proofs.Ytcljgnmlpfddiaa
