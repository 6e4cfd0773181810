
/-
  rotaref.Induced.
  Functions that fall nowhere; the sets within a set, falling. No program in sight.
  sub.Induced, the walk.
-/
import Derived.Test.YtmcffbmhkbijlaaPk24
import Derived.Test.YtmcffbmhkbijlaaPk04
import Derived.Laws.ResultCell
namespace Go.Proofs.Ytmcffbmhkbijlaa
open Go.RowKit
set_option linter.unusedVariables false

end Go.Proofs.Ytmcffbmhkbijlaa

namespace Go.Proofs.Ytmcffbmhkbijlaa
set_option linter.unusedVariables false

def MonoL (f : List Int) (m : Nat) : Prop := ∀ s, s < f.length → ∀ i, i < m → f.getD s 0 ≤ f.getD (s ||| bit i) 0
def Mono (f : List Int) : Prop := ∀ s, s < f.length → ∀ t, t < s → t ||| s = s → f.getD t 0 ≤ f.getD s 0
theorem le_of_sub {s t : Nat} (h : t ||| s = s) : t ≤ s := by rw [← h]; exact Nat.left_le_or
theorem mono_iff {f : List Int} {m : Nat} (hm : m ≤ 8) (hl : f.length = bit m) : Mono f ↔ MonoL f m := by
  have hb := bit_le m hm
  constructor
  · intro h s hs i hi
    by_cases hsi : s.testBit i = true
    · have : s ||| bit i = s := by
        rw [Nat.or_comm, or_eq_iff]
        intro j hj
        rw [testBit_bit] at hj
        have : i = j := by simpa using hj
        subst this; exact hsi
      rw [this]; omega
    · have hsi' : s.testBit i = false := by simpa using hsi
      have h1 : s ||| bit i < f.length := by rw [hl] at hs ⊢; exact or_lt_bit hs (bit_lt_bit hi)
      have h2 := or_bit s i (by omega) (by omega) hsi'
      have h3 : 0 < bit i := by unfold bit; exact Nat.two_pow_pos i
      exact h _ h1 s (by omega) (by rw [← Nat.or_assoc, Nat.or_self])
  · intro h s
    induction s using Nat.strongRecOn with
    | _ s ih =>
    intro hs t ht hts
    have hst : ¬ sub s t := fun g => by
      have := or_eq_iff.2 g
      rw [Nat.or_comm] at this
      rw [this] at hts; omega
    obtain ⟨k, hk1, hk2⟩ := exists_diff hst
    have hkm : k < m := lt_m_of_testBit (by omega) hk1
    have hlt := nand_bit_lt (by omega) (by omega) hk1
    have h1 := h (nand s (bit k)) (by omega) k hkm
    rw [nand_or_bit hk1] at h1
    have hsub : t ||| nand s (bit k) = nand s (bit k) := by
      rw [or_eq_iff] at hts ⊢
      intro i hi
      rw [nand_testBit_bit, hts i hi]
      by_cases c : k = i
      · subst c; rw [hk2] at hi; cases hi
      · simp [c]
    have hle := le_of_sub hsub
    by_cases e : t = nand s (bit k)
    · rw [e]; exact h1
    · have := ih _ hlt (by omega) t (by omega) hsub
      omega

/-- the next set within s below t -/
theorem below_sub {s t x : Nat} (ht : t &&& s = t) (hx : x &&& s = x) (h : x < t) : x ≤ (t - 1) &&& s := by
  induction t using Nat.strongRecOn generalizing s x with
  | _ t ih =>
  by_cases hodd : t % 2 = 1
  · have : (t - 1) &&& s = t - 1 := by
      apply Nat.eq_of_testBit_eq
      intro i
      rw [Nat.testBit_and]
      cases hi : (t-1).testBit i
      · rfl
      · have h1 : t.testBit i = true := by
          cases i with
          | zero => simp only [Nat.testBit_zero] at hi ⊢; have := of_decide_eq_true hi; omega
          | succ i =>
            rw [Nat.testBit_succ] at hi ⊢
            rwa [show (t - 1) / 2 = t / 2 by omega] at hi
        rw [← ht, Nat.testBit_and] at h1
        have : s.testBit i = true := by
          cases hs : s.testBit i
          · rw [hs] at h1; simp at h1
          · rfl
        simp [this]
    omega
  · have h1 := ih (t / 2) (by omega) (s := s / 2) (x := x / 2) (by rw [← Nat.and_div_two, ht]) (by rw [← Nat.and_div_two, hx]) (by omega)
    have h2 : ((t - 1) &&& s) / 2 = (t / 2 - 1) &&& (s / 2) := by rw [Nat.and_div_two, show (t - 1) / 2 = t / 2 - 1 by omega]
    have h3 : x % 2 = 1 → ((t - 1) &&& s) % 2 = 1 := by
      intro hx1
      have hs1 : s.testBit 0 = true := by
        have hx0 : x.testBit 0 = true := by simp [hx1]
        rw [← hx, Nat.testBit_and] at hx0
        cases hs : s.testBit 0
        · rw [hs] at hx0; simp at hx0
        · rfl
      have ht1 : (t - 1).testBit 0 = true := by simp; omega
      have : ((t - 1) &&& s).testBit 0 = true := by rw [Nat.testBit_and, ht1, hs1]; rfl
      simpa using this
    omega
theorem pred_sub_lt {s t : Nat} (h : t ≠ 0) : (t - 1) &&& s < t := Nat.lt_of_le_of_lt Nat.and_le_left (by omega)
theorem pred_sub_sub (s t : Nat) : ((t - 1) &&& s) &&& s = (t - 1) &&& s := by rw [Nat.and_assoc, Nat.and_self]
theorem or_iff_and {a b : Nat} : a ||| b = b ↔ a &&& b = a := by
  rw [or_eq_iff]
  constructor
  · intro h
    apply Nat.eq_of_testBit_eq
    intro i
    rw [Nat.testBit_and]
    cases hi : a.testBit i
    · rfl
    · simp [h i hi]
  · intro h i hi
    rw [← h, Nat.testBit_and] at hi
    cases hb : b.testBit i
    · rw [hb] at hi; simp at hi
    · rfl

/-- the sets within s above t are no greater than the function says -/
def fitAbove (f : List Int) (s t : Nat) : Prop := ∀ x, x ≤ s → x &&& s = x → t < x → (sz x : Int) ≤ f.getD x 0
theorem fit_start (f : List Int) (s : Nat) : fitAbove f s s := fun x h _ g => by omega
theorem fit_step {f : List Int} {s t : Nat} (hts : t &&& s = t) (h : fitAbove f s t) (g : (sz t : Int) ≤ f.getD t 0) : fitAbove f s ((t - 1) &&& s) := by
  intro x hx hxs hlt
  by_cases c : t < x
  · exact h x hx hxs c
  · by_cases e : x = t
    · subst e; exact g
    · have := below_sub hts hxs (by omega)
      omega
theorem fit_end (f : List Int) (s : Nat) : fitAbove f s 0 ↔ indep f s = true := by
  unfold indep
  rw [decide_eq_true_iff]
  constructor
  · intro h t ht h1 hts
    exact h t (by omega) (or_iff_and.1 hts) (by omega)
  · intro h x hx hxs h0
    exact h x (by omega) (by omega) (or_iff_and.2 hxs)
theorem fit_no {f : List Int} {s t : Nat} (h0 : t ≠ 0) (hts : t &&& s = t) (g : ¬ (sz t : Int) ≤ f.getD t 0) : indep f s = false := by
  unfold indep
  rw [decide_eq_false_iff_not]
  intro h
  have hle : t ≤ s := by rw [← hts]; exact Nat.and_le_right
  exact g (h t (by omega) (by omega) (or_iff_and.2 hts))

/-- what is wrong with a function that a matroid is to be made of -/
def IndIs (f : List Int) (e k : Int) : Prop := (e ≠ 0 → k = e) ∧ (e = 0 → Mono f → k = 0) ∧ (e = 0 → ¬ Mono f → k = 3)
theorem IndIs.ex (f : List Int) (e : Int) : ∃ k, IndIs f e k := by
  by_cases h : e = 0
  · by_cases g : Mono f
    · exact ⟨0, fun x => absurd h x, fun _ _ => rfl, fun _ x => absurd g x⟩
    · exact ⟨3, fun x => absurd h x, fun _ x => absurd x g, fun _ _ => rfl⟩
  · exact ⟨e, fun _ => rfl, fun x => absurd x h, fun x => absurd x h⟩

end Go.Proofs.Ytmcffbmhkbijlaa

namespace Go.Proofs.Ytmcffbmhkbijlaa
open Go.RowKit
set_option linter.unusedVariables false

/-- a result: a matroid (none where the error is not 0) and the error -/
def MatE (n : Int) (xs : List Int) (k : Int) (v : Value) (w : World) : Prop := ∃ b, v = .tuple #[.agg #[.int .i64 (if k = 0 then n else 0), b], .int .i64 k] ∧ Reads w.heap.size w b (if k = 0 then xs else [])
def RetMatE (B : Nat) (W : World) (n : Int) (xs : List Int) (k : Int) : Ending → World → Prop := RetP B W (MatE n xs k)
theorem MatE.no {n : Int} {xs : List Int} {k : Int} (hk : k ≠ 0) (w : World) : MatE n xs k (.tuple #[.agg #[.int .i64 0, .slice none 0 0], .int .i64 k]) w :=
  ⟨_, by rw [if_neg hk], by rw [if_neg hk]; exact Reads.nil _ _⟩

end Go.Proofs.Ytmcffbmhkbijlaa
