
/-
  rotaref.IsFunction, sub.form, rotaref.Slower: functions of sets.
  A function of sets is submodular at any two sets as soon as it is so at any set and two further elements. No program in sight.
  Shannon's game, plainly: what edges reach, who wins from where. No program in sight.
-/
import Derived.Test.YtmcffbmhkbijlaaPk02
import Derived.Test.YtmcffbmhkbijlaaPk03
namespace Go.Proofs.Ytmcffbmhkbijlaa
open Go.RowKit
set_option linter.unusedVariables false

def inBound (f : List Int) (k : Nat) : Prop := ∀ i, i < k → -1000 ≤ f.getD i 0 ∧ f.getD i 0 ≤ 1000
theorem inBound_step {f : List Int} {k : Nat} (h : inBound f k) (h0 : -1000 ≤ f.getD k 0) (h1 : f.getD k 0 ≤ 1000) : inBound f (k+1) := by
  intro i hi
  by_cases e : i = k
  · subst e; exact ⟨h0, h1⟩
  · exact h i (by omega)
/-- a function of sets: a number of each, 0 of the empty one -/
def isFun (n : Int) (f : List Int) : Prop := 0 ≤ n ∧ n ≤ 8 ∧ f.length = bit n.toNat ∧ f.getD 0 0 = 0 ∧ ∀ i, i < f.length → -1000 ≤ f.getD i 0 ∧ f.getD i 0 ≤ 1000
instance (n f) : Decidable (isFun n f) := by unfold isFun; infer_instance

end Go.Proofs.Ytmcffbmhkbijlaa

namespace Go.Proofs.Ytmcffbmhkbijlaa
set_option linter.unusedVariables false

/-- at any two sets -/
def slowAt (f : List Int) (s t : Nat) : Prop := f.getD (s ||| t) 0 + f.getD (s &&& t) 0 ≤ f.getD s 0 + f.getD t 0
def Slow (f : List Int) : Prop := ∀ s, s < f.length → ∀ t, t < s → slowAt f s t
/-- at a set and two further elements -/
def locAt (f : List Int) (s i k : Nat) : Prop := s.testBit i = false → s.testBit k = false → f.getD (s ||| bit i ||| bit k) 0 + f.getD s 0 ≤ f.getD (s ||| bit i) 0 + f.getD (s ||| bit k) 0
def Local (f : List Int) (m : Nat) : Prop := ∀ s, s < f.length → ∀ i, i < m → ∀ k, k < i → locAt f s i k

theorem loc_sym {f : List Int} {m : Nat} (h : Local f m) {s : Nat} (hs : s < f.length) {i k : Nat} (hi : i < m) (hk : k < m) (hne : i ≠ k) : locAt f s i k := by
  rcases Nat.lt_or_gt_of_ne hne with hlt | hlt
  · intro h1 h2
    have := h s hs k hk i hlt h2 h1
    have e : s ||| bit i ||| bit k = s ||| bit k ||| bit i := by rw [Nat.or_assoc, Nat.or_comm (bit i), ← Nat.or_assoc]
    rw [e]; omega
  · exact h s hs i hi k hlt

/-- what an element adds falls as the set grows -/
theorem marg {f : List Int} {m : Nat} (hm : m ≤ 8) (hl : f.length = bit m) (h : Local f m) (i : Nat) (hi : i < m) : ∀ t, t < bit m → t.testBit i = false → ∀ s, sub s t → f.getD (t ||| bit i) 0 - f.getD t 0 ≤ f.getD (s ||| bit i) 0 - f.getD s 0 := by
  intro t
  induction t using Nat.strongRecOn with
  | _ t ih =>
  intro ht hti s hst
  have hb := bit_le m hm
  by_cases hts : sub t s
  · rw [sub_antisymm hst hts]; omega
  · obtain ⟨k, hk1, hk2⟩ := exists_diff hts
    have hkm := lt_m_of_testBit ht hk1
    have hlt := nand_bit_lt (by omega) (by omega) hk1
    have hik : i ≠ k := by rintro rfl; rw [hti] at hk1; cases hk1
    have ti : (nand t (bit k)).testBit i = false := by rw [nand_testBit_bit, hti]; rfl
    have tk : (nand t (bit k)).testBit k = false := by rw [nand_testBit_bit]; simp
    have h1 := ih (nand t (bit k)) hlt (by omega) ti s (by
      intro j hj
      rw [nand_testBit_bit, hst j hj]
      by_cases c : k = j
      · subst c; rw [hk2] at hj; cases hj
      · simp [c])
    have h2 := loc_sym h (s := nand t (bit k)) (by omega) hkm hi (Ne.symm hik) tk ti
    rw [nand_or_bit hk1] at h2
    omega

theorem slow_of_local {f : List Int} {m : Nat} (hm : m ≤ 8) (hl : f.length = bit m) (h : Local f m) (t : Nat) (ht : t < bit m) : ∀ s, s < bit m → slowAt f s t := by
  intro s
  induction s using Nat.strongRecOn with
  | _ s ih =>
  intro hs
  have hb := bit_le m hm
  by_cases hst : sub s t
  · have e1 : s ||| t = t := or_eq_iff.2 hst
    have e2 : s &&& t = s := by
      apply Nat.eq_of_testBit_eq
      intro i
      rw [Nat.testBit_and]
      cases hi : s.testBit i
      · rfl
      · rw [hst i hi]; rfl
    unfold slowAt
    rw [e1, e2]; omega
  · obtain ⟨k, hk1, hk2⟩ := exists_diff hst
    have hkm := lt_m_of_testBit hs hk1
    have hlt := nand_bit_lt (by omega) (by omega) hk1
    have h1 := ih _ hlt (by omega)
    have h2 := marg hm hl h k hkm (nand s (bit k) ||| t) (or_lt_bit (by omega) ht) (by rw [Nat.testBit_or, nand_testBit_bit, hk2]; simp) (nand s (bit k)) (by intro j hj; rw [Nat.testBit_or, hj]; rfl)
    have e1 : nand s (bit k) ||| t ||| bit k = s ||| t := by rw [Nat.or_assoc, Nat.or_comm t, ← Nat.or_assoc, nand_or_bit hk1]
    have e2 : nand s (bit k) &&& t = s &&& t := by
      apply Nat.eq_of_testBit_eq
      intro i
      rw [Nat.testBit_and, Nat.testBit_and, nand_testBit_bit]
      by_cases c : k = i
      · subst c; rw [hk2]; simp
      · simp [c]
    rw [e1, nand_or_bit hk1] at h2
    unfold slowAt at h1 ⊢
    rw [e2] at h1
    omega

theorem local_of_slow {f : List Int} {m : Nat} (hm : m ≤ 8) (hl : f.length = bit m) (h : Slow f) : Local f m := by
  intro s hs i hi k hk h1 h2
  have hbi := bit_lt_bit hi
  have hbk := bit_lt_bit (show k < m by omega)
  have hlt : s ||| bit k < s ||| bit i := by
    have hb := bit_le m hm
    rw [or_bit s k (by omega) (by omega) h2, or_bit s i (by omega) (by omega) h1]
    have := bit_lt_bit hk
    omega
  have := h (s ||| bit i) (by rw [hl]; exact or_lt_bit (by omega) hbi) (s ||| bit k) hlt
  have e1 : s ||| bit i ||| (s ||| bit k) = s ||| bit i ||| bit k := by
    apply Nat.eq_of_testBit_eq
    intro j
    simp only [Nat.testBit_or]
    cases s.testBit j <;> simp
  have e2 : (s ||| bit i) &&& (s ||| bit k) = s := by
    apply Nat.eq_of_testBit_eq
    intro j
    simp only [Nat.testBit_or, Nat.testBit_and, testBit_bit]
    by_cases c : i = j
    · by_cases d : k = j
      · omega
      · simp only [c, d, decide_true, decide_false, Bool.or_true, Bool.or_false, Bool.true_and]
    · simp only [c, decide_false, Bool.or_false]
      cases s.testBit j <;> simp
  unfold slowAt at this
  rw [e1, e2] at this
  exact this

/-- what the check of a function answers -/
def SlwIs (n : Int) (f : List Int) (e : Int) : Prop := (¬ isFun n f → e = 1) ∧ (isFun n f → ¬ Slow f → e = 3) ∧ (isFun n f → Slow f → e = 0)
theorem SlwIs.ex (n : Int) (f : List Int) : ∃ e, SlwIs n f e := by
  by_cases h : isFun n f
  · by_cases g : Slow f
    · exact ⟨0, fun x => absurd h x, fun _ x => absurd g x, fun _ _ => rfl⟩
    · exact ⟨3, fun x => absurd h x, fun _ _ => rfl, fun _ x => absurd x g⟩
  · exact ⟨1, fun _ => rfl, fun x => absurd x h, fun x => absurd x h⟩
theorem SlwIs.zero {n : Int} {f : List Int} (h : SlwIs n f 0) : isFun n f ∧ Slow f := by
  by_cases a : isFun n f
  · by_cases b : Slow f
    · exact ⟨a, b⟩
    · have := h.2.1 a b; omega
  · have := h.1 a; omega
theorem isFun.len {m : Nat} {f : List Int} (h : isFun (m : Int) f) : f.length = bit m := by simpa using h.2.2.1
theorem slow_iff {m : Nat} {f : List Int} (h : isFun (m : Int) f) : Slow f ↔ Local f m := by
  have hm : m ≤ 8 := by have := h.2.1; omega
  constructor
  · exact local_of_slow hm h.len
  · intro g s hs t ht
    have := h.len
    exact slow_of_local hm h.len g t (by omega) s (by omega)

end Go.Proofs.Ytmcffbmhkbijlaa

namespace Go.Proofs.Ytmcffbmhkbijlaa
set_option linter.unusedVariables false

/-- the vertices reached behind k edges of one turn -/
def reachE (es : List (Int × Int)) (x s : Nat) : Nat → Nat
  | 0 => s
  | k + 1 => if x.testBit k = true ∧ ((reachE es x s k).testBit (es.getD k (0,0)).1.toNat = true ∨ (reachE es x s k).testBit (es.getD k (0,0)).2.toNat = true) then reachE es x s k ||| (bit (es.getD k (0,0)).1.toNat ||| bit (es.getD k (0,0)).2.toNat) else reachE es x s k
def reachT (es : List (Int × Int)) (x s : Nat) : Nat → Nat
  | 0 => bit s
  | k + 1 => reachE es x (reachT es x s k) es.length
def led (n : Nat) (es : List (Int × Int)) (s t x : Nat) : Bool := (reachT es x s n).testBit t

theorem reachE_lt {n : Int} {es : List (Int × Int)} (hn : n ≤ 7) (he : ∀ i, i < es.length → 0 ≤ (es.getD i (0,0)).1 ∧ 0 ≤ (es.getD i (0,0)).2 ∧ (es.getD i (0,0)).1 < n ∧ (es.getD i (0,0)).2 < n) {x s : Nat} (hs : s < 256) {k : Nat} (hk : k ≤ es.length) : reachE es x s k < 256 := by
  induction k with
  | zero => exact hs
  | succ k ih =>
    have h1 := ih (by omega)
    have h2 := he k (by omega)
    unfold reachE
    split
    · exact or_lt _ _ h1 (or_lt _ _ (bit_lt256 _ (by omega)) (bit_lt256 _ (by omega)))
    · exact h1
theorem reachT_lt {n : Int} {es : List (Int × Int)} (hn : n ≤ 7) (he : ∀ i, i < es.length → 0 ≤ (es.getD i (0,0)).1 ∧ 0 ≤ (es.getD i (0,0)).2 ∧ (es.getD i (0,0)).1 < n ∧ (es.getD i (0,0)).2 < n) {x s : Nat} (hs : s < 8) (k : Nat) : reachT es x s k < 256 := by
  induction k with
  | zero => exact bit_lt256 s hs
  | succ k ih => exact reachE_lt hn he ih (Nat.le_refl _)

/-- does the joiner win? (fuel, joined, cut, the joiner moves) -/
def winF (H : Nat → Bool) (m : Nat) : Nat → Nat → Nat → Bool → Bool
  | 0, _, _, _ => false
  | f + 1, j, c, who => if H j = true then true else if H (nand (bit m - 1) c) = true then
      (if who = true then (List.range m).any (fun i => !(j ||| c).testBit i && winF H m f (j ||| bit i) c false) else (List.range m).all (fun i => (j ||| c).testBit i || winF H m f j (c ||| bit i) true)) else false
/-- the edges that are left -/
def left (m j c : Nat) : Nat := nand (bit m - 1) (j ||| c)
def win (H : Nat → Bool) (m j c : Nat) (who : Bool) : Bool := winF H m (sz (left m j c) + 1) j c who

theorem sz_without (x e : Nat) (hx : x < 256) (he : e < 8) (h : x.testBit e = true) : sz (nand x (bit e)) + 1 = sz x := by
  have : ∀ x : Fin 256, ∀ e : Fin 8, x.val.testBit e.val = true → sz (nand x.val (bit e.val)) + 1 = sz x.val := by decide +kernel
  exact this ⟨x, hx⟩ ⟨e, he⟩ h
theorem left_testBit (m j c i : Nat) : (left m j c).testBit i = (decide (i < m) && !(j ||| c).testBit i) := by
  unfold left; rw [nand_testBit, testBit_all]
theorem left_lt {m : Nat} (hm : m ≤ 8) (j c : Nat) : left m j c < 256 := by
  have := bit_le m hm
  exact nand_lt _ _ 8 (by show bit m - 1 < 256; omega)
theorem left_join (m j c i : Nat) : left m (j ||| bit i) c = nand (left m j c) (bit i) := by
  apply Nat.eq_of_testBit_eq
  intro k
  rw [left_testBit, nand_testBit, left_testBit]
  simp only [Nat.testBit_or]
  cases decide (k < m) <;> cases j.testBit k <;> cases c.testBit k <;> cases (bit i).testBit k <;> rfl
theorem left_cut (m j c i : Nat) : left m j (c ||| bit i) = nand (left m j c) (bit i) := by
  apply Nat.eq_of_testBit_eq
  intro k
  rw [left_testBit, nand_testBit, left_testBit]
  simp only [Nat.testBit_or]
  cases decide (k < m) <;> cases j.testBit k <;> cases c.testBit k <;> cases (bit i).testBit k <;> rfl
theorem win_eq (H : Nat → Bool) {m : Nat} (hm : m ≤ 8) (j c : Nat) (who : Bool) : win H m j c who = if H j = true then true else if H (nand (bit m - 1) c) = true then
      (if who = true then (List.range m).any (fun i => !(j ||| c).testBit i && win H m (j ||| bit i) c false) else (List.range m).all (fun i => (j ||| c).testBit i || win H m j (c ||| bit i) true)) else false := by
  have key : ∀ i, i < m → (j ||| c).testBit i = false → sz (nand (left m j c) (bit i)) + 1 = sz (left m j c) := fun i hi h => by
    refine sz_without _ i (left_lt hm j c) (by omega) ?_
    rw [left_testBit, h]; simp [hi]
  have e1 : (List.range m).any (fun i => !(j ||| c).testBit i && winF H m (sz (left m j c)) (j ||| bit i) c false) = (List.range m).any (fun i => !(j ||| c).testBit i && win H m (j ||| bit i) c false) := by
    rw [Bool.eq_iff_iff, List.any_eq_true, List.any_eq_true]
    constructor <;> rintro ⟨i, hi, h⟩ <;> refine ⟨i, hi, ?_⟩
    all_goals
      rw [Bool.and_eq_true] at h ⊢
      refine ⟨h.1, ?_⟩
      have hk := key i (by simpa using hi) (by simpa using h.1)
      have h2 := h.2
      unfold win at *
      rw [left_join, hk] at *
      exact h2
  have e2 : (List.range m).all (fun i => (j ||| c).testBit i || winF H m (sz (left m j c)) j (c ||| bit i) true) = (List.range m).all (fun i => (j ||| c).testBit i || win H m j (c ||| bit i) true) := by
    rw [Bool.eq_iff_iff, List.all_eq_true, List.all_eq_true]
    constructor <;> intro h i hi
    all_goals
      have h1 := h i hi
      rw [Bool.or_eq_true] at h1 ⊢
      by_cases hb : (j ||| c).testBit i = true
      · exact .inl hb
      · right
        have hk := key i (by simpa using hi) (by simpa using hb)
        have h2 := h1.resolve_left hb
        unfold win at *
        rw [left_cut, hk] at *
        exact h2
  rw [← e1, ← e2]
  rfl

/-- where nothing has been decided: the moves one by one -/
def Mid (H : Nat → Bool) (m j c : Nat) : Prop := H j = false ∧ H (nand (bit m - 1) c) = true
theorem win_joined {H : Nat → Bool} {m : Nat} (hm : m ≤ 8) {j c : Nat} {who : Bool} (h : H j = true) : win H m j c who = true := by rw [win_eq H hm, if_pos h]
theorem win_cut {H : Nat → Bool} {m : Nat} (hm : m ≤ 8) {j c : Nat} {who : Bool} (h : H j = false) (h2 : H (nand (bit m - 1) c) = false) : win H m j c who = false := by rw [win_eq H hm, if_neg (by simp [h]), if_neg (by simp [h2])]
theorem win_any {H : Nat → Bool} {m : Nat} (hm : m ≤ 8) {j c : Nat} (h : Mid H m j c) : win H m j c true = true ↔ ∃ i, i < m ∧ (j ||| c).testBit i = false ∧ win H m (j ||| bit i) c false = true := by
  rw [win_eq H hm, if_neg (by simp [h.1]), if_pos h.2, if_pos rfl, List.any_eq_true]
  simp
theorem win_all {H : Nat → Bool} {m : Nat} (hm : m ≤ 8) {j c : Nat} (h : Mid H m j c) : win H m j c false = true ↔ ∀ i, i < m → (j ||| c).testBit i = false → win H m j (c ||| bit i) true = true := by
  rw [win_eq H hm, if_neg (by simp [h.1]), if_pos h.2, if_neg (by simp), List.all_eq_true]
  constructor
  · intro h i hi hb
    have := h i (by simpa using hi)
    simpa [hb] using this
  · intro h i hi
    by_cases hb : (j ||| c).testBit i = true
    · simp [hb]
    · rw [h i (by simpa using hi) (by simpa using hb)]; simp
/-- without a move nobody is left undecided -/
theorem led_all (m j c : Nat) (hm : m ≤ 8) (hj : j < bit m) (hc : c < bit m) (h0 : j &&& c = 0) (h : left m j c = 0) : nand (bit m - 1) c = j := by
  apply Nat.eq_of_testBit_eq
  intro i
  have h1 := congrArg (fun x => x.testBit i) h
  simp only [Nat.zero_testBit] at h1
  rw [left_testBit] at h1
  rw [nand_testBit, testBit_all]
  have h2 := and_eq_zero_iff.1 h0 i
  by_cases hi : i < m
  · rw [Nat.testBit_or] at h1
    simp [hi] at h1 ⊢
    cases hjb : j.testBit i
    · simp [hjb] at h1; simp [h1]
    · simp [h2 hjb]
  · have : j.testBit i = false := by
      cases hjb : j.testBit i
      · rfl
      · exact absurd (lt_m_of_testBit hj hjb) hi
    simp [hi, this]
/-- how many stores a call makes at most -/
def cost : Nat → Nat
  | 0 => 1
  | k + 1 => 1 + (k + 1) * cost k
theorem cost_le : ∀ k, k ≤ 8 → cost k ≤ 200000 := by
  have : ∀ k : Fin 9, cost k.val ≤ 200000 := by decide
  exact fun k hk => this ⟨k, by omega⟩

end Go.Proofs.Ytmcffbmhkbijlaa
