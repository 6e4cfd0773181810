
/-
  Edges without a ring: the parts' names hang on one another (plain).
  kinds.forest$1: a vertex's last name.
-/
import Derived.Test.YtnhpefcjgaimeaaPk22
import Derived.Test.YtnhpefcjgaimeaaPk13
import Derived.Test.YtnhpefcjgaimeaaPk19
namespace Go.Proofs.Ytnhpefcjgaimeaa
open Go.RowKit
set_option linter.unusedVariables false

def itr (p : Nat → Nat) : Nat → Nat → Nat
  | 0, v => v
  | k + 1, v => itr p k (p v)
theorem itr_add (p : Nat → Nat) : ∀ k l v, itr p (k + l) v = itr p l (itr p k v)
  | 0, l, v => by rw [Nat.zero_add]; rfl
  | k + 1, l, v => by rw [show k + 1 + l = (k + l) + 1 by omega]; exact itr_add p k l (p v)
theorem itr_fix {p : Nat → Nat} {r : Nat} (h : p r = r) : ∀ k, itr p k r = r
  | 0 => rfl
  | k + 1 => by show itr p k (p r) = r; rw [h]; exact itr_fix h k
/-- r is v's last name -/
def Rt (p : Nat → Nat) (v r : Nat) : Prop := p r = r ∧ ∃ k, itr p k v = r
theorem Rt.self {p : Nat → Nat} {v : Nat} (h : p v = v) : Rt p v v := ⟨h, 0, rfl⟩
theorem Rt.one {p : Nat → Nat} {v r r' : Nat} (h : Rt p v r) (h' : Rt p v r') : r = r' := by
  obtain ⟨f, k, rfl⟩ := h
  obtain ⟨f', l, rfl⟩ := h'
  by_cases c : k ≤ l
  · have e : itr p l v = itr p k v := by rw [show l = k + (l - k) by omega, itr_add, itr_fix f]
    exact e.symm
  · have e : itr p k v = itr p l v := by rw [show k = l + (k - l) by omega, itr_add, itr_fix f']
    exact e
theorem Rt.step {p : Nat → Nat} {v r : Nat} (h : Rt p v r) : Rt p (p v) r := by
  obtain ⟨f, k, e⟩ := h
  cases k with
  | zero => have e : v = r := e; subst e; rw [f]; exact ⟨f, 0, rfl⟩
  | succ k => exact ⟨f, k, e⟩
theorem Rt.back {p : Nat → Nat} {v r : Nat} (h : Rt p (p v) r) : Rt p v r := by
  obtain ⟨f, k, e⟩ := h
  exact ⟨f, k + 1, e⟩
/-- a forest of names whose trees are the parts of J -/
structure UF (n : Nat) (p : Nat → Nat) (J : Nat → Nat → Prop) : Prop where
  lt : ∀ j, j < n → p j < n
  wf : ∃ d : Nat → Nat, ∀ j, j < n → p j ≠ j → d (p j) < d j
  jn : ∀ i j, i < n → j < n → (J i j ↔ ∃ r, Rt p i r ∧ Rt p j r)
theorem root_ex {n : Nat} {p : Nat → Nat} (hlt : ∀ j, j < n → p j < n) {d : Nat → Nat} (hd : ∀ j, j < n → p j ≠ j → d (p j) < d j) : ∀ k v, v < n → d v ≤ k → ∃ r, r < n ∧ Rt p v r := by
  intro k
  induction k with
  | zero =>
    intro v hv hk
    by_cases c : p v = v
    · exact ⟨v, hv, Rt.self c⟩
    · have := hd v hv c; omega
  | succ k ih =>
    intro v hv hk
    by_cases c : p v = v
    · exact ⟨v, hv, Rt.self c⟩
    · have := hd v hv c
      obtain ⟨r, hr, h⟩ := ih (p v) (hlt v hv) (by omega)
      exact ⟨r, hr, h.back⟩
theorem UF.root {n : Nat} {p : Nat → Nat} {J : Nat → Nat → Prop} (h : UF n p J) {v : Nat} (hv : v < n) : ∃ r, r < n ∧ Rt p v r := by
  obtain ⟨d, hd⟩ := h.wf
  exact root_ex h.lt hd (d v) v hv (Nat.le_refl _)
theorem UF.start (n : Nat) {J : Nat → Nat → Prop} (hJ : ∀ i j, i < n → j < n → (J i j ↔ i = j)) : UF n (fun j => j) J := by
  refine ⟨fun j h => h, ⟨fun _ => 0, fun j _ h => absurd rfl h⟩, fun i j hi hj => ?_⟩
  rw [hJ i j hi hj]
  constructor
  · intro h; subst h; exact ⟨i, Rt.self rfl, Rt.self rfl⟩
  · rintro ⟨r, h1, h2⟩
    exact ((Rt.self (p := fun j => j) (v := i) rfl).one h1).trans ((Rt.self (p := fun j => j) (v := j) rfl).one h2).symm
/-- a hangs on b from now on -/
def hang (p : Nat → Nat) (a b : Nat) : Nat → Nat := fun j => if j = a then b else p j
theorem hang_rt {p : Nat → Nat} {a b : Nat} (ha : p a = a) (hb : p b = b) (hne : a ≠ b) : ∀ k v r, itr p k v = r → p r = r → Rt (hang p a b) v (if r = a then b else r) := by
  have hbb : hang p a b b = b := by unfold hang; rw [if_neg (fun c => hne c.symm), hb]
  have hab : hang p a b a = b := by unfold hang; rw [if_pos rfl]
  intro k
  induction k with
  | zero =>
    intro v r e hr
    have e : v = r := e
    subst e
    by_cases c : v = a
    · subst c; rw [if_pos rfl]
      exact Rt.back (by rw [hab]; exact Rt.self hbb)
    · rw [if_neg c]
      exact Rt.self (by unfold hang; rw [if_neg c, hr])
  | succ k ih =>
    intro v r e hr
    have h := ih (p v) r e hr
    by_cases c : v = a
    · subst c; rw [ha] at h; exact h
    · exact Rt.back (by rw [show hang p a b v = p v by unfold hang; rw [if_neg c]]; exact h)
theorem UF.join {n : Nat} {p : Nat → Nat} {J J' : Nat → Nat → Prop} {A B a b : Nat} (h : UF n p J) (hA : A < n) (hB : B < n) (hb : b < n) (ra : Rt p A a) (rb : Rt p B b) (hne : a ≠ b) (hJ : ∀ i j, i < n → j < n → (J' i j ↔ J i j ∨ (J i A ∧ J j B) ∨ (J i B ∧ J j A))) : UF n (hang p a b) J' := by
  have hpa := ra.1
  have hpb := rb.1
  refine ⟨fun j hj => ?_, ?_, fun i j hi hj => ?_⟩
  · unfold hang; split
    · exact hb
    · exact h.lt j hj
  · obtain ⟨d, hd⟩ := h.wf
    classical
    refine ⟨fun j => if Rt p j a then d j + d b + 1 else d j, fun j hj hpj => ?_⟩
    have hnb : ¬ Rt p b a := fun c => hne (c.one (Rt.self hpb))
    by_cases c : j = a
    · subst c
      show (if Rt p (hang p j b j) j then _ else _) < (if Rt p j j then _ else _)
      rw [show hang p j b j = b by unfold hang; rw [if_pos rfl], if_neg hnb, if_pos (Rt.self hpa)]
      omega
    · have e : hang p a b j = p j := by unfold hang; rw [if_neg c]
      rw [e] at hpj
      have := hd j hj hpj
      show (if Rt p (hang p a b j) a then _ else _) < (if Rt p j a then _ else _)
      rw [e]
      by_cases c2 : Rt p j a
      · rw [if_pos c2.step, if_pos c2]; omega
      · rw [if_neg (fun c3 => c2 c3.back), if_neg c2]; exact this
  · obtain ⟨ri, hri, hi'⟩ := h.root hi
    obtain ⟨rj, hrj, hj'⟩ := h.root hj
    have key : ∀ {x y rx ry : Nat}, x < n → y < n → Rt p x rx → Rt p y ry → (J x y ↔ rx = ry) := fun hx hy h1 h2 => by
      rw [h.jn _ _ hx hy]
      constructor
      · rintro ⟨r, g1, g2⟩; exact (h1.one g1).trans (h2.one g2).symm
      · intro e; subst e; exact ⟨_, h1, h2⟩
    have ti := hang_rt hpa hpb hne _ i ri hi'.2.choose_spec hi'.1
    have tj := hang_rt hpa hpb hne _ j rj hj'.2.choose_spec hj'.1
    rw [hJ i j hi hj, key hi hj hi' hj', key hi hA hi' ra, key hj hB hj' rb, key hi hB hi' rb, key hj hA hj' ra]
    constructor
    · intro c
      refine ⟨_, ti, ?_⟩
      have : (if ri = a then b else ri) = (if rj = a then b else rj) := by
        rcases c with c | ⟨c1, c2⟩ | ⟨c1, c2⟩
        · rw [c]
        · rw [if_pos c1, if_neg (by rw [c2]; exact fun c => hne c.symm), c2]
        · rw [if_neg (by rw [c1]; exact fun c => hne c.symm), if_pos c2, c1]
      rw [this]; exact tj
    · rintro ⟨r, g1, g2⟩
      have e := (ti.one g1).trans (tj.one g2).symm
      by_cases c1 : ri = a
      · by_cases c2 : rj = a
        · exact .inl (c1.trans c2.symm)
        · rw [if_pos c1, if_neg c2] at e
          exact .inr (.inl ⟨c1, e.symm⟩)
      · by_cases c2 : rj = a
        · rw [if_neg c1, if_pos c2] at e
          exact .inr (.inr ⟨e, c2⟩)
        · rw [if_neg c1, if_neg c2] at e
          exact .inl e

/-- of how many parts -/
def rz (n : Nat) (es : List (Int × Int)) (x : Nat) : Nat := cntTo (lblT es x n) n
theorem rz_is {n : Nat} {es : List (Int × Int)} (hG : Grf n es) {x R : Nat} (hR : Reps n es x R) : rz n es x = sz R := isle_is hG hR
/-- the first k of s -/
def upto (s k : Nat) : Nat := s &&& (bit k - 1)
theorem upto_testBit (s k i : Nat) : (upto s k).testBit i = (s.testBit i && decide (i < k)) := by
  unfold upto; rw [Nat.testBit_and, testBit_all]
theorem upto_zero (s : Nat) : upto s 0 = 0 := Nat.eq_of_testBit_eq (fun i => by rw [upto_testBit]; simp)
theorem upto_yes {s k : Nat} (h : s.testBit k = true) : upto s (k + 1) = upto s k ||| bit k := Nat.eq_of_testBit_eq (fun i => by
  rw [Nat.testBit_or, upto_testBit, upto_testBit, testBit_bit]
  by_cases c : k = i
  · subst c; rw [h]; simp
  · rw [decide_eq_false c, Bool.or_false, show decide (i < k + 1) = decide (i < k) from decide_eq_decide.2 (by omega)])
theorem upto_no {s k : Nat} (h : s.testBit k = false) : upto s (k + 1) = upto s k := Nat.eq_of_testBit_eq (fun i => by
  rw [upto_testBit, upto_testBit]
  by_cases c : k = i
  · subst c; rw [h]; simp
  · rw [show decide (i < k + 1) = decide (i < k) from decide_eq_decide.2 (by omega)])
theorem upto_all {s m : Nat} (hs : s < bit m) : upto s m = s := Nat.eq_of_testBit_eq (fun i => by
  rw [upto_testBit]
  by_cases c : i < m
  · rw [decide_eq_true c, Bool.and_true]
  · rw [decide_eq_false c, Bool.and_false]
    exact (Nat.testBit_lt_two_pow (Nat.lt_of_lt_of_le hs (Nat.pow_le_pow_right (by decide) (by omega)))).symm)
/-- parts and edges, of the first k -/
def fsum (n : Nat) (es : List (Int × Int)) (s k : Nat) : Nat := rz n es (upto s k) + sz (upto s k)
/-- no ring -/
def forB (n : Nat) (es : List (Int × Int)) (s : Nat) : Bool := decide (rz n es s + sz s = n)
theorem fsum_zero {n : Nat} {es : List (Int × Int)} (hG : Grf n es) (s : Nat) : fsum n es s 0 = n := by
  unfold fsum
  rw [upto_zero]
  obtain ⟨R, hR⟩ := Reps.ex n es 0
  have hn8 : n ≤ 8 := by have := hG.n7; omega
  rw [rz_is hG hR, Reps.none hn8 hR, sz_all hn8, sz_zero]; rfl
theorem fsum_no {n : Nat} {es : List (Int × Int)} {s k : Nat} (h : s.testBit k = false) : fsum n es s (k + 1) = fsum n es s k := by
  unfold fsum; rw [upto_no h]
theorem fsum_yes {n : Nat} {es : List (Int × Int)} (hG : Grf n es) {s k : Nat} (hk : k < es.length) (hk8 : k < 8) (h : s.testBit k = true) (hj : ¬ Jn es (upto s k) (vA es k) (vB es k)) : fsum n es s (k + 1) = fsum n es s k := by
  unfold fsum
  rw [upto_yes h, sz_add hk8 (by rw [upto_testBit]; simp)]
  obtain ⟨R, hR⟩ := Reps.ex n es (upto s k)
  obtain ⟨R', hR'⟩ := Reps.ex n es (upto s k ||| bit k)
  have hn8 : n ≤ 8 := by have := hG.n7; omega
  have := Reps.less hG.ends hk hn8 (hG.lt k hk).1 (hG.lt k hk).2 hj hR hR'
  rw [rz_is hG hR, rz_is hG hR']; omega
theorem fsum_ring {n : Nat} {es : List (Int × Int)} (hG : Grf n es) {s k : Nat} (hk8 : k < 8) (h : s.testBit k = true) (hj : Jn es (upto s k) (vA es k) (vB es k)) : fsum n es s (k + 1) = fsum n es s k + 1 := by
  unfold fsum
  rw [upto_yes h, sz_add hk8 (by rw [upto_testBit]; simp)]
  obtain ⟨R, hR⟩ := Reps.ex n es (upto s k)
  obtain ⟨R', hR'⟩ := Reps.ex n es (upto s k ||| bit k)
  rw [rz_is hG hR, rz_is hG hR', Reps.same hj hR hR']; omega
theorem fsum_mono {n : Nat} {es : List (Int × Int)} (hG : Grf n es) {s k : Nat} (h8 : es.length ≤ 8) : ∀ l, k ≤ l → l ≤ es.length → fsum n es s k ≤ fsum n es s l
  | 0, hkl, _ => by rw [show k = 0 by omega]; exact Nat.le_refl _
  | l + 1, hkl, hl => by
    by_cases c : k = l + 1
    · rw [c]; exact Nat.le_refl _
    · refine Nat.le_trans (fsum_mono hG h8 l (by omega) (by omega)) ?_
      cases hb : s.testBit l
      · rw [fsum_no hb]; exact Nat.le_refl _
      · by_cases hj : Jn es (upto s l) (vA es l) (vB es l)
        · rw [fsum_ring hG (by omega) hb hj]; omega
        · rw [fsum_yes hG (by omega) (by omega) hb hj]; exact Nat.le_refl _
theorem forB_ring {n : Nat} {es : List (Int × Int)} (hG : Grf n es) {s k : Nat} (h8 : es.length ≤ 8) (hs : s < bit es.length) (hk : k < es.length) (h0 : fsum n es s k = n) (h : s.testBit k = true) (hj : Jn es (upto s k) (vA es k) (vB es k)) : forB n es s = false := by
  have h1 := fsum_ring hG (by omega) h hj
  have h2 := fsum_mono hG (s := s) (k := k + 1) h8 es.length (by omega) (Nat.le_refl _)
  have h3 : fsum n es s es.length = rz n es s + sz s := by unfold fsum; rw [upto_all hs]
  exact decide_eq_false (by omega)
theorem forB_end {n : Nat} {es : List (Int × Int)} {s : Nat} (hs : s < bit es.length) (h0 : fsum n es s es.length = n) : forB n es s = true := by
  have h3 : fsum n es s es.length = rz n es s + sz s := by unfold fsum; rw [upto_all hs]
  exact decide_eq_true (by omega)
theorem Jn.none {es : List (Int × Int)} {i j : Nat} : Jn es 0 i j ↔ i = j := by
  constructor
  · intro h
    have := h (bit i) (fun k _ c => by rw [Nat.zero_testBit] at c; cases c)
    rw [testBit_bit, testBit_bit, decide_eq_true rfl] at this
    exact of_decide_eq_true this.symm
  · rintro rfl; exact Jn.refl _ _ _
theorem Jn.step {n : Nat} {es : List (Int × Int)} (hG : Grf n es) {x e i j : Nat} (hel : e < es.length) (hi : i < n) (hj : j < n) : Jn es (x ||| bit e) i j ↔ Jn es x i j ∨ (Jn es x i (vA es e) ∧ Jn es x j (vB es e)) ∨ (Jn es x i (vB es e) ∧ Jn es x j (vA es e)) := by
  have hn := hG.n7
  constructor
  · exact Jn.more hG.ends hel (by omega) (by omega)
  · have hm : ∀ {a b}, Jn es x a b → Jn es (x ||| bit e) a b := fun h => Jn.mono (sub_or x (bit e)) h
    have he : Jn es (x ||| bit e) (vA es e) (vB es e) := Jn.edge hel (by rw [Nat.testBit_or, testBit_bit]; simp)
    rintro (h | ⟨h1, h2⟩ | ⟨h1, h2⟩)
    · exact hm h
    · exact ((hm h1).trans he).trans (hm h2).symm
    · exact ((hm h1).trans he.symm).trans (hm h2).symm

end Go.Proofs.Ytnhpefcjgaimeaa

namespace Go.Proofs.Ytnhpefcjgaimeaa
open Go.RowKit
set_option linter.unusedVariables false

/-- names in a table -/
def nm (p : Nat → Nat) : Nat → Int := fun j => (p j : Int)

end Go.Proofs.Ytnhpefcjgaimeaa
