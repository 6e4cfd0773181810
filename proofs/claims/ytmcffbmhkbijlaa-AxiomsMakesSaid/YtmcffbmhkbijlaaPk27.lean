
/-
  Labels that edges spread: each vertex ends with the least one of its part. No program in sight.
  Edges without a ring: the parts' names hang on one another (plain).
  Ranks, plainly: where adding an element adds at most one, the greatest sets that have as many elements as their rank are the bases. No program in sight.
-/
import Derived.Test.YtmcffbmhkbijlaaPk26
import Derived.Test.YtmcffbmhkbijlaaPk15
import Derived.Test.YtmcffbmhkbijlaaPk10
namespace Go.Proofs.Ytmcffbmhkbijlaa
set_option linter.unusedVariables false

def lblE (es : List (Int × Int)) (x : Nat) (p : Nat → Nat) : Nat → Nat → Nat
  | 0 => p
  | k + 1 => fun j => if x.testBit k = true ∧ (j = vA es k ∨ j = vB es k) then min (lblE es x p k (vA es k)) (lblE es x p k (vB es k)) else lblE es x p k j
def lblT (es : List (Int × Int)) (x : Nat) : Nat → Nat → Nat
  | 0 => fun j => j
  | k + 1 => lblE es x (lblT es x k) es.length
theorem lblE_succ (es : List (Int × Int)) (x : Nat) (p : Nat → Nat) (k j : Nat) : lblE es x p (k+1) j = if x.testBit k = true ∧ (j = vA es k ∨ j = vB es k) then min (lblE es x p k (vA es k)) (lblE es x p k (vB es k)) else lblE es x p k j := rfl
theorem lblE_step (es : List (Int × Int)) (x : Nat) (p : Nat → Nat) (k j : Nat) : lblE es x p (k+1) j ≤ lblE es x p k j := by
  rw [lblE_succ]
  split
  · rename_i h
    rcases h.2 with rfl | rfl <;> omega
  · exact Nat.le_refl _
theorem lblE_mono (es : List (Int × Int)) (x : Nat) (p : Nat → Nat) (j : Nat) {k l : Nat} (h : k ≤ l) : lblE es x p l j ≤ lblE es x p k j := by
  induction l with
  | zero => have : k = 0 := by omega
            subst this; exact Nat.le_refl _
  | succ l ih =>
    by_cases e : k = l + 1
    · subst e; exact Nat.le_refl _
    · have := ih (by omega)
      have := lblE_step es x p l j
      omega
theorem lblE_jn {es : List (Int × Int)} {x : Nat} {p : Nat → Nat} (h : ∀ j, Jn es x j (p j)) : ∀ k, k ≤ es.length → ∀ j, Jn es x j (lblE es x p k j) := by
  intro k
  induction k with
  | zero => intro _ j; exact h j
  | succ k ih =>
    intro hk j
    have h1 := ih (by omega)
    rw [lblE_succ]
    split
    · rename_i hh
      have he := Jn.edge (es := es) (x := x) (show k < es.length by omega) hh.1
      have hA := h1 (vA es k)
      have hB := h1 (vB es k)
      rcases Nat.le_total (lblE es x p k (vA es k)) (lblE es x p k (vB es k)) with g | g
      · rw [Nat.min_eq_left g]
        rcases hh.2 with rfl | rfl
        · exact hA
        · exact he.symm.trans hA
      · rw [Nat.min_eq_right g]
        rcases hh.2 with rfl | rfl
        · exact he.trans hB
        · exact hB
    · exact h1 j
theorem lblT_jn (es : List (Int × Int)) (x : Nat) : ∀ k j, Jn es x j (lblT es x k j) := by
  intro k
  induction k with
  | zero => intro j; exact Jn.refl _ _ _
  | succ k ih => exact lblE_jn ih _ (Nat.le_refl _)

theorem chain_full {T : Nat → Nat} {C n : Nat} (h8 : ∀ k, T k < 256) (hC : C < 256) (hsub : ∀ k, sub (T k) C) (hgrow : ∀ k, sub (T k) (T (k+1))) (h0 : 1 ≤ sz (T 0)) (hstop : ∀ k, T (k+1) = T k → sub C (T k)) (hn : sz C ≤ n) : T n = C := by
  have hdone : ∀ k, T (k+1) = T k → T k = C := fun k hk => eq_of_bits (h8 k) hC (fun i hi => by rw [Bool.eq_iff_iff]; exact ⟨hsub k i, hstop k hk i⟩)
  have hkeep : ∀ k, T k = C → T (k+1) = C := fun k hk => by
    have h1 := hgrow k
    rw [hk] at h1
    exact eq_of_bits (h8 _) hC (fun i hi => by rw [Bool.eq_iff_iff]; exact ⟨hsub _ i, h1 i⟩)
  have hmain : ∀ k, T k = C ∨ k + 1 ≤ sz (T k) := by
    intro k
    induction k with
    | zero => exact .inr h0
    | succ k ih =>
      rcases ih with h | h
      · exact .inl (hkeep k h)
      · by_cases c : T (k+1) = T k
        · exact .inl (by rw [c]; exact hdone k c)
        · right
          have := sub_size (h8 (k+1)) (hgrow k) (fun g => c g.symm)
          omega
  rcases hmain n with h | h
  · exact h
  · have := sz_mono (hsub n)
    omega

theorem lblT_rep {n : Nat} {es : List (Int × Int)} (hG : Grf n es) {x i r : Nat} (hi : i < n) (hr : Rep es x r) (hj : Jn es x i r) : lblT es x n i = r := by
  have hn7 := hG.n7
  have hri : r ≤ i := hr i hj.symm
  obtain ⟨C, hC⟩ := Part.ex es x r
  have hCn : sub C (bit n - 1) := fun j hj => by
    have hsh : Shut es x (bit n - 1) := fun k hk hx => by
      rw [testBit_all, testBit_all]
      have := hG.lt k hk
      simp [this.1, this.2]
    exact hC.within hsh (by rw [testBit_all]; simp; omega) j hj
  have hsz : sz C ≤ n := by have := sz_mono hCn; rwa [sz_all (by omega)] at this
  have hT : ∀ k, ∃ T, T < 256 ∧ ∀ j, j < 8 → (T.testBit j = true ↔ j < n ∧ lblT es x k j = r) := fun k => exists_set _
  let T : Nat → Nat := fun k => Classical.choose (hT k)
  have hT8 : ∀ k, T k < 256 := fun k => (Classical.choose_spec (hT k)).1
  have hTb : ∀ k j, j < 8 → ((T k).testBit j = true ↔ j < n ∧ lblT es x k j = r) := fun k => (Classical.choose_spec (hT k)).2
  have hmin : ∀ p : Nat → Nat, (∀ j, Jn es x j (p j)) → ∀ j, Jn es x j r → r ≤ p j := fun p hp j hj => hr _ (hj.symm.trans (hp j))
  have hfull : T n = C := by
    refine chain_full hT8 hC.1 (fun k j hj => ?_) (fun k j hj => ?_) ?_ (fun k hk => ?_) hsz
    · have h8 := lt_of_testBit (hT8 k) hj
      have := (hTb k j h8).1 hj
      exact (hC.2 j h8).2 (by have h := lblT_jn es x k j; rw [this.2] at h; exact h.symm)
    · have h8 := lt_of_testBit (hT8 k) hj
      have h1 := (hTb k j h8).1 hj
      refine (hTb (k+1) j h8).2 ⟨h1.1, ?_⟩
      have hJ : Jn es x j r := by have h := lblT_jn es x k j; rw [h1.2] at h; exact h
      have h2 := hmin _ (lblT_jn es x (k+1)) j hJ
      have h3 : lblT es x (k+1) j ≤ lblT es x k j := lblE_mono es x (lblT es x k) j (Nat.zero_le _)
      omega
    · have h1 : (T 0).testBit r = true := (hTb 0 r (by omega)).2 ⟨by omega, rfl⟩
      have h2 : sub (bit r) (T 0) := fun j hj => by
        rw [testBit_bit, decide_eq_true_eq] at hj
        subst hj; exact h1
      have := sz_mono h2
      rw [sz_bit (by omega)] at this
      exact this
    · have hpull : ∀ e, e < es.length → x.testBit e = true → ∀ a b, (a = vA es e ∧ b = vB es e) ∨ (a = vB es e ∧ b = vA es e) → (T k).testBit a = true → (T k).testBit b = true := fun e he hx a b hab ha => by
        have hlt := hG.lt e he
        have hbn : b < n := by rcases hab with ⟨_, rfl⟩ | ⟨_, rfl⟩ <;> omega
        have han : a < n := by rcases hab with ⟨rfl, _⟩ | ⟨rfl, _⟩ <;> omega
        rw [← hk]
        have h1 := (hTb k a (by omega)).1 ha
        refine (hTb (k+1) b (by omega)).2 ⟨hbn, ?_⟩
        have hJa : Jn es x a r := by have h := lblT_jn es x k a; rw [h1.2] at h; exact h
        have hJab : Jn es x a b := by
          have h := Jn.edge (es := es) (x := x) he hx
          rcases hab with ⟨rfl, rfl⟩ | ⟨rfl, rfl⟩
          · exact h
          · exact h.symm
        have hJb : Jn es x b r := hJab.symm.trans hJa
        have h2 := hmin _ (lblT_jn es x (k+1)) b hJb
        have h3 : lblT es x (k+1) b ≤ lblE es x (lblT es x k) (e+1) b := lblE_mono es x (lblT es x k) b (by omega)
        have h4 : lblE es x (lblT es x k) e a ≤ lblT es x k a := lblE_mono es x (lblT es x k) a (Nat.zero_le _)
        have h5 : lblE es x (lblT es x k) (e+1) b ≤ lblE es x (lblT es x k) e a := by
          show (if x.testBit e = true ∧ (b = vA es e ∨ b = vB es e) then min (lblE es x (lblT es x k) e (vA es e)) (lblE es x (lblT es x k) e (vB es e)) else _) ≤ _
          rw [if_pos ⟨hx, by rcases hab with ⟨_, h⟩ | ⟨_, h⟩; exact .inr h; exact .inl h⟩]
          rcases hab with ⟨rfl, _⟩ | ⟨rfl, _⟩
          · exact Nat.min_le_left _ _
          · exact Nat.min_le_right _ _
        omega
      have hsh : Shut es x (T k) := fun e he hx => by
        rw [Bool.eq_iff_iff]
        exact ⟨hpull e he hx _ _ (.inl ⟨rfl, rfl⟩), hpull e he hx _ _ (.inr ⟨rfl, rfl⟩)⟩
      have hrT : (T k).testBit r = true := (hTb k r (by omega)).2 ⟨by omega, by
        have h1 := hmin _ (lblT_jn es x k) r (Jn.refl _ _ _)
        have h2 : ∀ k, lblT es x k r ≤ r := by
          intro k
          induction k with
          | zero => exact Nat.le_refl _
          | succ k ih =>
            have : lblT es x (k+1) r ≤ lblT es x k r := lblE_mono es x (lblT es x k) r (Nat.zero_le _)
            omega
        have := h2 k
        omega⟩
      exact hC.within hsh hrT
  have hiC : C.testBit i = true := (hC.2 i (by omega)).2 hj.symm
  rw [← hfull] at hiC
  exact ((hTb n i (by omega)).1 hiC).2

def cntTo (p : Nat → Nat) : Nat → Nat
  | 0 => 0
  | k + 1 => if p k = k then cntTo p k + 1 else cntTo p k
theorem cntTo_bsum (p : Nat → Nat) (k : Nat) : cntTo p k = bsum (fun i => if p i = i then 1 else 0) k := by
  induction k with
  | zero => rfl
  | succ k ih =>
    simp only [bsum, cntTo]
    split <;> omega
theorem bsum_tailL {f : Nat → Nat} {k l : Nat} (h : k ≤ l) (hf : ∀ i, k ≤ i → f i = 0) : bsum f l = bsum f k := by
  induction l with
  | zero => have : k = 0 := by omega
            subst this; rfl
  | succ l ih =>
    by_cases e : k = l + 1
    · subst e; rfl
    · simp only [bsum]
      rw [ih (by omega), hf l (by omega)]
      omega
theorem cntTo_le (p : Nat → Nat) (k : Nat) : cntTo p k ≤ k := by
  induction k with
  | zero => exact Nat.le_refl _
  | succ k ih => unfold cntTo; split <;> omega
theorem isle_is {n : Nat} {es : List (Int × Int)} (hG : Grf n es) {x R : Nat} (hR : Reps n es x R) : cntTo (lblT es x n) n = sz R := by
  have hn7 := hG.n7
  rw [cntTo_bsum, sz_sum, bsum_tailL (k := n) (l := 8) (by omega) (fun i hi => by
    cases c : R.testBit i
    · rfl
    · have := (hR.2 i (lt_of_testBit hR.1 c)).1 c
      omega)]
  refine bsum_congr (fun i hi => ?_)
  obtain ⟨r, h1, h2, h3⟩ := Rep.ex es x i
  have hl := lblT_rep hG hi h2 h3
  rw [hl]
  by_cases c : r = i
  · subst c
    rw [if_pos rfl, (hR.2 r (by omega)).2 ⟨hi, h2⟩]; rfl
  · rw [if_neg c]
    cases d : R.testBit i
    · rfl
    · exact absurd (Rep.one h2 ((hR.2 i (by omega)).1 d).2 h3.symm) c

end Go.Proofs.Ytmcffbmhkbijlaa

namespace Go.Proofs.Ytmcffbmhkbijlaa
open Go.RowKit
set_option linter.unusedVariables false

def itr (p : Nat → Nat) : Nat → Nat → Nat
  | 0, v => v
  | k + 1, v => itr p k (p v)
theorem itr_add (p : Nat → Nat) : ∀ k l v, itr p (k + l) v = itr p l (itr p k v)
  | 0, l, v => by rw [Nat.zero_add]; rfl
  | k + 1, l, v => by rw [show k + 1 + l = (k + l) + 1 by omega]; exact itr_add p k l (p v)
theorem itr_fix {p : Nat → Nat} {r : Nat} (h : p r = r) : ∀ k, itr p k r = r
  | 0 => rfl
  | k + 1 => by show itr p k (p r) = r; rw [h]; exact itr_fix h k
/-- r is v's last name -/
def Rt (p : Nat → Nat) (v r : Nat) : Prop := p r = r ∧ ∃ k, itr p k v = r
theorem Rt.self {p : Nat → Nat} {v : Nat} (h : p v = v) : Rt p v v := ⟨h, 0, rfl⟩
theorem Rt.one {p : Nat → Nat} {v r r' : Nat} (h : Rt p v r) (h' : Rt p v r') : r = r' := by
  obtain ⟨f, k, rfl⟩ := h
  obtain ⟨f', l, rfl⟩ := h'
  by_cases c : k ≤ l
  · have e : itr p l v = itr p k v := by rw [show l = k + (l - k) by omega, itr_add, itr_fix f]
    exact e.symm
  · have e : itr p k v = itr p l v := by rw [show k = l + (k - l) by omega, itr_add, itr_fix f']
    exact e
theorem Rt.step {p : Nat → Nat} {v r : Nat} (h : Rt p v r) : Rt p (p v) r := by
  obtain ⟨f, k, e⟩ := h
  cases k with
  | zero => have e : v = r := e; subst e; rw [f]; exact ⟨f, 0, rfl⟩
  | succ k => exact ⟨f, k, e⟩
theorem Rt.back {p : Nat → Nat} {v r : Nat} (h : Rt p (p v) r) : Rt p v r := by
  obtain ⟨f, k, e⟩ := h
  exact ⟨f, k + 1, e⟩
/-- a forest of names whose trees are the parts of J -/
structure UF (n : Nat) (p : Nat → Nat) (J : Nat → Nat → Prop) : Prop where
  lt : ∀ j, j < n → p j < n
  wf : ∃ d : Nat → Nat, ∀ j, j < n → p j ≠ j → d (p j) < d j
  jn : ∀ i j, i < n → j < n → (J i j ↔ ∃ r, Rt p i r ∧ Rt p j r)
theorem root_ex {n : Nat} {p : Nat → Nat} (hlt : ∀ j, j < n → p j < n) {d : Nat → Nat} (hd : ∀ j, j < n → p j ≠ j → d (p j) < d j) : ∀ k v, v < n → d v ≤ k → ∃ r, r < n ∧ Rt p v r := by
  intro k
  induction k with
  | zero =>
    intro v hv hk
    by_cases c : p v = v
    · exact ⟨v, hv, Rt.self c⟩
    · have := hd v hv c; omega
  | succ k ih =>
    intro v hv hk
    by_cases c : p v = v
    · exact ⟨v, hv, Rt.self c⟩
    · have := hd v hv c
      obtain ⟨r, hr, h⟩ := ih (p v) (hlt v hv) (by omega)
      exact ⟨r, hr, h.back⟩
theorem UF.root {n : Nat} {p : Nat → Nat} {J : Nat → Nat → Prop} (h : UF n p J) {v : Nat} (hv : v < n) : ∃ r, r < n ∧ Rt p v r := by
  obtain ⟨d, hd⟩ := h.wf
  exact root_ex h.lt hd (d v) v hv (Nat.le_refl _)
theorem UF.start (n : Nat) {J : Nat → Nat → Prop} (hJ : ∀ i j, i < n → j < n → (J i j ↔ i = j)) : UF n (fun j => j) J := by
  refine ⟨fun j h => h, ⟨fun _ => 0, fun j _ h => absurd rfl h⟩, fun i j hi hj => ?_⟩
  rw [hJ i j hi hj]
  constructor
  · intro h; subst h; exact ⟨i, Rt.self rfl, Rt.self rfl⟩
  · rintro ⟨r, h1, h2⟩
    exact ((Rt.self (p := fun j => j) (v := i) rfl).one h1).trans ((Rt.self (p := fun j => j) (v := j) rfl).one h2).symm
/-- a hangs on b from now on -/
def hang (p : Nat → Nat) (a b : Nat) : Nat → Nat := fun j => if j = a then b else p j
theorem hang_rt {p : Nat → Nat} {a b : Nat} (ha : p a = a) (hb : p b = b) (hne : a ≠ b) : ∀ k v r, itr p k v = r → p r = r → Rt (hang p a b) v (if r = a then b else r) := by
  have hbb : hang p a b b = b := by unfold hang; rw [if_neg (fun c => hne c.symm), hb]
  have hab : hang p a b a = b := by unfold hang; rw [if_pos rfl]
  intro k
  induction k with
  | zero =>
    intro v r e hr
    have e : v = r := e
    subst e
    by_cases c : v = a
    · subst c; rw [if_pos rfl]
      exact Rt.back (by rw [hab]; exact Rt.self hbb)
    · rw [if_neg c]
      exact Rt.self (by unfold hang; rw [if_neg c, hr])
  | succ k ih =>
    intro v r e hr
    have h := ih (p v) r e hr
    by_cases c : v = a
    · subst c; rw [ha] at h; exact h
    · exact Rt.back (by rw [show hang p a b v = p v by unfold hang; rw [if_neg c]]; exact h)
theorem UF.join {n : Nat} {p : Nat → Nat} {J J' : Nat → Nat → Prop} {A B a b : Nat} (h : UF n p J) (hA : A < n) (hB : B < n) (hb : b < n) (ra : Rt p A a) (rb : Rt p B b) (hne : a ≠ b) (hJ : ∀ i j, i < n → j < n → (J' i j ↔ J i j ∨ (J i A ∧ J j B) ∨ (J i B ∧ J j A))) : UF n (hang p a b) J' := by
  have hpa := ra.1
  have hpb := rb.1
  refine ⟨fun j hj => ?_, ?_, fun i j hi hj => ?_⟩
  · unfold hang; split
    · exact hb
    · exact h.lt j hj
  · obtain ⟨d, hd⟩ := h.wf
    classical
    refine ⟨fun j => if Rt p j a then d j + d b + 1 else d j, fun j hj hpj => ?_⟩
    have hnb : ¬ Rt p b a := fun c => hne (c.one (Rt.self hpb))
    by_cases c : j = a
    · subst c
      show (if Rt p (hang p j b j) j then _ else _) < (if Rt p j j then _ else _)
      rw [show hang p j b j = b by unfold hang; rw [if_pos rfl], if_neg hnb, if_pos (Rt.self hpa)]
      omega
    · have e : hang p a b j = p j := by unfold hang; rw [if_neg c]
      rw [e] at hpj
      have := hd j hj hpj
      show (if Rt p (hang p a b j) a then _ else _) < (if Rt p j a then _ else _)
      rw [e]
      by_cases c2 : Rt p j a
      · rw [if_pos c2.step, if_pos c2]; omega
      · rw [if_neg (fun c3 => c2 c3.back), if_neg c2]; exact this
  · obtain ⟨ri, hri, hi'⟩ := h.root hi
    obtain ⟨rj, hrj, hj'⟩ := h.root hj
    have key : ∀ {x y rx ry : Nat}, x < n → y < n → Rt p x rx → Rt p y ry → (J x y ↔ rx = ry) := fun hx hy h1 h2 => by
      rw [h.jn _ _ hx hy]
      constructor
      · rintro ⟨r, g1, g2⟩; exact (h1.one g1).trans (h2.one g2).symm
      · intro e; subst e; exact ⟨_, h1, h2⟩
    have ti := hang_rt hpa hpb hne _ i ri hi'.2.choose_spec hi'.1
    have tj := hang_rt hpa hpb hne _ j rj hj'.2.choose_spec hj'.1
    rw [hJ i j hi hj, key hi hj hi' hj', key hi hA hi' ra, key hj hB hj' rb, key hi hB hi' rb, key hj hA hj' ra]
    constructor
    · intro c
      refine ⟨_, ti, ?_⟩
      have : (if ri = a then b else ri) = (if rj = a then b else rj) := by
        rcases c with c | ⟨c1, c2⟩ | ⟨c1, c2⟩
        · rw [c]
        · rw [if_pos c1, if_neg (by rw [c2]; exact fun c => hne c.symm), c2]
        · rw [if_neg (by rw [c1]; exact fun c => hne c.symm), if_pos c2, c1]
      rw [this]; exact tj
    · rintro ⟨r, g1, g2⟩
      have e := (ti.one g1).trans (tj.one g2).symm
      by_cases c1 : ri = a
      · by_cases c2 : rj = a
        · exact .inl (c1.trans c2.symm)
        · rw [if_pos c1, if_neg c2] at e
          exact .inr (.inl ⟨c1, e.symm⟩)
      · by_cases c2 : rj = a
        · rw [if_neg c1, if_pos c2] at e
          exact .inr (.inr ⟨e, c2⟩)
        · rw [if_neg c1, if_neg c2] at e
          exact .inl e

/-- of how many parts -/
def rz (n : Nat) (es : List (Int × Int)) (x : Nat) : Nat := cntTo (lblT es x n) n
theorem rz_is {n : Nat} {es : List (Int × Int)} (hG : Grf n es) {x R : Nat} (hR : Reps n es x R) : rz n es x = sz R := isle_is hG hR
/-- the first k of s -/
def upto (s k : Nat) : Nat := s &&& (bit k - 1)
theorem upto_testBit (s k i : Nat) : (upto s k).testBit i = (s.testBit i && decide (i < k)) := by
  unfold upto; rw [Nat.testBit_and, testBit_all]
theorem upto_zero (s : Nat) : upto s 0 = 0 := Nat.eq_of_testBit_eq (fun i => by rw [upto_testBit]; simp)
theorem upto_yes {s k : Nat} (h : s.testBit k = true) : upto s (k + 1) = upto s k ||| bit k := Nat.eq_of_testBit_eq (fun i => by
  rw [Nat.testBit_or, upto_testBit, upto_testBit, testBit_bit]
  by_cases c : k = i
  · subst c; rw [h]; simp
  · rw [decide_eq_false c, Bool.or_false, show decide (i < k + 1) = decide (i < k) from decide_eq_decide.2 (by omega)])
theorem upto_no {s k : Nat} (h : s.testBit k = false) : upto s (k + 1) = upto s k := Nat.eq_of_testBit_eq (fun i => by
  rw [upto_testBit, upto_testBit]
  by_cases c : k = i
  · subst c; rw [h]; simp
  · rw [show decide (i < k + 1) = decide (i < k) from decide_eq_decide.2 (by omega)])
theorem upto_all {s m : Nat} (hs : s < bit m) : upto s m = s := Nat.eq_of_testBit_eq (fun i => by
  rw [upto_testBit]
  by_cases c : i < m
  · rw [decide_eq_true c, Bool.and_true]
  · rw [decide_eq_false c, Bool.and_false]
    exact (Nat.testBit_lt_two_pow (Nat.lt_of_lt_of_le hs (Nat.pow_le_pow_right (by decide) (by omega)))).symm)
/-- parts and edges, of the first k -/
def fsum (n : Nat) (es : List (Int × Int)) (s k : Nat) : Nat := rz n es (upto s k) + sz (upto s k)
/-- no ring -/
def forB (n : Nat) (es : List (Int × Int)) (s : Nat) : Bool := decide (rz n es s + sz s = n)
theorem fsum_zero {n : Nat} {es : List (Int × Int)} (hG : Grf n es) (s : Nat) : fsum n es s 0 = n := by
  unfold fsum
  rw [upto_zero]
  obtain ⟨R, hR⟩ := Reps.ex n es 0
  have hn8 : n ≤ 8 := by have := hG.n7; omega
  rw [rz_is hG hR, Reps.none hn8 hR, sz_all hn8, sz_zero]; rfl
theorem fsum_no {n : Nat} {es : List (Int × Int)} {s k : Nat} (h : s.testBit k = false) : fsum n es s (k + 1) = fsum n es s k := by
  unfold fsum; rw [upto_no h]
theorem fsum_yes {n : Nat} {es : List (Int × Int)} (hG : Grf n es) {s k : Nat} (hk : k < es.length) (hk8 : k < 8) (h : s.testBit k = true) (hj : ¬ Jn es (upto s k) (vA es k) (vB es k)) : fsum n es s (k + 1) = fsum n es s k := by
  unfold fsum
  rw [upto_yes h, sz_add hk8 (by rw [upto_testBit]; simp)]
  obtain ⟨R, hR⟩ := Reps.ex n es (upto s k)
  obtain ⟨R', hR'⟩ := Reps.ex n es (upto s k ||| bit k)
  have hn8 : n ≤ 8 := by have := hG.n7; omega
  have := Reps.less hG.ends hk hn8 (hG.lt k hk).1 (hG.lt k hk).2 hj hR hR'
  rw [rz_is hG hR, rz_is hG hR']; omega
theorem fsum_ring {n : Nat} {es : List (Int × Int)} (hG : Grf n es) {s k : Nat} (hk8 : k < 8) (h : s.testBit k = true) (hj : Jn es (upto s k) (vA es k) (vB es k)) : fsum n es s (k + 1) = fsum n es s k + 1 := by
  unfold fsum
  rw [upto_yes h, sz_add hk8 (by rw [upto_testBit]; simp)]
  obtain ⟨R, hR⟩ := Reps.ex n es (upto s k)
  obtain ⟨R', hR'⟩ := Reps.ex n es (upto s k ||| bit k)
  rw [rz_is hG hR, rz_is hG hR', Reps.same hj hR hR']; omega
theorem fsum_mono {n : Nat} {es : List (Int × Int)} (hG : Grf n es) {s k : Nat} (h8 : es.length ≤ 8) : ∀ l, k ≤ l → l ≤ es.length → fsum n es s k ≤ fsum n es s l
  | 0, hkl, _ => by rw [show k = 0 by omega]; exact Nat.le_refl _
  | l + 1, hkl, hl => by
    by_cases c : k = l + 1
    · rw [c]; exact Nat.le_refl _
    · refine Nat.le_trans (fsum_mono hG h8 l (by omega) (by omega)) ?_
      cases hb : s.testBit l
      · rw [fsum_no hb]; exact Nat.le_refl _
      · by_cases hj : Jn es (upto s l) (vA es l) (vB es l)
        · rw [fsum_ring hG (by omega) hb hj]; omega
        · rw [fsum_yes hG (by omega) (by omega) hb hj]; exact Nat.le_refl _
theorem forB_ring {n : Nat} {es : List (Int × Int)} (hG : Grf n es) {s k : Nat} (h8 : es.length ≤ 8) (hs : s < bit es.length) (hk : k < es.length) (h0 : fsum n es s k = n) (h : s.testBit k = true) (hj : Jn es (upto s k) (vA es k) (vB es k)) : forB n es s = false := by
  have h1 := fsum_ring hG (by omega) h hj
  have h2 := fsum_mono hG (s := s) (k := k + 1) h8 es.length (by omega) (Nat.le_refl _)
  have h3 : fsum n es s es.length = rz n es s + sz s := by unfold fsum; rw [upto_all hs]
  exact decide_eq_false (by omega)
theorem forB_end {n : Nat} {es : List (Int × Int)} {s : Nat} (hs : s < bit es.length) (h0 : fsum n es s es.length = n) : forB n es s = true := by
  have h3 : fsum n es s es.length = rz n es s + sz s := by unfold fsum; rw [upto_all hs]
  exact decide_eq_true (by omega)
theorem Jn.none {es : List (Int × Int)} {i j : Nat} : Jn es 0 i j ↔ i = j := by
  constructor
  · intro h
    have := h (bit i) (fun k _ c => by rw [Nat.zero_testBit] at c; cases c)
    rw [testBit_bit, testBit_bit, decide_eq_true rfl] at this
    exact of_decide_eq_true this.symm
  · rintro rfl; exact Jn.refl _ _ _
theorem Jn.step {n : Nat} {es : List (Int × Int)} (hG : Grf n es) {x e i j : Nat} (hel : e < es.length) (hi : i < n) (hj : j < n) : Jn es (x ||| bit e) i j ↔ Jn es x i j ∨ (Jn es x i (vA es e) ∧ Jn es x j (vB es e)) ∨ (Jn es x i (vB es e) ∧ Jn es x j (vA es e)) := by
  have hn := hG.n7
  constructor
  · exact Jn.more hG.ends hel (by omega) (by omega)
  · have hm : ∀ {a b}, Jn es x a b → Jn es (x ||| bit e) a b := fun h => Jn.mono (sub_or x (bit e)) h
    have he : Jn es (x ||| bit e) (vA es e) (vB es e) := Jn.edge hel (by rw [Nat.testBit_or, testBit_bit]; simp)
    rintro (h | ⟨h1, h2⟩ | ⟨h1, h2⟩)
    · exact hm h
    · exact ((hm h1).trans he).trans (hm h2).symm
    · exact ((hm h1).trans he.symm).trans (hm h2).symm

end Go.Proofs.Ytmcffbmhkbijlaa

namespace Go.Proofs.Ytmcffbmhkbijlaa
set_option linter.unusedVariables false

structure RkF (n : Nat) (ρ : Nat → Nat) : Prop where
  zero : ρ 0 = 0
  step : ∀ s i, s < bit n → i < n → ρ s ≤ ρ (s ||| bit i) ∧ ρ (s ||| bit i) ≤ ρ s + 1
  clos : ∀ s u i, s < bit n → u < bit n → i < n → sub s u → ρ (s ||| bit i) = ρ s → ρ (u ||| bit i) = ρ u

theorem lt_bitN {s n : Nat} (h : ∀ i, n ≤ i → s.testBit i = false) : s < bit n := by
  unfold bit
  exact Nat.lt_pow_two_of_testBit s (fun i hi => h i hi)
theorem bitN_lt {s n i : Nat} (h : s < bit n) (hi : n ≤ i) : s.testBit i = false := by
  unfold bit at h
  exact Nat.testBit_lt_two_pow (Nat.lt_of_lt_of_le h (Nat.pow_le_pow_right (by decide) hi))
theorem bitN_pos (n : Nat) : 0 < bit n := by unfold bit; exact Nat.two_pow_pos n
theorem or_bitN {s n i : Nat} (h : s < bit n) (hi : i < n) : s ||| bit i < bit n := lt_bitN (fun k hk => by
  rw [Nat.testBit_or, bitN_lt h hk, testBit_bit]
  simp; omega)
theorem or_ltN {s t n : Nat} (h : s < bit n) (ht : t < bit n) : s ||| t < bit n := lt_bitN (fun k hk => by
  rw [Nat.testBit_or, bitN_lt h hk, bitN_lt ht hk]; rfl)
theorem upto_lt {s n k : Nat} (h : s < bit n) : upto s k < bit n := lt_bitN (fun i hi => by
  rw [upto_testBit, bitN_lt h hi]; rfl)
theorem or_in {s i : Nat} (h : s.testBit i = true) : s ||| bit i = s := Nat.eq_of_testBit_eq (fun k => by
  rw [Nat.testBit_or, testBit_bit]
  by_cases e : i = k
  · subst e; rw [h]; simp
  · simp [e])
namespace RkF
variable {n : Nat} {ρ : Nat → Nat}
theorem le_sz (h : RkF n ρ) (hn : n ≤ 8) {s : Nat} (hs : s < bit n) : ρ s ≤ sz s := by
  have key : ∀ k, k ≤ n → ρ (upto s k) ≤ sz (upto s k) := by
    intro k
    induction k with
    | zero => intro _; rw [upto_zero, h.zero]; exact Nat.zero_le _
    | succ k ih =>
      intro hk
      have ih' := ih (by omega)
      cases hb : s.testBit k
      · rw [upto_no hb]; exact ih'
      · rw [upto_yes hb]
        have h1 := (h.step (upto s k) k (upto_lt hs) (by omega)).2
        have h2 := sz_add (a := upto s k) (i := k) (by omega) (by rw [upto_testBit]; simp)
        omega
  have := key n (Nat.le_refl _)
  rwa [upto_all hs] at this
theorem mono (h : RkF n ρ) {s t : Nat} (hs : s < bit n) (ht : t < bit n) (hst : sub s t) : ρ s ≤ ρ t := by
  have key : ∀ k, k ≤ n → ρ s ≤ ρ (s ||| upto t k) := by
    intro k
    induction k with
    | zero => intro _; rw [upto_zero, Nat.or_zero]; exact Nat.le_refl _
    | succ k ih =>
      intro hk
      have ih' := ih (by omega)
      cases hb : t.testBit k
      · rw [upto_no hb]; exact ih'
      · rw [upto_yes hb, ← Nat.or_assoc]
        have h1 := (h.step (s ||| upto t k) k (or_ltN hs (upto_lt ht)) (by omega)).1
        omega
  have := key n (Nat.le_refl _)
  rw [upto_all ht] at this
  rwa [show s ||| t = t from Nat.eq_of_testBit_eq (fun i => by
    rw [Nat.testBit_or]
    cases e : s.testBit i
    · rfl
    · rw [hst i e]; rfl)] at this
theorem greatest (h : RkF n ρ) (hn : n ≤ 8) : ∃ s, s < bit n ∧ ρ s = sz s ∧ ρ s = ρ (bit n - 1) := by
  have key : ∀ k, k ≤ n → ∃ s, s < bit k ∧ ρ s = sz s ∧ ∀ i, i < k → ρ (s ||| bit i) = ρ s := by
    intro k
    induction k with
    | zero => intro _; exact ⟨0, by decide, by rw [h.zero]; decide, fun i hi => by omega⟩
    | succ k ih =>
      intro hk
      obtain ⟨s, h1, h2, h3⟩ := ih (by omega)
      have hsk : s.testBit k = false := bitN_lt h1 (Nat.le_refl _)
      have hsn : s < bit n := lt_bitN (fun i hi => bitN_lt h1 (by omega))
      have hs1 : s < bit (k + 1) := lt_bitN (fun i hi => bitN_lt h1 (by omega))
      by_cases e : ρ (s ||| bit k) = ρ s
      · exact ⟨s, hs1, h2, fun i hi => by
          by_cases d : i = k
          · subst d; exact e
          · exact h3 i (by omega)⟩
      · have hst := h.step s k hsn (by omega)
        refine ⟨s ||| bit k, or_bitN hs1 (by omega), ?_, fun i hi => ?_⟩
        · rw [sz_add (by omega) hsk]; omega
        · by_cases d : i = k
          · subst d
            rw [or_in (by rw [Nat.testBit_or, testBit_bit]; simp)]
          · exact h.clos s (s ||| bit k) i hsn (or_bitN hsn (by omega)) (by omega) (fun x hx => by rw [Nat.testBit_or, hx]; rfl) (h3 i (by omega))
  obtain ⟨s, h1, h2, h3⟩ := key n (Nat.le_refl _)
  have all : ∀ k, k ≤ n → ρ (s ||| upto (bit n - 1) k) = ρ s := by
    intro k
    induction k with
    | zero => intro _; rw [upto_zero, Nat.or_zero]
    | succ k ih =>
      intro hk
      have ih' := ih (by omega)
      have hb : (bit n - 1).testBit k = true := by rw [testBit_all]; simp; omega
      have hlt : bit n - 1 < bit n := by have := bitN_pos n; omega
      rw [upto_yes hb, ← Nat.or_assoc, h.clos s (s ||| upto (bit n - 1) k) k h1 (or_ltN h1 (upto_lt hlt)) (by omega) (fun x hx => by rw [Nat.testBit_or, hx]; rfl) (h3 k (by omega)), ih']
  refine ⟨s, h1, h2, ?_⟩
  have hlt : bit n - 1 < bit n := by have := bitN_pos n; omega
  have := all n (Nat.le_refl _)
  rw [upto_all hlt, show s ||| (bit n - 1) = bit n - 1 from Nat.eq_of_testBit_eq (fun i => by
    rw [Nat.testBit_or, testBit_all]
    by_cases c : i < n
    · simp [c]
    · simp [c, bitN_lt h1 (show n ≤ i by omega)])] at this
  exact this.symm
/-- THE BASES -/
theorem bases (h : RkF n ρ) (hn : n ≤ 8) : biggest (those n (fun s => decide (ρ s = sz s))) = those n (ofRank n (fun s => (ρ s : Int))) := by
  rw [biggest_eq]
  have hlt : bit n - 1 < bit n := by have := bitN_pos n; omega
  have hM : mostTo (those n (fun s => decide (ρ s = sz s))) (those n (fun s => decide (ρ s = sz s))).length = ρ (bit n - 1) := by
    apply Nat.le_antisymm
    · refine mostTo_le_of (fun t ht => ?_) _ (Nat.le_refl _)
      obtain ⟨h1, h2⟩ := mem_those.1 ht
      have h3 : ρ t = sz t := by simpa using h2
      rw [← h3]
      exact h.mono h1 hlt (fun i hi => by
        rw [testBit_all]
        apply Classical.byContradiction
        intro hc
        rw [bitN_lt h1 (by simpa using hc)] at hi
        cases hi)
    · obtain ⟨s, h1, h2, h3⟩ := h.greatest hn
      have hm : s ∈ those n (fun s => decide (ρ s = sz s)) := mem_those.2 ⟨h1, by simpa using h2⟩
      obtain ⟨k, hk, e⟩ := List.getElem_of_mem hm
      have := mostTo_ge (those n (fun s => decide (ρ s = sz s))) hk
      rw [List.getD_eq_getElem?_getD, List.getElem?_eq_getElem hk, Option.getD_some, e] at this
      omega
  rw [hM]
  unfold those
  rw [List.filter_filter]
  refine List.filter_congr (fun s hs => ?_)
  unfold ofRank
  rw [Bool.eq_iff_iff]
  simp only [Bool.and_eq_true, beq_iff_eq, decide_eq_true_eq]
  omega
end RkF

/-! ### graphs -/
theorem grf_key {n : Nat} {es : List (Int × Int)} (hG : Grf n es) (s : Nat) {i : Nat} (hi : i < es.length) : (Jn es s (vA es i) (vB es i) → rz n es (s ||| bit i) = rz n es s) ∧ (¬ Jn es s (vA es i) (vB es i) → rz n es (s ||| bit i) + 1 = rz n es s) := by
  obtain ⟨R, hR⟩ := Reps.ex n es s
  obtain ⟨R', hR'⟩ := Reps.ex n es (s ||| bit i)
  have hn8 : n ≤ 8 := by have := hG.n7; omega
  rw [rz_is hG hR, rz_is hG hR']
  refine ⟨fun hj => by rw [Reps.same hj hR hR'], fun hj => ?_⟩
  have := Reps.less hG.ends hi hn8 (hG.lt i hi).1 (hG.lt i hi).2 hj hR hR'
  omega
theorem rz_le (n : Nat) (es : List (Int × Int)) (s : Nat) : rz n es s ≤ n := cntTo_le _ _
theorem grf_rk {n : Nat} {es : List (Int × Int)} (hG : Grf n es) : RkF es.length (fun s => n - rz n es s) where
  zero := by
    have := fsum_zero hG 0
    unfold fsum at this
    rw [upto_zero, sz_zero] at this
    show n - rz n es 0 = 0
    omega
  step := fun s i hs hi => by
    have hk := grf_key hG s hi
    have h1 := rz_le n es s
    show n - rz n es s ≤ n - rz n es (s ||| bit i) ∧ n - rz n es (s ||| bit i) ≤ n - rz n es s + 1
    by_cases hj : Jn es s (vA es i) (vB es i)
    · rw [hk.1 hj]; omega
    · have := hk.2 hj; omega
  clos := fun s u i hs hu hi hsu e => by
    have hk := grf_key hG s hi
    have h1 := rz_le n es s
    have e' : n - rz n es (s ||| bit i) = n - rz n es s := e
    show n - rz n es (u ||| bit i) = n - rz n es u
    by_cases hj : Jn es s (vA es i) (vB es i)
    · rw [(grf_key hG u hi).1 (hj.mono hsu)]
    · have := hk.2 hj; omega
theorem graph_bases {n : Nat} {es : List (Int × Int)} (hG : Grf n es) (h8 : es.length ≤ 8) : biggest (those es.length (forB n es)) = those es.length (ofRank es.length (fun s => (n : Int) - (rz n es s : Int))) := by
  have h1 := (grf_rk hG).bases h8
  rw [show those es.length (forB n es) = those es.length (fun s => decide (n - rz n es s = sz s)) from those_congr (fun s hs => by
    unfold forB
    rw [decide_eq_decide]
    have := rz_le n es s
    omega), h1]
  refine those_congr (fun s hs => ?_)
  unfold ofRank
  rw [decide_eq_decide]
  dsimp only
  have h2 := rz_le n es s
  have h3 := rz_le n es (bit es.length - 1)
  omega

/-! ### so many of n -/
theorem uni_bases {n r : Nat} (hn : n ≤ 8) (hr : r ≤ n) : those n (fun s => decide (sz s = r)) = those n (ofRank n (fun s => (min r (sz s) : Nat))) := by
  refine those_congr (fun s hs => ?_)
  unfold ofRank
  rw [decide_eq_decide]
  dsimp only
  rw [sz_full hn]
  omega

end Go.Proofs.Ytmcffbmhkbijlaa
