/-
  Plain counting: ways up from a set to all are as many as ways down from all to nothing; in an antimatroid the first way up is found step by step. No program in sight.
-/
import Derived.Test.YtcljgnmlpfddiaaPaths
import Derived.Test.YtcljgnmlpfddiaaConv
namespace Go.Proofs.Ytcljgnmlpfddiaa
set_option linter.unusedVariables false

def sumTo (f : Nat → Nat) : Nat → Nat
  | 0 => 0
  | n + 1 => sumTo f n + f n
theorem sumTo_congr {f g : Nat → Nat} {n : Nat} (h : ∀ i, i < n → f i = g i) : sumTo f n = sumTo g n := by
  induction n with
  | zero => rfl
  | succ n ih => simp only [sumTo]; rw [ih (fun i hi => h i (by omega)), h n (by omega)]
theorem sumTo_zero (n : Nat) : sumTo (fun _ => 0) n = 0 := by
  induction n with
  | zero => rfl
  | succ n ih => simp only [sumTo]; rw [ih]
theorem sumTo_add (f g : Nat → Nat) (n : Nat) : sumTo (fun i => f i + g i) n = sumTo f n + sumTo g n := by
  induction n with
  | zero => rfl
  | succ n ih => simp only [sumTo]; rw [ih]; omega
theorem sumTo_swap (f : Nat → Nat → Nat) (n m : Nat) : sumTo (fun i => sumTo (fun j => f i j) m) n = sumTo (fun j => sumTo (fun i => f i j) n) m := by
  induction n with
  | zero => simp only [sumTo]; exact (sumTo_zero m).symm
  | succ n ih => simp only [sumTo]; rw [ih, ← sumTo_add]
theorem sumTo_mul (f : Nat → Nat) (c n : Nat) : sumTo (fun i => c * f i) n = c * sumTo f n := by
  induction n with
  | zero => rfl
  | succ n ih => simp only [sumTo]; rw [ih, Nat.mul_add]
theorem sumTo_mul' (f : Nat → Nat) (c n : Nat) : sumTo (fun i => f i * c) n = sumTo f n * c := by
  rw [Nat.mul_comm, ← sumTo_mul]; exact sumTo_congr (fun i _ => Nat.mul_comm _ _)
/-- one place alone -/
theorem sumTo_at {f : Nat → Nat} {n k : Nat} (hk : k < n) (h : ∀ i, i < n → i ≠ k → f i = 0) : sumTo f n = f k := by
  induction n with
  | zero => omega
  | succ n ih =>
    simp only [sumTo]
    by_cases e : k = n
    · subst e
      have : sumTo f k = 0 := by rw [sumTo_congr (g := fun _ => 0) (fun i hi => h i (by omega) (by omega))]; exact sumTo_zero k
      omega
    · rw [ih (by omega) (fun i hi hne => h i (by omega) hne), h n (by omega) (fun x => e x.symm)]; omega
theorem sumTo_none {f : Nat → Nat} {n : Nat} (h : ∀ i, i < n → f i = 0) : sumTo f n = 0 := by rw [sumTo_congr h]; exact sumTo_zero n

/-- a step up from a, by element i, to c, both in the list -/
def stepUp (l : List Int) (a i c : Nat) : Prop := a.testBit i = false ∧ c = a + bit i ∧ (a : Int) ∈ l ∧ (c : Int) ∈ l
instance (l a i c) : Decidable (stepUp l a i c) := by unfold stepUp; infer_instance
def edges (l : List Int) (m a c : Nat) : Nat := sumTo (fun i => if stepUp l a i c then 1 else 0) m
def upF (l : List Int) (m N : Nat) : Nat → Nat → Nat → Nat
  | 0, a, b => if a = b then 1 else 0
  | f + 1, a, b => sumTo (fun c => edges l m a c * upF l m N f c b) N
def dnF (l : List Int) (m N : Nat) : Nat → Nat → Nat → Nat
  | 0, a, b => if a = b then 1 else 0
  | f + 1, a, b => sumTo (fun c => dnF l m N f a c * edges l m c b) N
theorem upF_last (l : List Int) (m N f : Nat) : ∀ a b, a < N → b < N → upF l m N (f + 1) a b = sumTo (fun c => upF l m N f a c * edges l m c b) N := by
  induction f with
  | zero =>
    intro a b ha hb
    show sumTo (fun c => edges l m a c * upF l m N 0 c b) N = _
    rw [sumTo_at hb (fun i _ hne => by show _ * (if i = b then 1 else 0) = 0; rw [if_neg hne, Nat.mul_zero])]
    rw [sumTo_at ha (fun i _ hne => by show (if a = i then 1 else 0) * _ = 0; rw [if_neg (Ne.symm hne), Nat.zero_mul])]
    show _ * (if b = b then 1 else 0) = (if a = a then 1 else 0) * _
    simp
  | succ f ih =>
    intro a b ha hb
    show sumTo (fun c => edges l m a c * upF l m N (f + 1) c b) N = _
    rw [sumTo_congr (g := fun c => sumTo (fun d => edges l m a c * (upF l m N f c d * edges l m d b)) N) (fun c hc => by rw [ih c b hc hb, sumTo_mul])]
    rw [sumTo_swap]
    refine sumTo_congr (fun d _ => ?_)
    show _ = sumTo (fun c => edges l m a c * upF l m N f c d) N * _
    rw [← sumTo_mul']
    exact sumTo_congr (fun c _ => by rw [Nat.mul_assoc])
theorem up_eq_dn (l : List Int) (m N f : Nat) : ∀ a b, a < N → b < N → upF l m N f a b = dnF l m N f a b := by
  induction f with
  | zero => intro a b _ _; rfl
  | succ f ih =>
    intro a b ha hb
    rw [upF_last l m N f a b ha hb]
    exact sumTo_congr (fun c hc => by rw [ih a c ha hc])

/-- the steps up from a, element by element -/
theorem up_step {l : List Int} {m a b f : Nat} (hm : m ≤ 8) (ha : a < bit m) (hal : (a : Int) ∈ l) : upF l m (bit m) (f + 1) a b = sumTo (fun i => if a.testBit i = false ∧ ((a : Int) + (bit i : Int)) ∈ l then upF l m (bit m) f (a + bit i) b else 0) m := by
  show sumTo (fun c => edges l m a c * upF l m (bit m) f c b) (bit m) = _
  unfold edges
  rw [sumTo_congr (g := fun c => sumTo (fun i => (if stepUp l a i c then 1 else 0) * upF l m (bit m) f c b) m) (fun c _ => by rw [sumTo_mul'])]
  rw [sumTo_swap]
  refine sumTo_congr (fun i hi => ?_)
  by_cases h : a.testBit i = false ∧ ((a : Int) + (bit i : Int)) ∈ l
  · rw [if_pos h]
    have hlt := (rem_step hm ha hi h.1).2
    rw [sumTo_at hlt (fun c _ hne => by rw [if_neg (fun hs => hne hs.2.1), Nat.zero_mul])]
    rw [if_pos ⟨h.1, rfl, hal, by rw [show ((a + bit i : Nat) : Int) = (a : Int) + (bit i : Int) by omega]; exact h.2⟩, Nat.one_mul]
  · rw [if_neg h]
    exact sumTo_none (fun c _ => by
      rw [if_neg (fun hs => h ⟨hs.1, by have := hs.2.2.2; rw [hs.2.1, show ((a + bit i : Nat) : Int) = (a : Int) + (bit i : Int) by omega] at this; exact this⟩), Nat.zero_mul])
/-- the steps down from b -/
theorem dn_step {l : List Int} {m a b f : Nat} (hm : m ≤ 8) (hb : b < bit m) (hbl : (b : Int) ∈ l) : dnF l m (bit m) (f + 1) a b = sumTo (fun i => if b.testBit i = true ∧ ((b - bit i : Nat) : Int) ∈ l then dnF l m (bit m) f a (b - bit i) else 0) m := by
  have hbb := bit_le m hm
  show sumTo (fun c => dnF l m (bit m) f a c * edges l m c b) (bit m) = _
  unfold edges
  rw [sumTo_congr (g := fun c => sumTo (fun i => dnF l m (bit m) f a c * (if stepUp l c i b then 1 else 0)) m) (fun c _ => by rw [sumTo_mul])]
  rw [sumTo_swap]
  refine sumTo_congr (fun i hi => ?_)
  have key : ∀ c, stepUp l c i b → c < bit m → b.testBit i = true ∧ c = b - bit i := by
    intro c h hc
    have h1 := or_bit c i (by omega) (by omega) h.1
    have h2 : b = c ||| bit i := by rw [h1]; exact h.2.1
    refine ⟨by rw [h2, Nat.testBit_or, testBit_bit]; simp, by have := h.2.1; omega⟩
  by_cases h : b.testBit i = true ∧ ((b - bit i : Nat) : Int) ∈ l
  · rw [if_pos h]
    have hle := bit_le_of_mem b i (by omega) (by omega) h.1
    have hs : stepUp l (b - bit i) i b := by
      refine ⟨?_, by omega, h.2, hbl⟩
      rw [← nand_bit b i (by omega) (by omega) h.1, nand_testBit, testBit_bit]; simp
    rw [sumTo_at (show b - bit i < bit m by omega) (fun c hc hne => by rw [if_neg (fun hs => hne (key c hs hc).2), Nat.mul_zero])]
    rw [if_pos hs, Nat.mul_one]
  · rw [if_neg h]
    exact sumTo_none (fun c hc => by
      rw [if_neg (fun hs => h ⟨(key c hs hc).1, by rw [← (key c hs hc).2]; exact hs.2.2.1⟩), Nat.mul_zero])

/-- Takings counts the ways up -/
theorem takLoop_sum (l : List Int) (f : Nat → Nat × List Int) (s k : Nat) : (takLoop l f s k).1 = sumTo (fun i => if s.testBit i = false ∧ ((s : Int) + (bit i : Int)) ∈ l then (f (s + bit i)).1 else 0) k := by
  induction k with
  | zero => rfl
  | succ k ih =>
    show (takStep l f s (takLoop l f s k) k).1 = _
    simp only [sumTo]
    rw [← ih]
    unfold takStep
    cases h : s.testBit k
    · simp only [Bool.false_eq_true, if_false, true_and]
      split <;> simp
    · simp
theorem tak_up {l : List Int} {m : Nat} (hm : m ≤ 8) (f : Nat) : ∀ s, s < bit m → rem m s = f → (s : Int) ∈ l → (tak l m f s).1 = upF l m (bit m) f s (bit m - 1) := by
  induction f with
  | zero =>
    intro s hs hr _
    have := (rem_zero hm hs).1 hr
    show (if s = bit m - 1 then (1, []) else (0, []) : Nat × List Int).1 = if s = bit m - 1 then 1 else 0
    rw [if_pos this, if_pos this]
  | succ f ih =>
    intro s hs hr hsl
    have hne : s ≠ bit m - 1 := fun e => by have := (rem_zero hm hs).2 e; omega
    rw [up_step hm hs hsl]
    show (if s = bit m - 1 then (1, []) else takLoop l (tak l m f) s m).1 = _
    rw [if_neg hne, takLoop_sum]
    refine sumTo_congr (fun i hi => ?_)
    by_cases h : s.testBit i = false ∧ ((s : Int) + (bit i : Int)) ∈ l
    · rw [if_pos h, if_pos h]
      have h2 := rem_step hm hs hi h.1
      exact ih _ h2.2 (by omega) (by rw [show ((s + bit i : Nat) : Int) = (s : Int) + (bit i : Int) by omega]; exact h.2)
    · rw [if_neg h, if_neg h]

/-! ### the first way up -/
/-- the first element by which one can go on -/
def nx (l : List Int) (m s i : Nat) : Prop := i < m ∧ s.testBit i = false ∧ ((s : Int) + (bit i : Int)) ∈ l ∧ ∀ j, j < i → ¬ (s.testBit j = false ∧ ((s : Int) + (bit j : Int)) ∈ l)
theorem nx_of_some {l : List Int} {m s i : Nat} (hi : i < m) (h : s.testBit i = false ∧ ((s : Int) + (bit i : Int)) ∈ l) : ∃ j, nx l m s j := by
  induction i using Nat.strongRecOn with
  | ind i ih =>
    by_cases c : ∃ j, j < i ∧ s.testBit j = false ∧ ((s : Int) + (bit j : Int)) ∈ l
    · obtain ⟨j, hj, h2⟩ := c
      exact ih j hj (by omega) h2
    · exact ⟨i, hi, h.1, h.2, fun j hj h2 => c ⟨j, hj, h2⟩⟩
/-- in an antimatroid one can always go on -/
theorem good_next {n : Int} {m : Nat} {l : List Int} (hnm : n = m) (hf : isFam n l) (hg : Good n l) {s : Nat} (hs : s < bit m) (hsl : (s : Int) ∈ l) (hne : s ≠ bit m - 1) : ∃ i, nx l m s i := by
  have hm : m ≤ 8 := by have := hf.2.1; omega
  have hb := bit_le m hm
  have hall : all n = ((bit m - 1 : Nat) : Int) := by rw [hnm, all_nat]
  -- a set of the list that is not within s: one element out of it joins s
  have key : ∀ t : Nat, (t : Int) ∈ l → t ||| s ≠ s → ∃ i, i < m ∧ s.testBit i = false ∧ ((s : Int) + (bit i : Int)) ∈ l := by
    intro t
    induction t using Nat.strongRecOn with
    | ind t ih =>
      intro htl hts
      have ht : t < bit m := by have := (fam_mem hf htl).2; rw [hall] at this; omega
      rcases (hg.2.2 t htl).1 with h0 | ⟨e, he, hte, hm2⟩
      · subst h0; exact absurd (Nat.zero_or s) hts
      · have hle := bit_le_of_mem t e (by omega) he hte
        have hbe := bit_lt e he
        by_cases c : (t - bit e) ||| s = s
        · -- e is what joins
          have hse : s.testBit e = false := by
            cases hse : s.testBit e
            · rfl
            · exfalso
              apply hts
              rw [or_eq_iff] at c ⊢
              intro i hi
              by_cases hie : i = e
              · subst hie; exact hse
              · refine c i ?_
                rw [← nand_bit t e (by omega) he hte, nand_testBit, hi, testBit_bit]
                simp [Ne.symm hie]
          have hor : s ||| t = s + bit e := by
            rw [← or_bit s e (by omega) he hse]
            apply Nat.eq_of_testBit_eq
            intro i
            rw [Nat.testBit_or, Nat.testBit_or, testBit_bit]
            by_cases hie : e = i
            · subst hie; simp [hte]
            · simp only [hie, decide_false, Bool.or_false]
              cases hti : t.testBit i
              · simp
              · rw [or_eq_iff] at c
                have := c i (by rw [← nand_bit t e (by omega) he hte, nand_testBit, hti, testBit_bit]; simp [hie])
                simp [this]
          have hj := (hg.2.2 s hsl).2 t htl
          rw [hor] at hj
          have hlt : s + bit e < bit m := by have := (fam_mem hf hj).2; rw [hall] at this; omega
          refine ⟨e, ?_, hse, by rw [show (s : Int) + (bit e : Int) = ((s + bit e : Nat) : Int) by omega]; exact hj⟩
          have := (lt_pow_iff m t hm (by omega)).1 ht e he hte
          exact this
        · exact ih (t - bit e) (by omega) hm2 c
  obtain ⟨i, hi, h⟩ := key (bit m - 1) (by have := hg.2.1; rw [hall] at this; exact this) (by
    intro h
    apply hne
    refine eq_of_bits (by omega) (by omega) (fun i hi => ?_)
    rw [testBit_all]
    by_cases c : i < m
    · rw [or_eq_iff] at h
      have := h i (by rw [testBit_all]; simpa using c)
      simp [c, this]
    · cases hsi : s.testBit i
      · simp [c]
      · have := (lt_pow_iff m s hm (by omega)).1 hs i hi hsi
        omega)
  exact nx_of_some hi h

theorem takLoop_before {l : List Int} {f : Nat → Nat × List Int} {s i : Nat} (h : ∀ j, j < i → ¬ (s.testBit j = false ∧ ((s : Int) + (bit j : Int)) ∈ l)) : takLoop l f s i = (0, []) := by
  induction i with
  | zero => rfl
  | succ i ih =>
    show takStep l f s (takLoop l f s i) i = _
    rw [ih (fun j hj => h j (by omega))]
    unfold takStep
    have := h i (by omega)
    split
    · rfl
    · rename_i h1
      rw [if_neg (fun h2 => this ⟨by simpa using h1, h2⟩)]
theorem takLoop_after {l : List Int} {f : Nat → Nat × List Int} {s i k : Nat} (hi : s.testBit i = false ∧ ((s : Int) + (bit i : Int)) ∈ l) (h : ∀ j, j < i → ¬ (s.testBit j = false ∧ ((s : Int) + (bit j : Int)) ∈ l)) (hp : 0 < (f (s + bit i)).1) (hk : i < k) : 0 < (takLoop l f s k).1 ∧ (takLoop l f s k).2 = (i : Int) :: (f (s + bit i)).2 := by
  induction k with
  | zero => omega
  | succ k ih =>
    by_cases e : i = k
    · subst e
      show 0 < (takStep l f s (takLoop l f s i) i).1 ∧ (takStep l f s (takLoop l f s i) i).2 = _
      rw [takLoop_before h]
      unfold takStep
      rw [if_neg (by rw [hi.1]; decide), if_pos hi.2]
      simp [hp]
    · obtain ⟨h1, h2⟩ := ih (by omega)
      show 0 < (takStep l f s (takLoop l f s k) k).1 ∧ (takStep l f s (takLoop l f s k) k).2 = _
      unfold takStep
      split
      · exact ⟨h1, h2⟩
      · split
        · refine ⟨by show 0 < _ + _; omega, ?_⟩
          show (if _ then _ else _ : List Int) = _
          rw [if_neg (by omega)]; exact h2
        · exact ⟨h1, h2⟩
theorem tak_pos {n : Int} {m : Nat} {l : List Int} (hnm : n = m) (hf : isFam n l) (hg : Good n l) (f : Nat) : ∀ s, s < bit m → rem m s = f → (s : Int) ∈ l → 0 < (tak l m f s).1 := by
  have hm : m ≤ 8 := by have := hf.2.1; omega
  induction f with
  | zero =>
    intro s hs hr _
    show 0 < (if s = bit m - 1 then (1, []) else (0, []) : Nat × List Int).1
    rw [if_pos ((rem_zero hm hs).1 hr)]; decide
  | succ f ih =>
    intro s hs hr hsl
    have hne : s ≠ bit m - 1 := fun e => by have := (rem_zero hm hs).2 e; omega
    obtain ⟨i, hi, h1, h2, h3⟩ := good_next hnm hf hg hs hsl hne
    have hr2 := rem_step hm hs hi h1
    show 0 < (if s = bit m - 1 then (1, []) else takLoop l (tak l m f) s m).1
    rw [if_neg hne]
    refine (takLoop_after ⟨h1, h2⟩ h3 (ih _ hr2.2 (by omega) ?_) hi).1
    rw [show ((s + bit i : Nat) : Int) = (s : Int) + (bit i : Int) by omega]; exact h2
/-- one step of the first way -/
theorem tak_next {n : Int} {m : Nat} {l : List Int} (hnm : n = m) (hf : isFam n l) (hg : Good n l) {f s i : Nat} (hs : s < bit m) (hr : rem m s = f + 1) (hi : nx l m s i) : (tak l m (f + 1) s).2 = (i : Int) :: (tak l m f (s + bit i)).2 ∧ s + bit i < bit m ∧ rem m (s + bit i) = f ∧ ((s + bit i : Nat) : Int) ∈ l := by
  have hm : m ≤ 8 := by have := hf.2.1; omega
  obtain ⟨h0, h1, h2, h3⟩ := hi
  have hne : s ≠ bit m - 1 := fun e => by have := (rem_zero hm hs).2 e; omega
  have hr2 := rem_step hm hs h0 h1
  have hl : ((s + bit i : Nat) : Int) ∈ l := by rw [show ((s + bit i : Nat) : Int) = (s : Int) + (bit i : Int) by omega]; exact h2
  refine ⟨?_, hr2.2, by omega, hl⟩
  show (if s = bit m - 1 then (1, []) else takLoop l (tak l m f) s m).2 = _
  rw [if_neg hne]
  exact (takLoop_after ⟨h1, h2⟩ h3 (tak_pos hnm hf hg f _ hr2.2 (by omega) hl) h0).2

end Go.Proofs.Ytcljgnmlpfddiaa
