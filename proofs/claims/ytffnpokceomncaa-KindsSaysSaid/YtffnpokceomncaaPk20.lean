
/-
  Elimination step by step, plainly: the determinant's state; the reduced rows' state. No program in sight.
  Rows that are kept if they do not hang on those ahead, plainly. No program in sight.
  Matrices that are read: rows of numbers in a list of lists.
-/
import Derived.Test.YtffnpokceomncaaPk19
import Derived.Test.YtffnpokceomncaaPk08
namespace Go.Proofs.Ytffnpokceomncaa
set_option linter.unusedVariables false

/-- numbers below p -/
def Small (p N C : Nat) (M : Nat → Nat → Int) : Prop := ∀ i j, i < N → j < C → 0 ≤ M i j ∧ M i j < p
/-- row r with t times row q added, modulo p, at the places from lo to hi -/
def addT (p : Nat) (M : Nat → Nat → Int) (r q : Nat) (t : Int) (lo hi : Nat) : Nat → Nat → Int := fun i j => if i = r ∧ lo ≤ j ∧ j < hi then (M r j + t * M q j) % (p : Int) else M i j
theorem addT_start (p : Nat) (M : Nat → Nat → Int) (r q : Nat) (t : Int) (lo : Nat) : addT p M r q t lo lo = M := by
  funext i j; unfold addT; rw [if_neg (by omega)]
theorem addT_step (p : Nat) (M : Nat → Nat → Int) (r q : Nat) (t : Int) (lo hi : Nat) (h : lo ≤ hi) : setM (addT p M r q t lo hi) r hi ((M r hi + t * M q hi) % (p : Int)) = addT p M r q t lo (hi + 1) := by
  funext i j
  unfold setM addT
  by_cases c : i = r ∧ j = hi
  · obtain ⟨rfl, rfl⟩ := c
    rw [if_pos ⟨rfl, rfl⟩, if_pos ⟨rfl, by omega, by omega⟩]
  · rw [if_neg c]
    by_cases d : i = r ∧ lo ≤ j ∧ j < hi
    · rw [if_pos d, if_pos ⟨d.1, d.2.1, by omega⟩]
    · rw [if_neg d, if_neg (fun e => by
        by_cases f : j = hi
        · exact c ⟨e.1, f⟩
        · exact d ⟨e.1, e.2.1, by omega⟩)]
theorem addT_other {p : Nat} {M : Nat → Nat → Int} {r q : Nat} {t : Int} {lo hi i : Nat} (h : i ≠ r) (j : Nat) : addT p M r q t lo hi i j = M i j := by unfold addT; rw [if_neg (fun e => h e.1)]
theorem addT_at {p : Nat} {M : Nat → Nat → Int} {r q : Nat} {t : Int} {lo hi j : Nat} (h1 : lo ≤ j) (h2 : j < hi) : addT p M r q t lo hi r j = (M r j + t * M q j) % (p : Int) := by unfold addT; rw [if_pos ⟨rfl, h1, h2⟩]
theorem addT_past {p : Nat} {M : Nat → Nat → Int} {r q : Nat} {t : Int} {lo hi j : Nat} (h : ¬ (lo ≤ j ∧ j < hi)) : addT p M r q t lo hi r j = M r j := by unfold addT; rw [if_neg (fun e => h e.2)]
theorem mod_small (p : Nat) (hp : 0 < p) (a : Int) : 0 ≤ a % (p : Int) ∧ a % (p : Int) < p := ⟨Int.emod_nonneg _ (by omega), Int.emod_lt_of_pos _ (by omega)⟩
theorem Small.add {p N C : Nat} {M : Nat → Nat → Int} (hp : 0 < p) (h : Small p N C M) (r q : Nat) (t : Int) (lo hi : Nat) : Small p N C (addT p M r q t lo hi) := fun i j hi' hj => by
  unfold addT
  split
  · exact mod_small p hp _
  · exact h i j hi' hj
theorem Small.swap {p N C : Nat} {M : Nat → Nat → Int} (h : Small p N C M) {a b : Nat} (ha : a < N) (hb : b < N) : Small p N C (fun i => M (swp a b i)) := fun i j hi hj => h _ j (swp_lt ha hb hi) hj
/-- row r times f, modulo p, at the places ahead of hi -/
def sclT (p : Nat) (M : Nat → Nat → Int) (r : Nat) (f : Int) (hi : Nat) : Nat → Nat → Int := fun i j => if i = r ∧ j < hi then (M r j * f) % (p : Int) else M i j
theorem sclT_start (p : Nat) (M : Nat → Nat → Int) (r : Nat) (f : Int) : sclT p M r f 0 = M := by
  funext i j; unfold sclT; rw [if_neg (by omega)]
theorem sclT_step (p : Nat) (M : Nat → Nat → Int) (r : Nat) (f : Int) (hi : Nat) : setM (sclT p M r f hi) r hi ((M r hi * f) % (p : Int)) = sclT p M r f (hi + 1) := by
  funext i j
  unfold setM sclT
  by_cases c : i = r ∧ j = hi
  · obtain ⟨rfl, rfl⟩ := c
    rw [if_pos ⟨rfl, rfl⟩, if_pos ⟨rfl, by omega⟩]
  · rw [if_neg c]
    by_cases d : i = r ∧ j < hi
    · rw [if_pos d, if_pos ⟨d.1, by omega⟩]
    · rw [if_neg d, if_neg (fun e => by
        by_cases f : j = hi
        · exact c ⟨e.1, f⟩
        · exact d ⟨e.1, by omega⟩)]
theorem sclT_here (p : Nat) (M : Nat → Nat → Int) (r : Nat) (f : Int) (hi : Nat) : sclT p M r f hi r hi = M r hi := by unfold sclT; rw [if_neg (by omega)]
theorem Small.scl {p N C : Nat} {M : Nat → Nat → Int} (hp : 0 < p) (h : Small p N C M) (r : Nat) (f : Int) (hi : Nat) : Small p N C (sclT p M r f hi) := fun i j hi' hj => by
  unfold sclT
  split
  · exact mod_small p hp _
  · exact h i j hi' hj
/-- what is left at the pivot's place -/
theorem elim_zero {p : Nat} (hp : 0 < p) {x y f t : Int} (hf : (y * f) % (p : Int) = 1 % (p : Int)) (ht : t = x * f % (p : Int)) : (x + (p - t) * y) % (p : Int) = 0 := by
  have h1 : Cg p t (x * f) := by rw [ht]; exact Cg.mod _
  have h2 : Cg p (x + (p - t) * y) (x + (0 - x * f) * y) := (Cg.refl x).add ((Cg.p_zero.sub h1).mul (Cg.refl y))
  have h3 : Cg p (y * f) 1 := hf
  have h4 : Cg p (x + (0 - x * f) * y) (x - x * 1) := by
    rw [show x + (0 - x * f) * y = x - x * (y * f) by grind]
    exact (Cg.refl x).sub ((Cg.refl x).mul h3)
  have h5 := h2.trans h4
  rw [show x - x * 1 = 0 by omega] at h5
  exact Cg.zero_iff.1 h5

/-! ### the determinant -/
structure DtS (p n : Nat) (M0 M : Nat → Nat → Int) (c : Nat) (out : Int) : Prop where
  small : Small p n n M
  le : c ≤ n
  out0 : 0 ≤ out ∧ out < p
  same : Cg p (dt M0 n n 0 0) (out * dt M n (n - c) c (bit c - 1))
section
variable {p n : Nat} {M0 M M1 : Nat → Nat → Int} {c : Nat} {out : Int}
theorem DtS.start (hp : 2 ≤ p) (h : Small p n n M0) : DtS p n M0 M0 0 1 := ⟨h, Nat.zero_le _, by omega, by
  rw [Int.one_mul]; exact Cg.refl _⟩
theorem DtS.done (h : DtS p n M0 M n out) : Cg p (dt M0 n n 0 0) out := by
  have := h.same
  rw [Nat.sub_self] at this
  simp only [dt, Int.mul_one] at this
  exact this
theorem DtS.none (h : DtS p n M0 M c out) (hc : c < n) (hz : ∀ k, c ≤ k → k < n → M k c = 0) : Cg p (dt M0 n n 0 0) 0 := by
  have := h.same
  obtain ⟨f, hf⟩ : ∃ f, n = c + (f + 1) := ⟨n - c - 1, by omega⟩
  rw [show n - c = f + 1 by omega, dt_none hf hz, Int.mul_zero] at this
  exact this
theorem DtS.swap (h : DtS p n M0 M c out) (hp : 2 ≤ p) {k : Nat} (h1 : c < k) (h2 : k < n) : DtS p n M0 (fun i => M (swp c k i)) c (((p : Int) - out) % (p : Int)) where
  small := h.small.swap (by omega) h2
  le := h.le
  out0 := mod_small p (by omega) _
  same := by
    rw [dt_swap c (n - c) _ k M h1 (by omega)]
    refine h.same.trans ?_
    have : Cg p (((p : Int) - out) % (p : Int)) (0 - out) := (Cg.mod _).trans (Cg.p_zero.sub (Cg.refl _))
    have h3 := this.symm.mul (Cg.refl (-dt M n (n - c) c (bit c - 1)))
    rwa [show (0 - out) * -dt M n (n - c) c (bit c - 1) = out * dt M n (n - c) c (bit c - 1) by grind] at h3
/-- rows below made less, ahead of r -/
structure DtE (p n : Nat) (M M1 : Nat → Nat → Int) (c r : Nat) : Prop where
  small : Small p n n M1
  up : ∀ i j, i ≤ c ∨ r ≤ i → M1 i j = M i j
  zero : ∀ k, c < k → k < r → M1 k c = 0
  same : Cg p (dt M n (n - c) c (bit c - 1)) (dt M1 n (n - c) c (bit c - 1))
theorem DtE.start (h : Small p n n M) : DtE p n M M c (c + 1) := ⟨h, fun _ _ _ => rfl, fun k _ _ => by omega, Cg.refl _⟩
theorem DtE.step {r : Nat} (h : DtE p n M M1 c r) (hp : 2 ≤ p) (h1 : c < r) (h2 : r < n) {f t : Int} (hf : (M c c * f) % (p : Int) = 1 % (p : Int)) (ht : t = M1 r c * f % (p : Int)) : DtE p n M (addT p M1 r c ((p : Int) - t) c n) c (r + 1) where
  small := h.small.add (by omega) _ _ _ _ _
  up := fun i j hi => by rw [addT_other (by omega)]; exact h.up i j (by omega)
  zero := fun k hk hk2 => by
    by_cases e : k = r
    · subst e
      rw [addT_at (Nat.le_refl _) (by omega), h.up c c (.inl (Nat.le_refl _))]
      exact elim_zero (by omega) hf ht
    · rw [addT_other e]; exact h.zero k hk (by omega)
  same := by
    refine h.same.trans ?_
    have e1 := dt_more (M := M1) (M2 := fun i j => if i = r then M1 r j + ((p : Int) - t) * M1 c j else M1 i j) (n := n) (i := c) (f := n - c) (used := bit c - 1) (s := r) (t := (p : Int) - t) h1 (by omega) (fun k j hk => if_neg hk) (fun j => if_pos rfl)
    rw [← e1]
    refine dt_cg _ _ _ (fun k j hk hk2 hj hu => ?_)
    by_cases e : k = r
    · subst e
      rw [low_bits, decide_eq_false_iff_not] at hu
      rw [addT_at (by omega) hj, if_pos rfl]
      exact (Cg.mod _).symm
    · rw [addT_other e, if_neg e]; exact Cg.refl _
theorem DtS.next (h : DtS p n M0 M c out) (hp : 2 ≤ p) (hc : c < n) (g : DtE p n M M1 c n) : DtS p n M0 M1 (c + 1) ((out * M c c) % (p : Int)) where
  small := g.small
  le := hc
  out0 := mod_small p (by omega) _
  same := by
    obtain ⟨f, hf⟩ : ∃ f, n = c + (f + 1) := ⟨n - c - 1, by omega⟩
    have h1 := g.same
    rw [show n - c = f + 1 by omega, dt_down (M := M1) hf (fun k hk hk2 => g.zero k hk hk2), g.up c c (.inl (Nat.le_refl _))] at h1
    have h2 := h.same
    rw [show n - c = f + 1 by omega] at h2
    rw [show n - (c + 1) = f by omega]
    refine (h2.trans ((Cg.refl out).mul h1)).trans ?_
    rw [← Int.mul_assoc]
    exact (Cg.mod _).symm.mul (Cg.refl _)
end

/-! ### reduced rows -/
structure RdS (p C N : Nat) (M0 M : Nat → Nat → Int) (c : Nat) (A : List Nat) : Prop where
  small : Small p N C M
  le : A.length ≤ N
  eq : SpEq p C N M0 M
  at_lt : ∀ i, i < A.length → A.getD i 0 < c
  rise : ∀ i k, i < k → k < A.length → A.getD i 0 < A.getD k 0
  one : ∀ i, i < A.length → M i (A.getD i 0) = 1
  zl : ∀ i j, i < A.length → j < A.getD i 0 → M i j = 0
  zc : ∀ i k, i < A.length → k < N → k ≠ i → M k (A.getD i 0) = 0
  below : ∀ k j, A.length ≤ k → k < N → j < c → M k j = 0
section
variable {p C N : Nat} {M0 M M1 : Nat → Nat → Int} {c : Nat} {A : List Nat}
theorem RdS.start (h : Small p N C M0) : RdS p C N M0 M0 0 [] :=
  ⟨h, Nat.zero_le _, SpEq.refl _, fun i hi => by simp at hi, fun i k _ hk => by simp at hk, fun i hi => by simp at hi, fun i j hi => by simp at hi, fun i k hi => by simp at hi, fun k j _ _ hj => by omega⟩
theorem RdS.none (h : RdS p C N M0 M c A) (hz : ∀ k, A.length ≤ k → k < N → M k c = 0) : RdS p C N M0 M (c + 1) A :=
  { h with
    at_lt := fun i hi => Nat.lt_succ_of_lt (h.at_lt i hi)
    below := fun k j h1 h2 h3 => by
      by_cases e : j = c
      · subst e; exact hz k h1 h2
      · exact h.below k j h1 h2 (by omega) }
theorem RdS.swap (h : RdS p C N M0 M c A) {k : Nat} (h1 : A.length ≤ k) (h2 : k < N) : RdS p C N M0 (fun i => M (swp A.length k i)) c A := by
  have hlow : ∀ i, i < A.length → swp A.length k i = i := fun i hi => by unfold swp; rw [if_neg (by omega), if_neg (by omega)]
  have hup : ∀ i, A.length ≤ i → i < N → A.length ≤ swp A.length k i ∧ swp A.length k i < N := fun i hi hi2 => by
    unfold swp
    split
    · omega
    · split <;> omega
  exact {
    small := h.small.swap (by omega) h2
    le := h.le
    eq := h.eq.trans (SpEq.swap (by omega) h2)
    at_lt := h.at_lt
    rise := h.rise
    one := fun i hi => by show M (swp _ _ i) _ = 1; rw [hlow i hi]; exact h.one i hi
    zl := fun i j hi hj => by show M (swp _ _ i) _ = 0; rw [hlow i hi]; exact h.zl i j hi hj
    zc := fun i x hi hx hne => by
      show M (swp _ _ x) _ = 0
      by_cases e : x < A.length
      · rw [hlow x e]; exact h.zc i x hi hx hne
      · have := hup x (by omega) hx
        exact h.zc i _ hi this.2 (by omega)
    below := fun x j hx hx2 hj => by
      have := hup x hx hx2
      exact h.below _ j this.1 this.2 hj }
theorem RdS.scale (h : RdS p C N M0 M c A) (hp : PrimeP p) (hA : A.length < N) {f : Int} (hf : (M A.length c * f) % (p : Int) = 1) : RdS p C N M0 (sclT p M A.length f C) c A := by
  have hf0 : ¬ Cg p f 0 := fun hc => by
    have := (Cg.refl (M A.length c)).mul hc
    rw [Int.mul_zero, Cg.zero_iff, hf] at this
    omega
  have hlow : ∀ i j, i ≠ A.length → sclT p M A.length f C i j = M i j := fun i j hi => by unfold sclT; rw [if_neg (fun e => hi e.1)]
  have hz : ∀ j, M A.length j = 0 → sclT p M A.length f C A.length j = 0 := fun j hj => by
    unfold sclT
    split
    · rw [hj]; simp
    · exact hj
  exact {
    small := h.small.scl (by have := hp.le; omega) _ _ _
    le := h.le
    eq := h.eq.trans (SpEq.scale hp hA hf0 (fun i j _ _ hi => Cg.of_eq (hlow i j hi)) (fun j hj => by
      unfold sclT
      rw [if_pos ⟨rfl, hj⟩, Int.mul_comm f]
      exact Cg.mod _))
    at_lt := h.at_lt
    rise := h.rise
    one := fun i hi => by rw [hlow i _ (by omega)]; exact h.one i hi
    zl := fun i j hi hj => by rw [hlow i _ (by omega)]; exact h.zl i j hi hj
    zc := fun i x hi hx hne => by
      by_cases e : x = A.length
      · subst e; exact hz _ (h.zc i _ hi hx hne)
      · rw [hlow x _ e]; exact h.zc i x hi hx hne
    below := fun x j hx hx2 hj => by
      by_cases e : x = A.length
      · subst e; exact hz _ (h.below _ j hx hx2 hj)
      · rw [hlow x _ e]; exact h.below x j hx hx2 hj }
/-- other rows made less, ahead of row i0 -/
structure RdE (p C N : Nat) (M0 M : Nat → Nat → Int) (c : Nat) (A : List Nat) (i0 : Nat) : Prop where
  st : RdS p C N M0 M c A
  one : M A.length c = 1
  zero : ∀ i, i < i0 → i < N → i ≠ A.length → M i c = 0
theorem RdE.start (h : RdS p C N M0 M c A) (h1 : M A.length c = 1) : RdE p C N M0 M c A 0 := ⟨h, h1, fun i hi => by omega⟩
theorem RdE.skip {i0 : Nat} (h : RdE p C N M0 M c A i0) (hs : i0 = A.length ∨ M i0 c = 0) : RdE p C N M0 M c A (i0 + 1) :=
  ⟨h.st, h.one, fun i hi hi2 hne => by
    by_cases e : i = i0
    · subst e
      rcases hs with hs | hs
      · exact absurd hs hne
      · exact hs
    · exact h.zero i (by omega) hi2 hne⟩
theorem RdE.step {i0 : Nat} (h : RdE p C N M0 M c A i0) (hp : PrimeP p) (hc : c < C) (hA : A.length < N) (hi : i0 < N) (hne : i0 ≠ A.length) : RdE p C N M0 (addT p M i0 A.length ((p : Int) - M i0 c) 0 C) c A (i0 + 1) := by
  have hp2 := hp.le
  have hlow : ∀ i j, i ≠ i0 → addT p M i0 A.length ((p : Int) - M i0 c) 0 C i j = M i j := fun i j hx => addT_other hx j
  have hkeep : ∀ j, j < C → M A.length j = 0 → addT p M i0 A.length ((p : Int) - M i0 c) 0 C i0 j = M i0 j := fun j hj hz => by
    rw [addT_at (Nat.zero_le _) hj, hz, Int.mul_zero, Int.add_zero]
    have := h.st.small i0 j hi hj
    exact Int.emod_eq_of_lt this.1 this.2
  have hatC : ∀ i, i < A.length → A.getD i 0 < C := fun i hx => by have := h.st.at_lt i hx; omega
  refine ⟨{
    small := h.st.small.add (by omega) _ _ _ _ _
    le := h.st.le
    eq := h.st.eq.trans (SpEq.more hp hi hA (fun e => hne e.symm) (u := 1) (t := (p : Int) - M i0 c) (fun e => by
      rw [Cg.zero_iff, Int.emod_eq_of_lt (by omega) (by omega)] at e; omega) (fun i j _ _ hx => Cg.of_eq (hlow i j hx)) (fun j hj => by
      rw [addT_at (Nat.zero_le _) hj, Int.one_mul]
      exact Cg.mod _))
    at_lt := h.st.at_lt
    rise := h.st.rise
    one := fun i hx => by
      by_cases e : i = i0
      · subst e
        rw [hkeep _ (hatC i hx) (h.st.zc i _ hx hA (by omega))]; exact h.st.one i hx
      · rw [hlow i _ e]; exact h.st.one i hx
    zl := fun i j hx hj => by
      by_cases e : i = i0
      · subst e
        rw [hkeep j (by have := hatC i hx; omega) (h.st.below _ j (Nat.le_refl _) hA (by have := h.st.at_lt i hx; omega))]; exact h.st.zl i j hx hj
      · rw [hlow i _ e]; exact h.st.zl i j hx hj
    zc := fun i x hx hxN hxi => by
      by_cases e : x = i0
      · subst e
        rw [hkeep _ (hatC i hx) (h.st.zc i _ hx hA (by omega))]; exact h.st.zc i x hx hxN hxi
      · rw [hlow x _ e]; exact h.st.zc i x hx hxN hxi
    below := fun x j hx hxN hj => by
      by_cases e : x = i0
      · subst e
        rw [hkeep j (by omega) (h.st.below _ j (Nat.le_refl _) hA hj)]; exact h.st.below x j hx hxN hj
      · rw [hlow x _ e]; exact h.st.below x j hx hxN hj }, ?_, ?_⟩
  · rw [hlow _ _ (fun e => hne e.symm)]; exact h.one
  · intro i hx hxN hxne
    by_cases e : i = i0
    · subst e
      rw [addT_at (Nat.zero_le _) hc, h.one, Int.mul_one]
      rw [show M i c + ((p : Int) - M i c) = p by omega]
      simp
    · rw [hlow i _ e]; exact h.zero i (by omega) hxN hxne
theorem RdE.done (h : RdE p C N M0 M c A N) (hA : A.length < N) : RdS p C N M0 M (c + 1) (A ++ [c]) := by
  have hlt : ∀ i, i < A.length → (A ++ [c]).getD i 0 = A.getD i 0 := fun i hi => by
    rw [List.getD_eq_getElem?_getD, List.getElem?_append_left hi, ← List.getD_eq_getElem?_getD]
  have heq : (A ++ [c]).getD A.length 0 = c := by
    rw [List.getD_eq_getElem?_getD, List.getElem?_append_right (Nat.le_refl _)]; simp
  have hlen : (A ++ [c]).length = A.length + 1 := by simp
  exact {
    small := h.st.small
    le := by omega
    eq := h.st.eq
    at_lt := fun i hi => by
      by_cases e : i = A.length
      · rw [e, heq]; omega
      · rw [hlt i (by omega)]; have := h.st.at_lt i (by omega); omega
    rise := fun i k hik hk => by
      by_cases e : k = A.length
      · rw [e, heq, hlt i (by omega)]; exact h.st.at_lt i (by omega)
      · rw [hlt i (by omega), hlt k (by omega)]; exact h.st.rise i k hik (by omega)
    one := fun i hi => by
      by_cases e : i = A.length
      · rw [e, heq]; exact h.one
      · rw [hlt i (by omega)]; exact h.st.one i (by omega)
    zl := fun i j hi hj => by
      by_cases e : i = A.length
      · rw [e] at hj ⊢
        rw [heq] at hj
        exact h.st.below _ j (Nat.le_refl _) hA hj
      · rw [hlt i (by omega)] at hj; exact h.st.zl i j (by omega) hj
    zc := fun i k hi hk hne => by
      by_cases e : i = A.length
      · rw [e] at hne ⊢
        rw [heq]; exact h.zero k hk hk hne
      · rw [hlt i (by omega)]; exact h.st.zc i k (by omega) hk hne
    below := fun k j h1 h2 h3 => by
      rw [hlen] at h1
      by_cases e : j = c
      · subst e; exact h.zero k h2 h2 (by omega)
      · exact h.st.below k j (by omega) h2 (by omega) }
/-- the rows that are left: as many as there must be -/
theorem RdS.rank (h : RdS p C N M0 M c A) (hp : PrimeP p) (hc : c ≤ C) (hend : c = C ∨ A.length = N) : RankIs p C N M0 A.length := by
  refine ⟨M, fun i => A.getD i 0, ⟨fun i hi => ⟨by have := h.at_lt i hi; omega, by
    rw [h.one i hi, Cg.zero_iff]
    have := hp.le
    rw [Int.emod_eq_of_lt (by omega) (by omega)]; omega, fun j hj => Cg.of_eq (h.zl i j hi hj)⟩, fun i k hi hk e => ?_⟩, fun i hi => h.eq.fwd i (by have := h.le; omega), fun i hi => ?_⟩
  · rcases Nat.lt_trichotomy i k with d | d | d
    · have := h.rise i k d hk
      omega
    · exact d
    · have := h.rise k i d hi
      omega
  · refine (h.eq.bwd i hi).trans (fun k hk => ?_)
    by_cases d : k < A.length
    · exact InSp.mem d
    · refine InSp.zero (fun j hj => ?_)
      rcases hend with e | e
      · exact Cg.of_eq (h.below k j (by omega) hk (by omega))
      · omega
/-- where no row hangs on others all are left -/
theorem RdS.all (h : RdS p C N M0 M c A) (hp : PrimeP p) (hend : c = C ∨ A.length = N) (hI : Indep p C N M0) : A.length = N := by
  rcases hend with e | e
  · apply Classical.byContradiction
    intro hne
    have := h.le
    exact (h.eq.ind hI).row hp (r := A.length) (by omega) (fun j hj => Cg.of_eq (h.below _ j (Nat.le_refl _) (by omega) (by omega)))
  · exact e
end

end Go.Proofs.Ytffnpokceomncaa

namespace Go.Proofs.Ytffnpokceomncaa
set_option linter.unusedVariables false

/-- of the first q rows these m are kept -/
structure HgS (p C : Nat) (R : Nat → Nat → Int) (q : Nat) (K : Nat → Nat → Int) (L : Nat → Nat) (m : Nat) : Prop where
  lead : ∀ i, i < m → Lead p C (K i) (L i)
  zero : ∀ i k, i < k → k < m → Cg p (K k (L i)) 0
  sp1 : ∀ i, i < m → InSp p C q R (K i)
  sp2 : ∀ i, i < q → InSp p C m K (R i)
/-- row q, made less by the first k of those kept -/
structure HgV (p C : Nat) (R : Nat → Nat → Int) (q : Nat) (K : Nat → Nat → Int) (L : Nat → Nat) (m k : Nat) (v : Nat → Int) : Prop where
  sp : ∃ w, InSp p C m K w ∧ ∀ j, j < C → Cg p (v j) (R q j + w j)
  zero : ∀ i, i < k → Cg p (v (L i)) 0
section
variable {p C q m k : Nat} {R K : Nat → Nat → Int} {L : Nat → Nat} {v : Nat → Int}
theorem HgS.start (p C : Nat) (R K : Nat → Nat → Int) (L : Nat → Nat) : HgS p C R 0 K L 0 := ⟨fun i hi => by omega, fun i k _ hk => by omega, fun i hi => by omega, fun i hi => by omega⟩
theorem HgV.start (R : Nat → Nat → Int) (q : Nat) (K : Nat → Nat → Int) (L : Nat → Nat) (m : Nat) : HgV p C R q K L m 0 (R q) :=
  ⟨⟨fun _ => 0, InSp.zero (fun j _ => Cg.refl _), fun j _ => Cg.of_eq (by simp)⟩, fun i hi => by omega⟩
theorem HgV.step (h : HgV p C R q K L m k v) (H : HgS p C R q K L m) (hk : k < m) {v' : Nat → Int} {f : Int} (e : ∀ j, j < C → Cg p (v' j) (v j + f * K k j)) (h0 : Cg p (v' (L k)) 0) : HgV p C R q K L m (k + 1) v' := by
  obtain ⟨w, hw, he⟩ := h.sp
  refine ⟨⟨fun j => w j + f * K k j, hw.add ((InSp.mem hk).smul f), fun j hj => ?_⟩, fun i hi => ?_⟩
  · refine (e j hj).trans (((he j hj).add (Cg.refl _)).trans (Cg.of_eq (Int.add_assoc _ _ _)))
  · by_cases c : i = k
    · subst c; exact h0
    · have h1 := h.zero i (by omega)
      have h2 := H.zero i k (by omega) hk
      have h3 := h1.add ((Cg.refl f).mul h2)
      rw [Int.mul_zero, Int.add_zero] at h3
      exact (e (L i) (H.lead i (by omega)).lt).trans h3
theorem HgV.back (h : HgV p C R q K L m m v) : ∃ w, InSp p C m K w ∧ ∀ j, j < C → Cg p (R q j) (v j + w j) := by
  obtain ⟨w, hw, he⟩ := h.sp
  refine ⟨fun j => (-1) * w j, hw.smul (-1), fun j hj => ?_⟩
  have h1 := (he j hj).symm.add (Cg.refl ((-1) * w j))
  rwa [show R q j + w j + -1 * w j = R q j by omega] at h1
theorem HgV.none (h : HgV p C R q K L m m v) (H : HgS p C R q K L m) (hz : ∀ j, j < C → Cg p (v j) 0) : HgS p C R (q + 1) K L m where
  lead := H.lead
  zero := H.zero
  sp1 := fun i hi => (H.sp1 i hi).mono (by omega)
  sp2 := fun i hi => by
    by_cases c : i = q
    · subst c
      obtain ⟨w, hw, he⟩ := h.back
      exact hw.cg (fun j hj => (he j hj).trans (((hz j hj).add (Cg.refl _)).trans (Cg.of_eq (by omega))))
    · exact H.sp2 i (by omega)
theorem HgV.keep (h : HgV p C R q K L m m v) (H : HgS p C R q K L m) {l : Nat} (hl : Lead p C v l) : HgS p C R (q + 1) (fun i => if i = m then v else K i) (fun i => if i = m then l else L i) (m + 1) where
  lead := fun i hi => by
    by_cases c : i = m
    · simp only [if_pos c]; exact hl
    · simp only [if_neg c]; exact H.lead i (by omega)
  zero := fun i k hik hk => by
    have hi : ¬ i = m := by omega
    simp only [if_neg hi]
    by_cases c : k = m
    · simp only [if_pos c]; exact h.zero i (by omega)
    · simp only [if_neg c]; exact H.zero i k hik (by omega)
  sp1 := fun i hi => by
    by_cases c : i = m
    · simp only [if_pos c]
      obtain ⟨w, hw, he⟩ := h.sp
      have h1 : InSp p C (q + 1) R w := (hw.trans (fun k hk => H.sp1 k hk)).mono (by omega)
      exact ((InSp.mem (Nat.lt_succ_self q)).add h1).cg he
    · simp only [if_neg c]; exact (H.sp1 i (by omega)).mono (by omega)
  sp2 := fun i hi => by
    have hold : ∀ x, InSp p C m K x → InSp p C (m + 1) (fun i => if i = m then v else K i) x := fun x hx => (hx.trans (fun k hk => by
      have := InSp.mem (p := p) (C := C) (m := m + 1) (R := fun i => if i = m then v else K i) (show k < m + 1 by omega)
      simp only [if_neg (show ¬ k = m by omega)] at this
      exact this))
    by_cases c : i = q
    · subst c
      obtain ⟨w, hw, he⟩ := h.back
      have h1 := InSp.mem (p := p) (C := C) (m := m + 1) (R := fun i => if i = m then v else K i) (Nat.lt_succ_self m)
      simp only [if_true] at h1
      exact (h1.add (hold w hw)).cg he
    · exact hold _ (H.sp2 i (by omega))
theorem HgS.rank (H : HgS p C R q K L m) : RankIs p C q R m := ⟨K, L, ⟨H.lead, fun i k hi hk e => by
  rcases Nat.lt_trichotomy i k with c | c | c
  · have h1 := H.zero i k c hk
    rw [e] at h1
    exact absurd h1 (H.lead k hk).ne
  · exact c
  · have h1 := H.zero k i c hi
    rw [← e] at h1
    exact absurd h1 (H.lead i hi).ne⟩, H.sp1, H.sp2⟩
end

end Go.Proofs.Ytffnpokceomncaa

namespace Go.Proofs.Ytffnpokceomncaa
open Go.RowKit
set_option linter.unusedVariables false

abbrev Lls := List (List Int)
/-- lists of numbers that lie at blocks below B -/
def RowsI (B : Nat) (w : World) (ad : Option Addr) (rows : Lls) : Prop := rows ≠ [] → ∃ b off, ad = some ⟨b, off, none⟩ ∧ b < B ∧ ∀ i, i < rows.length → ∃ ad' cp', w.cell? ⟨b, off + i, none⟩ = some (.slice ad' (rows.getD i []).length cp') ∧ IntsAt B w ad' (rows.getD i []) ∧ (ad' = none → cp' = 0)
theorem RowsI.nil (B : Nat) (w : World) (ad : Option Addr) : RowsI B w ad [] := fun h => absurd rfl h
theorem RowsI.mono {B B' : Nat} {w : World} {ad : Option Addr} {rows : Lls} (h : RowsI B w ad rows) (hb : B ≤ B') : RowsI B' w ad rows := fun hne => by
  obtain ⟨b, off, e, hl, hr⟩ := h hne
  refine ⟨b, off, e, by omega, fun i hi => ?_⟩
  obtain ⟨ad', cp', hc, hI, hn⟩ := hr i hi
  exact ⟨ad', cp', hc, hI.mono hb, hn⟩
theorem RowsI.later {B : Nat} {w w' : World} {ad : Option Addr} {rows : Lls} (h : RowsI B w ad rows) (hb : Below B w w') : RowsI B w' ad rows := fun hne => by
  obtain ⟨b, off, e, hl, hr⟩ := h hne
  refine ⟨b, off, e, hl, fun i hi => ?_⟩
  obtain ⟨ad', cp', hc, hI, hn⟩ := hr i hi
  refine ⟨ad', cp', ?_, hI.later hb, hn⟩
  rw [World.cell?_of_block (w := w) (hb.block b hl)]; exact hc
theorem RowsI.to {B : Nat} {w : World} {ad : Option Addr} {rows : Lls} (h : RowsI B w ad rows) (u : Later B w) : RowsI u.val.heap.size u.val ad rows := (h.later u.below).mono u.size
theorem RowsI.at {B : Nat} {W : World} {ad : Option Addr} {rows : Lls} (h : RowsI B W ad rows) {k : Nat} (hk : k < rows.length) : ∃ b off, ad = some ⟨b, off, none⟩ ∧ b < B ∧ ∀ i, i < rows.length → ∃ ad' cp', IntsAt B W ad' (rows.getD i []) ∧ ∀ u : Later B W, u.val.cell? ⟨b, off + i, none⟩ = some (.slice ad' (rows.getD i []).length cp') := by
  obtain ⟨b, off, e, hl, hr⟩ := h (by rintro rfl; simp at hk)
  refine ⟨b, off, e, hl, fun i hi => ?_⟩
  obtain ⟨ad', cp', hc, hI, _⟩ := hr i hi
  exact ⟨ad', cp', hI, fun u => by rw [World.cell?_of_block (w := W) (u.below.block b hl)]; exact hc⟩
theorem RowsI.atN {B : Nat} {W : World} {ad : Option Addr} {rows : Lls} (h : RowsI B W ad rows) {k : Nat} (hk : k < rows.length) : ∃ b off, ad = some ⟨b, off, none⟩ ∧ b < B ∧ ∃ ad' cp', IntsAt B W ad' (rows.getD k []) ∧ (ad' = none → cp' = 0) ∧ ∀ u : Later B W, u.val.cell? ⟨b, off + k, none⟩ = some (.slice ad' (rows.getD k []).length cp') := by
  obtain ⟨b, off, e, hl, hr⟩ := h (by rintro rfl; simp at hk)
  obtain ⟨ad', cp', hc, hI, hn⟩ := hr k hk
  exact ⟨b, off, e, hl, ad', cp', hI, hn, fun u => by rw [World.cell?_of_block (w := W) (u.below.block b hl)]; exact hc⟩
/-- the number at a place -/
def ent (rows : Lls) (i j : Nat) : Int := (rows.getD i []).getD j 0

/-- a matrix modulo a prime -/
def isMatrix (p c : Int) (rows : Lls) : Prop := (p = 2 ∨ p = 3 ∨ p = 5 ∨ p = 7) ∧ (0 ≤ c ∧ c ≤ 8) ∧ rows.length ≤ 6 ∧ ∀ i, i < rows.length → ((rows.getD i []).length : Int) = c ∧ ∀ k, k < (rows.getD i []).length → 0 ≤ ent rows i k ∧ ent rows i k < p
def rowOk (p c : Int) (row : List Int) : Prop := (row.length : Int) = c ∧ ∀ k, k < row.length → 0 ≤ row.getD k 0 ∧ row.getD k 0 < p
instance (p c : Int) (row : List Int) : Decidable (rowOk p c row) := by unfold rowOk; infer_instance
instance (p c : Int) (rows : Lls) : Decidable (isMatrix p c rows) := by
  unfold isMatrix
  have : (∀ i, i < rows.length → ((rows.getD i []).length : Int) = c ∧ ∀ k, k < (rows.getD i []).length → 0 ≤ ent rows i k ∧ ent rows i k < p) ↔ ∀ i, i < rows.length → rowOk p c (rows.getD i []) := Iff.rfl
  infer_instance

end Go.Proofs.Ytffnpokceomncaa
