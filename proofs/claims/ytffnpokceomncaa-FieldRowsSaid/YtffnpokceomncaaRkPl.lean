
/-
  Rows of numbers modulo a prime: what they span, where it begins, how many there must be. No program in sight.
-/
import Derived.Test.YtffnpokceomncaaDtPl
namespace Go.Proofs.Ytffnpokceomncaa
set_option linter.unusedVariables false

def PrimeP (p : Nat) : Prop := p = 2 ∨ p = 3 ∨ p = 5 ∨ p = 7
theorem PrimeP.le {p : Nat} (h : PrimeP p) : 2 ≤ p ∧ p ≤ 7 := by unfold PrimeP at h; omega
theorem inv_nat {p : Nat} (hp : PrimeP p) : ∀ a : Nat, a < 8 → 0 < a → a < p → ∃ b, b < 8 ∧ 0 < b ∧ b < p ∧ a * b % p = 1 := by
  rcases hp with rfl | rfl | rfl | rfl <;> decide
namespace Cg
variable {p : Nat} {a b c d : Int}
theorem zero_iff : Cg p a 0 ↔ a % (p : Int) = 0 := by unfold Cg; simp
theorem inv (hp : PrimeP p) (h : ¬ Cg p a 0) : ∃ b : Int, Cg p (a * b) 1 := by
  have h2 := hp.le
  have h3 : 0 ≤ a % (p : Int) := Int.emod_nonneg _ (by omega)
  have h4 : a % (p : Int) < p := Int.emod_lt_of_pos _ (by omega)
  obtain ⟨m, hm⟩ := Int.eq_ofNat_of_zero_le h3
  rw [zero_iff] at h
  obtain ⟨b, hb, hb0, hbp, e⟩ := inv_nat hp m (by omega) (by omega) (by omega)
  refine ⟨b, ?_⟩
  have h5 : Cg p (a * b) (m * b) := ((Cg.mod a).symm.trans (of_eq hm)).mul (Cg.refl _)
  refine h5.trans ?_
  unfold Cg
  have : (m : Int) * b % p = 1 := by exact_mod_cast e
  rw [this]
  rw [Int.emod_eq_of_lt (by omega) (by omega)]
theorem cancel (hp : PrimeP p) (h : Cg p (a * b) 0) (hb : ¬ Cg p b 0) : Cg p a 0 := by
  obtain ⟨c, hc⟩ := inv hp hb
  have h1 : Cg p (a * b * c) (0 * c) := h.mul (Cg.refl _)
  have h2 : Cg p (a * (b * c)) (a * 1) := (Cg.refl a).mul hc
  rw [← Int.mul_assoc, Int.mul_one] at h2
  rw [Int.zero_mul] at h1
  exact h2.symm.trans h1
end Cg

/-- where a row begins -/
structure Lead (p C : Nat) (v : Nat → Int) (l : Nat) : Prop where
  lt : l < C
  ne : ¬ Cg p (v l) 0
  zero : ∀ j, j < l → Cg p (v j) 0
theorem Lead.uniq {p C : Nat} {v : Nat → Int} {l k : Nat} (h : Lead p C v l) (g : Lead p C v k) : l = k := by
  rcases Nat.lt_trichotomy l k with c | c | c
  · exact absurd (g.zero l c) h.ne
  · exact c
  · exact absurd (h.zero k c) g.ne
/-- what rows span -/
def InSp (p C m : Nat) (R : Nat → Nat → Int) (v : Nat → Int) : Prop := ∃ a : Nat → Int, ∀ j, j < C → Cg p (v j) (isum (fun i => a i * R i j) m)
section
variable {p C m m' : Nat} {R R' : Nat → Nat → Int} {v w : Nat → Int}
theorem InSp.mem {i : Nat} (hi : i < m) : InSp p C m R (R i) := ⟨fun k => if k = i then 1 else 0, fun j _ => by
  refine Cg.of_eq ?_
  have : isum (fun k => (if k = i then 1 else 0) * R k j) m = isum (fun k => if k = i then R k j else 0) m := isum_congr (fun k _ => by split <;> omega)
  rw [this, isum_pick (g := fun k => R k j) hi]⟩
theorem InSp.cg (h : InSp p C m R v) (e : ∀ j, j < C → Cg p (w j) (v j)) : InSp p C m R w := by
  obtain ⟨a, ha⟩ := h
  exact ⟨a, fun j hj => (e j hj).trans (ha j hj)⟩
theorem InSp.zero (h : ∀ j, j < C → Cg p (v j) 0) : InSp p C m R v := ⟨fun _ => 0, fun j hj => by
  have : isum (fun i => (0 : Int) * R i j) m = 0 := isum_zero (fun i _ => by omega)
  rw [this]; exact h j hj⟩
theorem InSp.add (h : InSp p C m R v) (g : InSp p C m R w) : InSp p C m R (fun j => v j + w j) := by
  obtain ⟨a, ha⟩ := h
  obtain ⟨b, hb⟩ := g
  refine ⟨fun i => a i + b i, fun j hj => ((ha j hj).add (hb j hj)).trans (Cg.of_eq ?_)⟩
  rw [← isum_add]
  exact isum_congr (fun i _ => by grind)
theorem InSp.smul (t : Int) (h : InSp p C m R v) : InSp p C m R (fun j => t * v j) := by
  obtain ⟨a, ha⟩ := h
  refine ⟨fun i => t * a i, fun j hj => ((Cg.refl t).mul (ha j hj)).trans (Cg.of_eq ?_)⟩
  rw [← isum_mul]
  exact isum_congr (fun i _ => by grind)
theorem InSp.sum {f : Nat → Nat → Int} {b : Nat → Int} : ∀ k, (∀ i, i < k → InSp p C m R (f i)) → InSp p C m R (fun j => isum (fun i => b i * f i j) k)
  | 0, _ => InSp.zero (fun j _ => Cg.refl _)
  | k + 1, h => (InSp.sum k (fun i hi => h i (by omega))).add ((h k (by omega)).smul (b k))
theorem InSp.trans (h : InSp p C m R v) (g : ∀ i, i < m → InSp p C m' R' (R i)) : InSp p C m' R' v := by
  obtain ⟨a, ha⟩ := h
  exact (InSp.sum (b := a) m g).cg ha
theorem InSp.mono (h : InSp p C m R v) (hm : m ≤ m') : InSp p C m' R v := h.trans (fun i hi => InSp.mem (by omega))
theorem InSp.congr (h : InSp p C m R v) (e : ∀ i j, i < m → j < C → Cg p (R i j) (R' i j)) : InSp p C m R' v := h.trans (fun i hi => (InSp.mem hi).cg (fun j hj => e i j hi hj))
end

/-- rows that begin at different places -/
structure Ech (p C m : Nat) (K : Nat → Nat → Int) (L : Nat → Nat) : Prop where
  lead : ∀ i, i < m → Lead p C (K i) (L i)
  inj : ∀ i k, i < m → k < m → L i = L k → i = k
theorem isum_one {p : Nat} {f : Nat → Int} {m i : Nat} (hi : i < m) (h : ∀ k, k < m → k ≠ i → Cg p (f k) 0) : Cg p (isum f m) (f i) := by
  have h1 : Cg p (isum f m) (isum (fun k => if k = i then f k else 0) m) := isum_cg (fun k hk => by
    by_cases c : k = i
    · rw [if_pos c]; exact Cg.refl _
    · rw [if_neg c]; exact h k hk c)
  rw [isum_pick (g := f) hi] at h1
  exact h1
/-- what they span begins where one of them does -/
theorem Ech.begins {p C m : Nat} {K : Nat → Nat → Int} {L : Nat → Nat} (hp : PrimeP p) (h : Ech p C m K L) {v : Nat → Int} (hv : InSp p C m K v) {l : Nat} (hl : Lead p C v l) : ∃ i, i < m ∧ L i = l := by
  obtain ⟨a, ha⟩ := hv
  have key : ∀ q, q < l → ∀ i, i < m → L i = q → Cg p (a i) 0 := by
    intro q
    induction q using Nat.strongRecOn with
    | _ q ih =>
      intro hq i hi e
      have h1 : Cg p (isum (fun k => a k * K k q) m) (a i * K i q) := isum_one (f := fun k => a k * K k q) hi (fun k hk hne => by
        rcases Nat.lt_trichotomy (L k) q with c | c | c
        · have := (ih (L k) c (by omega) k hk rfl).mul (Cg.refl (K k q))
          rwa [Int.zero_mul] at this
        · exact absurd (h.inj k i hk hi (by omega)) hne
        · have := (Cg.refl (a k)).mul ((h.lead k hk).zero q c)
          rwa [Int.mul_zero] at this)
      have hqC : q < C := by have := hl.lt; omega
      have h2 := ((hl.zero q hq).symm.trans (ha q hqC)).trans h1
      have hn := (h.lead i hi).ne
      rw [e] at hn
      exact Cg.cancel hp h2.symm hn
  apply Classical.byContradiction
  intro hno
  have h1 : Cg p (isum (fun k => a k * K k l) m) 0 := by
    have : Cg p (isum (fun k => a k * K k l) m) (isum (fun _ => 0) m) := isum_cg (fun k hk => by
      rcases Nat.lt_trichotomy (L k) l with c | c | c
      · have := (key (L k) c k hk rfl).mul (Cg.refl (K k l))
        rwa [Int.zero_mul] at this
      · exact absurd ⟨k, hk, c⟩ hno
      · have := (Cg.refl (a k)).mul ((h.lead k hk).zero l c)
        rwa [Int.mul_zero] at this)
    rwa [isum_zero (fun _ _ => rfl)] at this
  exact hl.ne ((ha l hl.lt).trans h1)

/-- the places as a set -/
def ldS (L : Nat → Nat) : Nat → Nat
  | 0 => 0
  | m + 1 => ldS L m ||| bit (L m)
theorem ldS_bit (L : Nat → Nat) (q : Nat) : ∀ m, (ldS L m).testBit q = true ↔ ∃ i, i < m ∧ L i = q
  | 0 => by simp [ldS]
  | m + 1 => by
    simp only [ldS]
    rw [Nat.testBit_or, Bool.or_eq_true, ldS_bit L q m, testBit_bit, decide_eq_true_eq]
    constructor
    · rintro (⟨i, hi, e⟩ | e)
      · exact ⟨i, by omega, e⟩
      · exact ⟨m, by omega, e⟩
    · rintro ⟨i, hi, e⟩
      by_cases c : i = m
      · subst c; exact .inr e
      · exact .inl ⟨i, by omega, e⟩
theorem ldS_sz (L : Nat → Nat) : ∀ m, (∀ i, i < m → L i < 8) → (∀ i k, i < m → k < m → L i = L k → i = k) → sz (ldS L m) = m
  | 0, _, _ => by unfold ldS; decide
  | m + 1, h, g => by
    simp only [ldS]
    rw [sz_add (h m (by omega)), ldS_sz L m (fun i hi => h i (by omega)) (fun i k hi hk => g i k (by omega) (by omega))]
    have : ¬ (ldS L m).testBit (L m) = true := fun c => by
      obtain ⟨i, hi, e⟩ := (ldS_bit L (L m) m).1 c
      have := g i m (by omega) (by omega) e
      omega
    simpa using this
/-- as many, whichever they are -/
theorem Ech.uniq {p C m m' : Nat} {K K' : Nat → Nat → Int} {L L' : Nat → Nat} (hp : PrimeP p) (hC : C ≤ 8) (h : Ech p C m K L) (h' : Ech p C m' K' L') (h1 : ∀ i, i < m → InSp p C m' K' (K i)) (h2 : ∀ i, i < m' → InSp p C m K (K' i)) : m = m' := by
  have e1 := ldS_sz L m (fun i hi => by have := (h.lead i hi).lt; omega) h.inj
  have e2 := ldS_sz L' m' (fun i hi => by have := (h'.lead i hi).lt; omega) h'.inj
  have : ldS L m = ldS L' m' := by
    apply Nat.eq_of_testBit_eq
    intro q
    rw [Bool.eq_iff_iff, ldS_bit, ldS_bit]
    constructor
    · rintro ⟨i, hi, e⟩
      exact h'.begins hp (h1 i hi) (e ▸ h.lead i hi)
    · rintro ⟨i, hi, e⟩
      exact h.begins hp (h2 i hi) (e ▸ h'.lead i hi)
  rw [← e1, ← e2, this]
/-- how many rows do not hang on others -/
def RankIs (p C N : Nat) (R : Nat → Nat → Int) (m : Nat) : Prop := ∃ K L, Ech p C m K L ∧ (∀ i, i < m → InSp p C N R (K i)) ∧ ∀ i, i < N → InSp p C m K (R i)
theorem RankIs.uniq {p C N N' : Nat} {R R' : Nat → Nat → Int} {m m' : Nat} (hp : PrimeP p) (hC : C ≤ 8) (h : RankIs p C N R m) (h' : RankIs p C N' R' m') (h1 : ∀ i, i < N → InSp p C N' R' (R i)) (h2 : ∀ i, i < N' → InSp p C N R (R' i)) : m = m' := by
  obtain ⟨K, L, hE, a1, a2⟩ := h
  obtain ⟨K', L', hE', b1, b2⟩ := h'
  exact hE.uniq hp hC hE' (fun i hi => ((a1 i hi).trans h1).trans b2) (fun i hi => ((b1 i hi).trans h2).trans a2)

end Go.Proofs.Ytffnpokceomncaa
